import Derived.Test.YtephpieeibcihaaGreatDoorMch
import Derived.Test.YtephpieeibcihaaGreatDoorRsw
import Derived.Test.YtephpieeibcihaaGreatDoorAdw
import Derived.Test.YtephpieeibcihaaGreatDoorAccN
import Derived.Test.YtephpieeibcihaaGreatDoorDrp
import Derived.Test.YtephpieeibcihaaGreatDoorSrc
import Derived.Test.YtephpieeibcihaaGreatDoorHrs
import Derived.Test.YtephpieeibcihaaGreatDoorShm
set_option linter.all false
namespace Go.Proofs.YtephpieeibcihaaGreatDoor
open Go Go.Am Go.Proofs
set_option maxRecDepth 20000
variable {ng : Nat}
theorem indexS_ac {own : Bool} {l : List (List UInt8)} {s : Value} {F : List Nat} {H : Heap} (hs : StrsR own H l [s] F) (n : List UInt8) : AC Tryz.prog ng 129 [s, str n] H fun v S' => v = int (findI l n) ∧ S' = H := by
  obtain ⟨a, z, rfl⟩ := hs.form
  have hb := hs.bound
  refine .flat (AC.go [] Tryz.func129 rfl Tryz.ntmps129 rfl ⟨mixed, by kernel_rfl⟩ ?_)
  simp +contextual (dsimp := false)
  refine LoopA.upc (σ := Nat) [0, 1, 7, 8] (fun i => [(8, int i)]) (fun i => i ≤ l.length ∧ ∀ y ∈ l.take i, y ≠ n) (fun i => l.length - i) 0 rfl (by simp) ?_
  rintro i ⟨hi, hv⟩
  simp +contextual (dsimp := false)
  refine ifA_dec (fun h3 => ?_) (fun h3 => ?_)
  · obtain ⟨id, o, c, e, f, ow, cs, Fi, E⟩ := SlR.get hs i h3
    obtain ⟨rfl, rfl, hok⟩ := E.rep
    have hc0 := E.cell0 (by omega)
    simp +contextual (dsimp := false) [E.idx, E.goB, E.le, hc0, wrap_succ (show i < 9223372036854775807 by omega)]
    refine ifA_dec (fun h4 => ?_) (fun h4 => ?_)
    · rw [findI_hit h3 h4.symm hv]
    · exact LoopN.of (i + 1) rfl ⟨h3, fun y hy => by
        rw [List.take_succ_eq_append_getElem h3, List.mem_append] at hy
        rcases hy with hy | hy
        · exact hv y hy
        · simp at hy
          rw [hy]
          exact fun hc => h4 hc.symm⟩ (by omega)
  · rw [List.take_of_length_le (by omega)] at hv
    rw [findI_miss hv]
end Go.Proofs.YtephpieeibcihaaGreatDoor
namespace Go.Am
open Go
def vN (ds : List Deed) : List (List UInt8 × Value) := (List.range ds.length).map fun i => ((dAt ds i).name, int (i : Int))
theorem vN_app (ds : List Deed) (d : Deed) : vN (ds ++ [d]) = vN ds ++ [(d.name, int (ds.length : Int))] := by
  unfold vN
  rw [List.length_append, List.length_singleton, List.range_succ, List.map_append, List.map_singleton, dAt_app]
  congr 1
  apply List.map_congr_left
  intro i hi
  have hi := List.mem_range.1 hi
  have : dAt (ds ++ [d]) i = dAt ds i := by simp [dAt, List.getD, List.getElem?_append_left hi]
  rw [this]
theorem vN_keys (ds : List Deed) : (vN ds).map (·.1) = namesD ds := by
  unfold vN namesD
  rw [List.map_map]
  apply List.ext_getElem
  · simp
  · intro i h1 h2
    have hi : i < ds.length := by simpa using h2
    simp [dAt_lt hi]
theorem getP_idxN (a : List UInt8) : ∀ (l : List (List UInt8 × Value)) (f : Nat → Value) (k : Nat), (∀ i (h : i < l.length), l[i].2 = f (k + i)) → a ∈ l.map (·.1) → getP a l = some (f (k + (l.map (·.1)).idxOf a))
  | [], _, _, _, h => by cases h
  | p :: l, f, k, hf, h => by
    rw [getP_cons]
    by_cases hp : a = p.1
    · rw [if_pos hp, List.map_cons, List.idxOf_cons]
      have := hf 0 (by simp)
      simp at this
      simp [hp, this]
    · rw [if_neg hp]
      have h2 : a ∈ l.map (·.1) := by
        rcases List.mem_cons.1 h with h | h
        · exact absurd h hp
        · exact h
      have := getP_idxN a l f (k + 1) (fun i hi => by
        have := hf (i + 1) (by simp; omega)
        rw [List.getElem_cons_succ] at this
        rw [this]
        congr 1
        omega) h2
      rw [this, List.map_cons, List.idxOf_cons]
      have hne : (p.1 == a) = false := by simp [Ne.symm hp]
      simp only [hne, cond_false]
      congr 2
      omega
abbrev mkrC (s1 s2 sd : Value) (mp : Nat) (sw : Value) (r : Res) (sc : Value) (b : Bool) : Array Value := #[s1, s2, sd, .map (some mp), sw, int r.code, str r.text, sc, .bool b]
structure MkrS (T : TypeId) (H : Heap) (k mp : Nat) (s1 s2 sd sw : Value) (ds : List Deed) (way : List (List UInt8)) (FD FW : List Nat) : Prop where
  blk : H[k]? = some ⟨.cells (mkrC s1 s2 sd mp sw ⟨0, [], []⟩ (.slice none 0 0) false) T (0, 0), true, true⟩
  dds : DeedsR true H ds [sd] FD
  wys : StrsR true H way [sw] FW
  map : MapR (fun s : List UInt8 => .string ⟨⟨s⟩⟩) H mp (vN ds)
  kmp : k ≠ mp
  nD : FD.Nodup
  nW : FW.Nodup
  sepD : ∀ j ∈ FD, j ≠ k ∧ j ≠ mp ∧ j ∉ FW
  sepW : ∀ j ∈ FW, j ≠ k ∧ j ≠ mp
structure MkFr (H : Heap) (k mp : Nat) (FD FW : List Nat) (H' : Heap) (FD' FW' : List Nat) : Prop where
  le : H.length ≤ H'.length
  old : ∀ j, j < H.length → j ≠ k → j ≠ mp → j ∉ FD → j ∉ FW → H'[j]? = H[j]?
  subD : ∀ j ∈ FD', j ∈ FD ∨ H.length ≤ j
  subW : ∀ j ∈ FW', j ∈ FW ∨ H.length ≤ j
theorem MkFr.refl (H : Heap) (k mp : Nat) (FD FW : List Nat) : MkFr H k mp FD FW H FD FW := ⟨Nat.le_refl _, fun _ _ _ _ _ _ => rfl, fun _ h => .inl h, fun _ h => .inl h⟩
theorem MkFr.trans {H H1 H2 : Heap} {k mp : Nat} {FD FW FD1 FW1 FD2 FW2 : List Nat} (h : MkFr H k mp FD FW H1 FD1 FW1) (h' : MkFr H1 k mp FD1 FW1 H2 FD2 FW2) : MkFr H k mp FD FW H2 FD2 FW2 := by
  refine ⟨Nat.le_trans h.le h'.le, fun j h0 h1 h2 h3 h4 => ?_, fun j hj => ?_, fun j hj => ?_⟩
  · have hle := h.le
    refine (h'.old j (by omega) h1 h2 (fun hm => ?_) (fun hm => ?_)).trans (h.old j h0 h1 h2 h3 h4)
    · rcases h.subD j hm with h5 | h5
      · exact h3 h5
      · omega
    · rcases h.subW j hm with h5 | h5
      · exact h4 h5
      · omega
  · rcases h'.subD j hj with h5 | h5
    · exact h.subD j h5
    · exact .inr (Nat.le_trans h.le h5)
  · rcases h'.subW j hj with h5 | h5
    · exact h.subW j h5
    · exact .inr (Nat.le_trans h.le h5)
theorem MkrS.lt {T : TypeId} {H : Heap} {k mp : Nat} {s1 s2 sd sw : Value} {ds : List Deed} {way : List (List UInt8)} {FD FW : List Nat} (h : MkrS T H k mp s1 s2 sd sw ds way FD FW) : k < H.length ∧ mp < H.length ∧ (∀ j ∈ FD, j < H.length) ∧ ∀ j ∈ FW, j < H.length :=
  ⟨(List.getElem?_eq_some_iff.1 h.blk).1, h.map.lt, Rp.lt h.dds, Rp.lt h.wys⟩
theorem MkrS.fr {T : TypeId} {H H' : Heap} {k mp : Nat} {s1 s2 sd sw : Value} {ds : List Deed} {way : List (List UInt8)} {FD FW : List Nat} (h : MkrS T H k mp s1 s2 sd sw ds way FD FW) (h1 : H'[k]? = H[k]?) (h2 : H'[mp]? = H[mp]?) (h3 : ∀ j ∈ FD, H'[j]? = H[j]?) (h4 : ∀ j ∈ FW, H'[j]? = H[j]?) : MkrS T H' k mp s1 s2 sd sw ds way FD FW :=
  ⟨h1.trans h.blk, Rp.fr h.dds h3, Rp.fr h.wys h4, h.map.fr h2, h.kmp, h.nD, h.nW, h.sepD, h.sepW⟩
theorem MkrS.ext {T : TypeId} {H H' : Heap} {k mp : Nat} {s1 s2 sd sw : Value} {ds : List Deed} {way : List (List UInt8)} {FD FW : List Nat} (h : MkrS T H k mp s1 s2 sd sw ds way FD FW) (he : Ext H H') : MkrS T H' k mp s1 s2 sd sw ds way FD FW := by
  obtain ⟨l1, l2, l3, l4⟩ := h.lt
  exact h.fr (he _ l1) (he _ l2) (fun j hj => he j (l3 j hj)) fun j hj => he j (l4 j hj)
end Go.Am
namespace Go.Proofs.YtephpieeibcihaaGreatDoor
open Go Go.Am Go.Proofs
set_option maxRecDepth 20000
variable {ng : Nat}
theorem getP_vN {ds : List Deed} {n : List UInt8} : getP n (vN ds) = if n ∈ namesD ds then some (int ((namesD ds).idxOf n : Int)) else none := by
  split
  · rename_i h
    have := getP_idxN n (vN ds) (fun i => int (i : Int)) 0 (fun i hi => by simp [vN]) (by rw [vN_keys]; exact h)
    rw [this, vN_keys, Nat.zero_add]
  · rename_i h
    exact (getP_none n (vN ds)).2 (by rw [vN_keys]; exact h)
theorem cloneStr_ac {own : Bool} {l : List (List UInt8)} {s : Value} {F : List Nat} {H : Heap} (hs : StrsR own H l [s] F) (h0 : l ≠ []) (hl : l.length ≤ 1048576) : AC Tryz.prog ng 131 [s] H fun v S' => ∃ F', Ext H S' ∧ StrsR true S' l [v] F' ∧ Fresh H.length F' := by
  refine AC.go [] Tryz.func131 rfl Tryz.ntmps131 rfl ⟨mixed, by kernel_rfl⟩ ?_
  have hs' := hs
  obtain ⟨_, s', hse, hh⟩ := hs
  obtain rfl : s = s' := by simpa using hse
  rcases hh with ⟨rfl, _⟩ | ⟨id, off, c, e, f, o, G, rfl, hb, ho, rfl, hle, hr⟩
  · exact absurd rfl h0
  · simp +contextual (dsimp := false) [bin_sleq und24]
    refine AppK.many (base := H.length) slt24 und24 (SlR.mt (R := strR) (e := 9) (f := (0, 0)) (by simp)) (Fresh.one (n := H.length) (Nat.le_refl _)) (Rp.ext hs' (Ext.app _ _)) (by rw [SlR.flatF hs']; exact Fresh.nil _) (by rw [SlR.flatF hs']; simp) (by simp) (by simp; omega) (by decide) ?_
    intro s' H' F' q1 q2 q3 q4 q5
    simp +contextual (dsimp := false)
    refine ⟨fun j hj => ?_, F', q1, q2⟩
    rw [q4 j (by simp; omega) (by simp; omega), get_ext hj]
theorem mstop_ac {H : Heap} {k mp : Nat} {s1 s2 sd sw sc : Value} {r : Res} (hb : H[k]? = some ⟨.cells (mkrC s1 s2 sd mp sw ⟨0, [], []⟩ (.slice none 0 0) false) 130 (0, 0), true, true⟩) (hsc : ∃ a n z, sc = .slice a n z) :
    AC Tryz.prog ng 130 [.pointer (some ⟨k, 0, none⟩), .agg #[int r.code, str r.text, sc]] H fun v S' => v = int 0 ∧ S'[k]? = some ⟨.cells (mkrC s1 s2 sd mp sw r sc true) 130 (0, 0), true, true⟩ ∧ H.length ≤ S'.length ∧ ∀ j, j < H.length → j ≠ k → S'[j]? = H[j]? := by
  obtain ⟨a, n, z, rfl⟩ := hsc
  have hlt := (List.getElem?_eq_some_iff.1 hb).1
  refine AC.go [] Tryz.func130 rfl Tryz.ntmps130 rfl ⟨mixed, by kernel_rfl⟩ ?_
  have hbT : ∀ T : Heap, (H ++ T)[k]? = _ := fun T => (List.getElem?_append_left hlt).trans hb
  have hs0 : ∀ (T : Heap) (b : Blk), ((H ++ T).set k b)[k]? = some b := fun T b => List.getElem?_set_self (by simp; omega)
  simp +contextual (dsimp := false) [goB_of hb, hb, hbT, hs0]
  intro j hj hjk
  rw [List.getElem?_set_ne (Ne.symm hjk), List.getElem?_append_left hj]
  simp
theorem keySI : KeyT Tryz.prog 128 kS 9 3 .string (int 0) :=
  ⟨und128, und9, zer3, rfl, fun _ => rfl, fun a b => sameNow_str a b⟩
theorem mput_ac {H : Heap} {k mp : Nat} {s1 s2 sd sw : Value} {ds : List Deed} {way : List (List UInt8)} {FD FW : List Nat} (hm : MkrS 130 H k mp s1 s2 sd sw ds way FD FW) (hds : ds.length ≤ 1000000)
    {d : Deed} {c : List Value} {F : List Nat} (hd : DeedR true H d c F) (hn : d.name ∉ namesD ds) (hF : F.Nodup) (hFk : ∀ j ∈ F, j ≠ k ∧ j ≠ mp ∧ j ∉ FD ∧ j ∉ FW) :
    AC Tryz.prog ng 128 [.pointer (some ⟨k, 0, none⟩), .agg c.toArray] H fun v S' => v = int ds.length ∧ ∃ sd' FD', MkrS 130 S' k mp s1 s2 sd' sw (ds ++ [d]) way FD' FW ∧ H.length ≤ S'.length ∧ (∀ j, j < H.length → j ≠ k → j ≠ mp → j ∉ FD → S'[j]? = H[j]?) ∧ ∀ j ∈ FD', j ∈ FD ∨ j ∈ F ∨ H.length ≤ j := by
  obtain ⟨e1, e2, e3, e4, e5, e6, e7, e8, e9⟩ := hm
  have hlt := (List.getElem?_eq_some_iff.1 e1).1
  have hmlt := e4.lt
  have hd' := hd
  obtain ⟨hk, t1, t2, G1, G2, rfl, rfl, hc1, hc2⟩ := hd
  obtain ⟨a1, z1, rfl⟩ := hc1.form
  obtain ⟨a2, z2, rfl⟩ := hc2.form
  have e2' := e2
  obtain ⟨ad, zd, rfl⟩ := e2.form
  refine AC.go [(1, .take 0 <| .take 1 <| .take 2 <| .take 3 <| .take 4 <| .take 5 <| .one 6 [4] <| .one 7 [] <| .take 8 <| .take 9 <| .one 10 [] <| .done)] Tryz.func128 rfl Tryz.ntmps128 rfl ⟨mixed, by kernel_rfl⟩ ?_
  have hbT : ∀ T : Heap, (H ++ T)[k]? = _ := fun T => (List.getElem?_append_left hlt).trans e1
  simp +contextual (dsimp := false) [goB_of e1, e1, hbT]
  refine AppK.one (R := DeedR true) (ex := 82) (fx := (0, 0)) (ox := true) (base := 0) (x := d) (cx := [.string ⟨⟨d.name⟩⟩, .int .i64 d.kind, .int .i64 d.code, .string ⟨⟨d.text⟩⟩, .slice a1 d.action.length z1, .slice a2 d.links.length z2]) (Fx := G1 ++ G2) slt56 und56 (Rp.ext e2' (Ext.app _ _)) ⟨fun _ _ => Nat.zero_le _, e6⟩ (by simp) (Rp.ext hd' (Ext.app _ _)) ⟨fun _ _ => Nat.zero_le _, hF⟩ (fun j hj => (hFk j hj).2.2.1) (Nat.zero_le _) (by omega) (by decide) ?_
  intro s9 H2 F2 q1 q2 q3 q4 q5
  obtain ⟨a9, z9, rfl⟩ := q1.form
  simp only [List.length_append, List.length_cons, List.length_nil] at q1 q3 q4 q5
  have hFD : ∀ j ∈ FD, j < H.length := Rp.lt e2
  have hFW : ∀ j ∈ FW, j < H.length := Rp.lt e3
  have hFd : ∀ j ∈ G1 ++ G2, j < H.length := Rp.lt hd'
  have hold : ∀ j, j < H.length → j ∉ FD → H2[j]? = H[j]? := fun j hj hn => (q4 j (by omega) hn).trans (List.getElem?_append_left hj)
  have h2k := (hold k hlt fun hm => (e8 k hm).1 rfl).trans e1
  have h2m := hold mp hmlt fun hm => (e8 mp hm).2.1 rfl
  have h2d : H2[H.length]? = _ := (q4 H.length (by omega) (fun hm => by have := hFD _ hm; omega)).trans (List.getElem?_append_right (Nat.le_refl _))
  simp only [Nat.sub_self, List.getElem?_cons_zero] at h2d
  have hs1 : ∀ b : Blk, (H2.set k b)[k]? = some b := fun b => List.getElem?_set_self (by omega)
  have hs2 : ∀ b : Blk, (H2.set k b)[H.length]? = _ := fun b => (List.getElem?_set_ne (by omega)).trans h2d
  simp +contextual (dsimp := false) [h2k, hs1, hs2]
  refine UpdK.map (a := d.name) keySI (e4.fr ((List.getElem?_set_ne e5).trans h2m)) rfl ?_
  intro es cl hmp
  have hnk : d.name ∉ (vN ds).map (·.1) := by rw [vN_keys]; exact hn
  have hw : IntKind.i64.wrap (ds.length : Int) = ds.length := wrap_of _ (by omega) (by omega)
  rw [putP_new _ _ _ hnk, hw, ← vN_app] at hmp
  have hmk : mp ≠ k := Ne.symm e5
  have hs3 : ∀ b b' : Blk, ((H2.set k b).set mp b')[k]? = some b := fun b b' => (List.getElem?_set_ne hmk).trans (hs1 b)
  simp +contextual (dsimp := false) [hs3, hw]
  have hset : ∀ j, j ≠ k → j ≠ mp → ∀ b b' : Blk, ((H2.set k b).set mp b')[j]? = H2[j]? := fun j h1 h2 b b' => (List.getElem?_set_ne (Ne.symm h2)).trans (List.getElem?_set_ne (Ne.symm h1))
  have hF2 : ∀ j ∈ F2, j ≠ k ∧ j ≠ mp ∧ j ∉ FW := fun j hj => by
    rcases q5 j hj with h | h | h
    · exact ⟨(e8 j h).1, (e8 j h).2.1, (e8 j h).2.2⟩
    · exact ⟨(hFk j h).1, (hFk j h).2.1, (hFk j h).2.2.2⟩
    · exact ⟨by omega, by omega, fun hm => by have := hFW j hm; omega⟩
  refine ⟨.slice a9 (ds.length + 1) z9, F2, ⟨hs3 _ _, Rp.fr q1 fun j hj => hset j (hF2 j hj).1 (hF2 j hj).2.1 _ _, Rp.fr e3 fun j hj => (hset j (e9 j hj).1 (e9 j hj).2 _ _).trans (hold j (hFW j hj) fun hm => (e8 j hm).2.2 hj), hmp, e5, q2.2, e7, hF2, e9⟩, by omega, fun j hj h1 h2 h3 => ?_, fun j hj => ?_⟩
  · rw [hset j h1 h2, hold j hj h3]
    exact List.getElem?_eq_getElem hj
  · rcases q5 j hj with h | h | h
    · exact .inl h
    · exact .inr (.inl (by simpa using h))
    · exact .inr (.inr (by omega))
end Go.Proofs.YtephpieeibcihaaGreatDoor
namespace Go.Am
open Go
def MakeR (T : TypeId) (H : Heap) (k mp : Nat) (s1 s2 : Value) (way : List (List UInt8)) (FD FW : List Nat) (v : Value) (S' : Heap) : Mk → Prop
  | .at_ i ds' => v = int i ∧ ∃ sd' sw' FD' FW', MkrS T S' k mp s1 s2 sd' sw' ds' way FD' FW' ∧ MkFr H k mp FD FW S' FD' FW'
  | .stop r => v = int 0 ∧ ∃ sd' sw' sc F', S'[k]? = some ⟨.cells (mkrC s1 s2 sd' mp sw' r sc true) T (0, 0), true, true⟩ ∧ StrsR true S' r.chain [sc] F' ∧ Fresh H.length F' ∧ H.length ≤ S'.length ∧
      ∀ j, j < H.length → j ≠ k → j ≠ mp → j ∉ FD → j ∉ FW → S'[j]? = H[j]?
def MacO (mt : TypeId) (H : Heap) (k : Nat) (cv : Value) (F : List Nat) : Out → Prop
  | .go _ => False
  | .fin c t n => ∃ m', MacR mt H k cv m' ⟨true, c, t, false, [], n⟩ F
  | .look a nm m => MacR mt H k cv m ⟨false, 0, [], a, nm, m.steps⟩ F
theorem EndM.parts {mt : TypeId} {H S' : Heap} {k : Nat} {cv : Value} {F : List Nat} {o : Out} (h : EndM mt H k cv F o S') : ∃ F', MacO mt S' k cv F' o ∧ FrM H k F S' F' := by
  cases o with
  | go m => exact absurd h id
  | fin c t n =>
    obtain ⟨m', F', h1, h2⟩ := h
    exact ⟨F', ⟨m', h1⟩, h2⟩
  | look a nm m => exact h
def finR (n : List UInt8) (code : List Ins) : Rn → Mk
  | .stop r => .stop r
  | .done c t ds ls => .at_ ds.length (ds ++ [⟨n, 3, c, t, code, ls⟩])
structure MkSt where
  o : Out
  ds : List Deed
  ls : List Lnk
  hp : Heap
  sd : Value
  sw : Value
  sl : Value
  FD : List Nat
  FW : List Nat
  F : List Nat
  FL : List Nat
  c : Nat → Nat
structure MkLi (T TM TD : TypeId) (sp : Spc) (n : List UInt8) (way : List (List UInt8)) (f : Nat) (R : Mk) (H0 H : Heap) (k mp kd km : Nat) (s1 s2 act cv : Value) (code : List Ins) (FD0 FW0 FA : List Nat) (x : MkSt) : Prop where
  mkr : MkrS T x.hp k mp s1 s2 x.sd x.sw x.ds (way ++ [n]) x.FD x.FW
  fr : MkFr H k mp FD0 FW0 x.hp x.FD x.FW
  ok : MkOk sp (way ++ [n]) x.ds
  mac : MacO TM x.hp km cv x.F x.o
  lnk : LnksR true x.hp x.ls [x.sl] x.FL
  lnd : x.FL.Nodup
  dbk : x.hp[kd]? = some ⟨.cells #[str n, int 3, int 0, str [], act, x.sl] TD (0, 0), true, true⟩
  act : CodeR true x.hp code [act] FA
  ext : Ext H0 x.hp
  cD : Cin x.hp.length x.c 0 x.FD
  cW : Cin x.hp.length x.c 0 x.FW
  cF : Cin x.hp.length x.c 1 x.F
  cL : Cin x.hp.length x.c 2 x.FL
  cA : Cin x.hp.length x.c 3 FA
  ck : x.c k = 0 ∧ x.c mp = 0 ∧ x.c kd = 4 ∧ x.c km = 5
  c9 : ∀ j, j < H0.length → x.c j = 9
  nF : ∀ j ∈ x.F, H.length ≤ j
  nL : ∀ j ∈ x.FL, H.length ≤ j
  look : LookAt (x.ls.length + 1) x.o
  fin : FinOk x.o
  ng : ∀ m, x.o ≠ .go m
  len : x.ls.length ≤ 200
  eq : finR n code (runM (fun ds n' => makeM sp f (way ++ [n]) ds n') sp code (200 - x.ls.length) x.o x.ds x.ls) = R
  bd : x.ds.length + 201 * leftT sp (way ++ [n]) x.ds + (200 - x.ls.length) ≤ 1000000
end Go.Am
namespace Go.Proofs.YtephpieeibcihaaGreatDoor
open Go Go.Am Go.Proofs
set_option maxRecDepth 20000
variable {ng : Nat}
set_option maxHeartbeats 8000000 in
theorem make_ac {sp : Spc} {s1 s2 : Value} {H0 : Heap} {FS : List Nat} (hs0 : SpcR true H0 sp [s1, s2] FS) (hsp : checkSpace sp = 0) (hP : P10 g10 H0) (h2 : g10 < ng) :
    ∀ (f : Nat) {H : Heap} {k mp : Nat} {sd sw : Value} {ds : List Deed} {way : List (List UInt8)} {FD FW : List Nat}, Ext H0 H → H0.length ≤ k → H0.length ≤ mp → (∀ j ∈ FD, H0.length ≤ j) → (∀ j ∈ FW, H0.length ≤ j) →
      MkrS 130 H k mp s1 s2 sd sw ds way FD FW → MkOk sp way ds → f + way.length = 61 → way.length ≤ 60 → ∀ n : List UInt8, nameOk n = true → ds.length + 201 * leftT sp way ds + 1 ≤ 1000000 →
      AC Tryz.prog ng 83 [.pointer (some ⟨k, 0, none⟩), str n] H fun v S' => MakeR 130 H k mp s1 s2 way FD FW v S' (makeM sp f way ds n) := by
  intro f
  induction f with
  | zero => intros; omega
  | succ f ih =>
    intro H k mp sd sw ds way FD FW hx hk0 hmp0 hFD0 hFW0 hm hok hf hw n hn hB
    have hm' := hm
    obtain ⟨e1, e2, e3, e4, e5, e6, e7, e8, e9⟩ := hm
    have hlt := (List.getElem?_eq_some_iff.1 e1).1
    have hsH := Rp.ext hs0 hx
    have hsH' := hsH
    obtain ⟨t1, t2, F3, F4, ht, hF, g1, g2⟩ := hsH'
    obtain ⟨rfl, rfl⟩ : s1 = t1 ∧ s2 = t2 := by simpa using ht
    obtain ⟨a1, z1, rfl⟩ := g1.form
    obtain ⟨a2, z2, rfl⟩ := g2.form
    obtain ⟨q1, q2, q3, q4, q5, q6⟩ := checkSpace_ok hsp
    have hnl := nameOk_len hn
    have hbT : ∀ T : Heap, (H ++ T)[k]? = _ := fun T => (List.getElem?_append_left hlt).trans e1
    generalize hM : makeM sp (f + 1) way ds n = R
    rw [makeM] at hM
    refine AC.go [(21, .take 0 <| .take 1 <| .take 2 <| .take 3 <| .take 5 <| .take 6 <| .take 7 <| .take 8 <| .take 4 <| .take 9 <| .take 10 <| .one 11 [4, 9] <| .one 12 [] <| .done), (32, .take 0 <| .take 1 <| .take 2 <| .take 3 <| .take 5 <| .take 6 <| .take 7 <| .take 8 <| .take 4 <| .take 10 <| .take 9 <| .one 11 [9] <| .take 12 <| .one 13 [] <| .done)] Tryz.func83 rfl Tryz.ntmps83 rfl ⟨mixed, by kernel_rfl⟩ ?_
    simp +contextual (dsimp := false) [goB_of e1, e1, hbT]
    refine LookK.map (a := n) keySI e4 ?_
    rw [getP_vN]
    by_cases c1 : n ∈ namesD ds
    · simp +contextual (dsimp := false) [c1]
      rw [if_pos c1] at hM
      subst hM
      exact ⟨rfl, sd, sw, FD, FW, hm', MkFr.refl _ _ _ _ _⟩
    rw [if_neg c1] at hM
    simp +contextual (dsimp := false) [c1, goB_of e1, e1, hbT]
    refine CallK.fl ⟨_, Tryz.func127, rfl, rfl⟩ (source_ac hsH n) ?_
    rw [bsF_iff q4]
    by_cases c2 : n ∈ sNames sp
    · rw [if_pos c2] at hM
      subst hM
      obtain ⟨hi, hi1, hi2⟩ := souT_at c2
      rw [bsP_idx q4 c2]
      obtain ⟨id, o, cc, e, fe, ow, cs, Fi, E⟩ := SlR.get g1 _ hi
      obtain ⟨rfl, rfl, hoks⟩ := E.rep
      have hc1' := E.cell 1 (by omega)
      simp +contextual (dsimp := false) [c2, goB_of e1, e1, hbT, E.idx, E.goB, E.le, E.lt, E.ext, hc1', Sou.c]
      rw [← hi1]
      refine CallK.of ⟨_, Tryz.func128, rfl, rfl⟩ (mput_ac (d := ⟨n, 1, 0, souT sp n, [], []⟩) (c := [str n, int 1, int 0, str (souT sp n), .slice none 0 0, .slice none 0 0]) (F := []) hm' (by omega) ⟨⟨by unfold okS; dsimp only; omega, by simp [i64], by simp [i64], by have := souT_ok hsp c2; unfold okS; dsimp only; omega⟩, _, _, [], [], rfl, rfl, SlR.nil, SlR.nil⟩ c1 List.nodup_nil (by simp)) ?_
      rintro v S' ⟨rfl, sd', FD', hm2, hle, hold, hsub⟩
      simp +contextual (dsimp := false)
      refine ⟨rfl, sd', _, FD', FW, hm2, ⟨hle, fun j b1 b2 b3 b4 _ => hold j b1 b2 b3 b4, fun j hj => ?_, fun j hj => .inl hj⟩⟩
      rcases hsub j hj with h | h | h
      · exact .inl h
      · cases h
      · exact .inr h
    rw [if_neg c2] at hM
    simp +contextual (dsimp := false) [c2, goB_of e1, e1, hbT]
    refine CallK.fl ⟨_, Tryz.func119, rfl, rfl⟩ (target_ac hsH n) ?_
    rw [bsF_iff q5]
    by_cases c3 : n ∈ tNames sp
    case neg =>
      rw [if_pos c3] at hM
      subst hM
      simp +contextual (dsimp := false) [c3, goB_of e1, e1, hbT]
      refine CallK.of ⟨_, Tryz.func128, rfl, rfl⟩ (mput_ac (d := ⟨n, 2, 0, [], [], []⟩) (c := [str n, int 2, int 0, str [], .slice none 0 0, .slice none 0 0]) (F := []) hm' (by omega) ⟨⟨by unfold okS; dsimp only; omega, by simp [i64], by simp [i64], by simp [okS]⟩, _, _, [], [], rfl, rfl, SlR.nil, SlR.nil⟩ c1 List.nodup_nil (by simp)) ?_
      rintro v S' ⟨rfl, sd', FD', hm2, hle, hold, hsub⟩
      simp +contextual (dsimp := false)
      refine ⟨rfl, sd', _, FD', FW, hm2, ⟨hle, fun j b1 b2 b3 b4 _ => hold j b1 b2 b3 b4, fun j hj => ?_, fun j hj => .inl hj⟩⟩
      rcases hsub j hj with h | h | h
      · exact .inl h
      · cases h
      · exact .inr h
    rw [if_neg (fun h => h c3)] at hM
    obtain ⟨hi, hi1, hi2⟩ := tgtA_at c3
    rw [bsP_idx q5 c3]
    obtain ⟨aw, zw, rfl⟩ := e3.form
    simp +contextual (dsimp := false) [c3, goB_of e1, e1, hbT]
    refine CallK.fl ⟨_, Tryz.func129, rfl, rfl⟩ (indexS_ac e3 n) ?_
    by_cases c4 : n ∈ way
    · rw [if_pos c4] at hM
      subst hM
      have hfi : findI way n = ((way.idxOf n : Nat) : Int) := if_pos c4
      simp +contextual (dsimp := false) [hfi, goB_of e1, e1, hbT]
      have hil : way.idxOf n < way.length := List.idxOf_lt_length_iff.2 c4
      have hdne : way.drop (way.idxOf n) ≠ [] := fun h => by
        rw [List.drop_eq_nil_iff] at h
        omega
      obtain ⟨sl, Fl, hcl⟩ := e3.weak.cut (P := Tryz.prog) (et := 9) (way.idxOf n) way.length (by omega) (Nat.le_refl _) siz9
      obtain ⟨hcl, -, -, -, -, hsr, -⟩ := hcl (fun h => by cases h)
      have hsr := hsr rfl
      rw [List.take_length] at hcl
      obtain ⟨al, zl, rfl⟩ := hcl.form
      rw [List.length_drop] at hcl hsr
      rw [hsr]
      simp +contextual (dsimp := false)
      refine CallK.of ⟨_, Tryz.func131, rfl, rfl⟩ (cloneStr_ac hcl hdne (by rw [List.length_drop]; omega)) ?_
      rintro v S1 ⟨Fc, hec, hvc, hfc⟩
      obtain ⟨ac, zc, rfl⟩ := hvc.form
      rw [List.length_drop] at hvc
      simp +contextual (dsimp := false)
      refine CallK.of ⟨_, Tryz.func130, rfl, rfl⟩ (mstop_ac (r := ⟨6, [], way.drop (way.idxOf n)⟩) ((hec k hlt).trans e1) ⟨_, _, _, rfl⟩) ?_
      rintro v S2 ⟨rfl, hb2, hl2, ho2⟩
      simp +contextual (dsimp := false)
      have hcc := Rp.lt hvc
      exact ⟨rfl, _, _, _, Fc, hb2, Rp.fr hvc fun j hj => ho2 j (hcc j hj) (by have := hfc.1 j hj; omega), hfc, by have := hec.le; omega, fun j b1 b2 b3 b4 b5 => (ho2 j (by have := hec.le; omega) b2).trans (hec j b1)⟩
    rw [if_neg c4] at hM
    have hfi : findI way n = -1 := if_neg c4
    by_cases c5 : way.length = 60
    · rw [if_pos c5] at hM
      subst hM
      simp +contextual (dsimp := false) [hfi, c5, goB_of e1, e1, hbT]
      refine CallK.of ⟨_, Tryz.func130, rfl, rfl⟩ (mstop_ac (r := ⟨7, n, []⟩) e1 ⟨_, _, _, rfl⟩) ?_
      rintro v S2 ⟨rfl, hb2, hl2, ho2⟩
      simp +contextual (dsimp := false)
      exact ⟨rfl, _, _, _, [], hb2, SlR.nil, Fresh.nil _, hl2, fun j b1 b2 b3 b4 b5 => ho2 j b1 b2⟩
    rw [if_neg c5] at hM
    have c5' : ¬ (way.length : Int) = 60 := by omega
    simp +contextual (dsimp := false) [hfi, c5', goB_of e1, e1, hbT]
    refine AppK.one (R := strR) (ex := 9) (fx := (0, 0)) (ox := true) (base := 0) (x := n) (cx := [str n]) (Fx := []) slt24 und24 (Rp.ext e3 (Ext.app _ _)) ⟨fun _ _ => Nat.zero_le _, e7⟩ (by simp) ⟨rfl, rfl, by unfold okS; omega⟩ (Fresh.nil _) (by simp) (Nat.zero_le _) (by omega) (by decide) ?_
    intro sw1 H1 FW1 w1 w2 w3 w4 w5
    obtain ⟨aw1, zw1, rfl⟩ := w1.form
    simp only [List.length_append, List.length_cons, List.length_nil, Nat.zero_add] at w1 w3 w4 w5
    have hFDl : ∀ j ∈ FD, j < H.length := Rp.lt e2
    have hFWl : ∀ j ∈ FW, j < H.length := Rp.lt e3
    have hmpl := e4.lt
    have ho1 : ∀ j, j < H.length → j ∉ FW → H1[j]? = H[j]? := fun j hj hn => (w4 j (by omega) hn).trans (List.getElem?_append_left hj)
    have h1k := (ho1 k hlt fun h => (e9 k h).1 rfl).trans e1
    have hs1 : ∀ b : Blk, (H1.set k b)[k]? = some b := fun b => List.getElem?_set_self (by omega)
    simp +contextual (dsimp := false) [h1k, hs1]
    obtain ⟨H2, hH2⟩ : ∃ H2, H2 = H1.set k (⟨.cells (mkrC (.slice a1 sp.sources.length z1) (.slice a2 sp.targets.length z2) sd mp (.slice aw1 (way.length + 1) zw1) ⟨0, [], []⟩ (.slice none 0 0) false) 130 (0, 0), true, true⟩ : Blk) := ⟨_, rfl⟩
    have hl2 : H2.length = H1.length := by rw [hH2]; simp
    have ho2 : ∀ j, j ≠ k → H2[j]? = H1[j]? := fun j hj => by rw [hH2]; exact List.getElem?_set_ne (Ne.symm hj)
    have hF1 : ∀ j ∈ FW1, j ∈ FW ∨ H.length ≤ j := fun j hj => by
      rcases w5 j hj with h | h | h
      · exact .inl h
      · cases h
      · exact .inr (by omega)
    have hm2 : MkrS 130 H2 k mp (.slice a1 sp.sources.length z1) (.slice a2 sp.targets.length z2) sd (.slice aw1 (way.length + 1) zw1) ds (way ++ [n]) FD FW1 := by
      refine ⟨by rw [hH2]; exact hs1 _, Rp.fr e2 fun j hj => (ho2 j (e8 j hj).1).trans (ho1 j (hFDl j hj) (e8 j hj).2.2), Rp.fr w1 fun j hj => ho2 j ?_, e4.fr ((ho2 mp (Ne.symm e5)).trans (ho1 mp hmpl fun h => (e9 mp h).2 rfl)), e5, e6, w2.2, fun j hj => ⟨(e8 j hj).1, (e8 j hj).2.1, fun h => ?_⟩, fun j hj => ?_⟩
      · rcases hF1 j hj with h | h
        · exact (e9 j h).1
        · omega
      · rcases hF1 j h with h | h
        · exact (e8 j hj).2.2 h
        · have := hFDl j hj; omega
      · rcases hF1 j hj with h | h
        · exact e9 j h
        · exact ⟨by omega, by omega⟩
    have hx2 : Ext H0 H2 := fun j hj => (ho2 j (by omega)).trans ((ho1 j (by have := hx.le; omega) (fun h => by have := hFW0 j h; omega)).trans (hx j hj))
    have hfr2 : MkFr H k mp FD FW H2 FD FW1 := ⟨by omega, fun j b1 b2 b3 b4 b5 => (ho2 j b2).trans (ho1 j b1 b5), fun j hj => .inl hj, hF1⟩
    rw [← hH2]
    clear hH2
    obtain ⟨u1, u2, F5, F6, hu, hF', g3, g4⟩ := Rp.ext hs0 hx2
    obtain ⟨rfl, rfl⟩ : .slice a1 sp.sources.length z1 = u1 ∧ .slice a2 sp.targets.length z2 = u2 := by simpa using hu
    obtain ⟨id, o, cc, e, fe, ow, cs, Fi, E⟩ := SlR.get g4 _ hi
    obtain ⟨hkT, sa, rfl, hcode⟩ := E.rep
    obtain ⟨ac, zc, rfl⟩ := hcode.form
    have hc1' := E.cell 1 (by omega)
    have k2 := hm2.blk
    have hle2 := E.le
    have hxp : cc.extract (o + 1) (o + 1 + 1) = #[.slice ac (sp.targets[(tNames sp).idxOf n]).action.length zc] := E.part 1 1 (by omega)
    simp +contextual (dsimp := false) [goB_of k2, k2, E.idx, E.goB, E.le, E.lt, E.ext, hc1', hxp, show o + 2 ≤ cc.size by omega]
    have hcv := tgtA_ok hsp c3
    have hcl := validP_len hcv
    rw [← hi1] at hcode ⊢
    refine CallK.of ⟨_, Tryz.func132, rfl, rfl⟩ (twin_ac (Rp.ext hcode (Ext.app _ _)) (by omega)) ?_
    rintro v S3 ⟨sA, FA, rfl, he3, hA, hfA⟩
    obtain ⟨aA, zA, rfl⟩ := hA.form
    have hl3 := he3.le
    simp only [List.length_append, List.length_cons, List.length_nil] at hl3 hfA
    have p3 : S3[H2.length]? = some (⟨.cells #[.slice ac (tgtA sp n).length zc] 79 (0, 0), true, true⟩ : Blk) := (he3 _ (by simp)).trans (by simp)
    have p3T : ∀ T : Heap, (S3 ++ T)[H2.length]? = _ := fun T => (List.getElem?_append_left (by omega)).trans p3
    simp +contextual (dsimp := false) [goB_of p3, p3, p3T]
    obtain ⟨Hr, hHr⟩ : ∃ Hr, Hr = S3 ++ [(⟨.cells #[str n, int 3, int 0, str [], .slice aA (tgtA sp n).length zA, .slice none 0 0] 82 (0, 0), true, true⟩ : Blk), ⟨.cells #[.slice ac (tgtA sp n).length zc, .slice none 0 0, .int .i64 0, .int .i64 0, .int .i64 0, .bool false, .int .i64 0, .string ⟨⟨[]⟩⟩, .bool false, .string ⟨⟨[]⟩⟩, .int .i64 0] 204 (0, 0), true, true⟩] := ⟨_, rfl⟩
    have hlr : Hr.length = S3.length + 2 := by rw [hHr]; simp
    have hxr : Ext S3 Hr := by rw [hHr]; exact Ext.app _ _
    have hx2r : Ext H2 Hr := fun j hj => (hxr j (by omega)).trans ((he3 j (by simp; omega)).trans (List.getElem?_append_left hj))
    have dr : Hr[S3.length]? = some (⟨.cells #[str n, int 3, int 0, str [], .slice aA (tgtA sp n).length zA, .slice none 0 0] 82 (0, 0), true, true⟩ : Blk) := by rw [hHr]; simp
    have hm1 : MacR 204 Hr (S3.length + 1) (.slice ac (tgtA sp n).length zc) Am.start ⟨false, 0, [], false, [], 0⟩ [] := ⟨.slice none 0 0, by rw [hHr]; simp [macC, Am.start], SlR.nil, by simp, by simp⟩
    rw [← hHr]
    clear hHr
    have hgl : g10 < H0.length := by
      obtain ⟨_, _, hh⟩ := hP
      exact (List.getElem?_eq_some_iff.1 hh).1
    have hFil : ∀ j ∈ Fi, j < H0.length := fun j hj => Rp.lt hs0 j (by rw [hF']; exact List.mem_append_right _ (E.sub j hj))
    have hxl := hx.le
    have hx2l := hx2.le
    have hn1 : NeedM true Hr (S3.length + 1) (.slice ac (tgtA sp n).length zc) (tgtA sp n) [] Fi := ⟨Rp.ext hcode hx2r, fun hm => by have := hFil _ hm; omega, by simp, hP.ext (hx2.trans hx2r), by omega, by simp⟩
    refine CallK.of ⟨_, Tryz.func133, rfl, rfl⟩ (run_ac hm1 hn1 hcv start_ok h2) ?_
    rintro v S4 ⟨rfl, hE⟩
    obtain ⟨Fm, hmac, hfm⟩ := hE.parts
    obtain ⟨fm1, fm2, fm3⟩ := hfm
    have h4o : ∀ j, j < Hr.length → j ≠ S3.length + 1 → S4[j]? = Hr[j]? := fun j hj hne => fm2 j hj hne (by simp)
    have hFm : ∀ j ∈ Fm, Hr.length ≤ j := fun j hj => (fm3 j hj).resolve_right (by simp)
    have h42 : ∀ j, j < H2.length → S4[j]? = H2[j]? := fun j hj => (h4o j (by omega) (by omega)).trans (hx2r j hj)
    have hx4 : Ext H0 S4 := fun j hj => (h42 j (by omega)).trans (hx2 j hj)
    have hmacl : ∀ j ∈ Fm, j < S4.length := fun j hj => by
      revert hmac
      cases run (tgtA sp n) Am.start with
      | go m => exact fun h => h.elim
      | fin c t nn => exact fun ⟨m', h⟩ => h.lt.2 j hj
      | look a nm m => exact fun h => h.lt.2 j hj
    simp +contextual (dsimp := false)
    have hkw := hok.way c1 c3 c4
    obtain ⟨l2k, l2m, l2D, l2W⟩ := hm2.lt
    refine LoopA.up (σ := MkSt) [0, 13, 14] (fun _ => []) (fun x => x.hp) (MkLi 130 204 82 sp n way f R H0 H k mp S3.length (S3.length + 1) (.slice a1 sp.sources.length z1) (.slice a2 sp.targets.length z2) (.slice aA (tgtA sp n).length zA) (.slice ac (tgtA sp n).length zc) (tgtA sp n) FD FW FA)
      (fun x => 200 - x.ls.length) ⟨run (tgtA sp n) Am.start, ds, [], S4, sd, .slice aw1 (way.length + 1) zw1, .slice none 0 0, FD, FW1, Fm, [], fun j => if j < H0.length then 9 else if j < H2.length then 0 else if j = S3.length then 4 else if j = S3.length + 1 then 5 else if j < S3.length then 3 else 1⟩ rfl ?_ ?_
    · refine ⟨hm2.fr (h42 k l2k) (h42 mp l2m) (fun j hj => h42 j (l2D j hj)) fun j hj => h42 j (l2W j hj), hfr2.trans ⟨by show H2.length ≤ S4.length; omega, fun j b1 b2 b3 b4 b5 => h42 j b1, fun j hj => .inl hj, fun j hj => .inl hj⟩, hkw, hmac, SlR.nil, List.nodup_nil, (h4o _ (by omega) (by omega)).trans dr, Rp.fr hA fun j hj => (h4o j (by have := Rp.lt hA j hj; omega) (by have := Rp.lt hA j hj; omega)).trans (hxr j (Rp.lt hA j hj)), hx4, ?_, ?_, ?_, ?_, ?_, ?_, fun j hj => if_pos hj, fun j hj => by have := hFm j hj; omega, by simp, run_lookAt hcv _ Am.start start_ok rfl, run_finOk hcv _ Am.start start_ok rfl, fun m => run_ng _ _ Am.start m rfl start_ok.steps, by simp, ?_, ?_⟩
      · intro j hj
        have h1 := l2D j hj
        have h2 := hFD0 j hj
        exact ⟨by dsimp only; omega, by dsimp only; rw [if_neg (by omega), if_pos h1]⟩
      · intro j hj
        have h1 := l2W j hj
        have h2 : H0.length ≤ j := by
          rcases hF1 j hj with h | h
          · exact hFW0 j h
          · omega
        exact ⟨by dsimp only; omega, by dsimp only; rw [if_neg (by omega), if_pos h1]⟩
      · intro j hj
        have h1 := hFm j hj
        exact ⟨hmacl j hj, by dsimp only; rw [if_neg (by omega), if_neg (by omega), if_neg (by omega), if_neg (by omega), if_neg (by omega)]⟩
      · exact Cin.nil
      · intro j hj
        have h1 := Rp.lt hA j hj
        have h2 := hfA.1 j hj
        exact ⟨by dsimp only; omega, by dsimp only; rw [if_neg (by omega), if_neg (by omega), if_neg (by omega), if_neg (by omega), if_pos h1]⟩
      · dsimp only
        exact ⟨by rw [if_neg (by omega), if_pos l2k], by rw [if_neg (by omega), if_pos l2m], by rw [if_neg (by omega), if_neg (by omega), if_pos rfl], by rw [if_neg (by omega), if_neg (by omega), if_neg (by omega), if_pos rfl]⟩
      · dsimp only
        rw [← hM]
        unfold finR
        simp only [List.length_nil, Nat.sub_zero]
        rfl
      · dsimp only
        have := leftT_way (sp := sp) (way := way) (ds := ds) c3 c1 c4
        simp only [List.length_nil]
        omega
    rintro ⟨o, ds', ls, hq, sd', sw', sl, FD', FW', F', FL, c⟩ hx
    obtain ⟨gm, gf, gk, gmac, gl, gln, gd, gact, gx, gcD, gcW, gcF, gcL, gcA, gck, gc9, gnF, gnL, glook, gfin, gng, glen, geq, gbd⟩ := hx
    dsimp only at gm gf gk gmac gl gln gd gact gx gcD gcW gcF gcL gcA gck gc9 gnF gnL glook gfin gng glen geq gbd
    obtain ⟨asl, zsl, rfl⟩ := gl.form
    have gmb := gm.blk
    cases o with
    | go m => exact absurd rfl (gng m)
    | fin cf tf nf =>
      obtain ⟨m', hmac⟩ := gmac
      obtain ⟨svm, hb, hst, hni, hndF⟩ := hmac
      obtain ⟨asw, zsw, rfl⟩ := gm.wys.form
      have gw := gm.wys
      obtain ⟨slw, Flw, hcl0⟩ := gw.cut (P := Tryz.prog) (et := 9) 0 way.length (by omega) (by simp) siz9
      obtain ⟨hcw, hsubw, hndw, -, -, -, hslw⟩ := hcl0 (fun _ => rfl)
      clear hcl0
      replace hslw := hslw rfl
      simp only [List.drop_zero, List.take_left', List.length_append, List.length_singleton] at hcw hslw
      obtain ⟨al, zl, rfl⟩ := hcw.form
      have hswr : IntKind.i64.wrap (way.length : Int) = way.length := wrap_of _ (by omega) (by omega)
      have kne : k ≠ S3.length := fun h => by have := gck.1; rw [h, gck.2.2.1] at this; omega
      have hsd : ∀ b : Blk, (hq.set S3.length b)[S3.length]? = some b := fun b => List.getElem?_set_self (List.getElem?_eq_some_iff.1 gd).1
      have hsk : ∀ b : Blk, (hq.set S3.length b)[k]? = _ := fun b => (List.getElem?_set_ne (Ne.symm kne)).trans gmb
      have hsb : ∀ b : Blk, (hq.set S3.length b)[S3.length + 1]? = _ := fun b => (List.getElem?_set_ne (by omega)).trans hb
      simp +contextual (dsimp := false) [goB_of hb, hb, goB_of gd, gd, goB_of gmb, gmb, hsd, hsk, hsb, hslw, hswr]
      obtain ⟨H5, hH5⟩ : ∃ H5, H5 = (hq.set S3.length (⟨.cells #[str n, int 3, int cf, str tf, .slice aA (tgtA sp n).length zA, .slice asl ls.length zsl] 82 (0, 0), true, true⟩ : Blk)).set k ⟨.cells (mkrC (.slice a1 sp.sources.length z1) (.slice a2 sp.targets.length z2) sd' mp (.slice al way.length zl) ⟨0, [], []⟩ (.slice none 0 0) false) 130 (0, 0), true, true⟩ := ⟨_, rfl⟩
      have kkl := (List.getElem?_eq_some_iff.1 gmb).1
      have kdl := (List.getElem?_eq_some_iff.1 gd).1
      have h5l : H5.length = hq.length := by rw [hH5]; simp
      have h5o : ∀ j, j ≠ S3.length → j ≠ k → H5[j]? = hq[j]? := fun j j1 j2 => by rw [hH5, List.getElem?_set_ne (Ne.symm j2), List.getElem?_set_ne (Ne.symm j1)]
      have h5k : H5[k]? = some (⟨.cells (mkrC (.slice a1 sp.sources.length z1) (.slice a2 sp.targets.length z2) sd' mp (.slice al way.length zl) ⟨0, [], []⟩ (.slice none 0 0) false) 130 (0, 0), true, true⟩ : Blk) := by rw [hH5]; exact List.getElem?_set_self (by simpa using kkl)
      have h5d : H5[S3.length]? = some (⟨.cells #[str n, int 3, int cf, str tf, .slice aA (tgtA sp n).length zA, .slice asl ls.length zsl] 82 (0, 0), true, true⟩ : Blk) := by rw [hH5, List.getElem?_set_ne kne]; exact hsd _
      rw [← hH5]
      clear hH5
      have ff := gfin cf tf nf rfl
      have hR : R = .at_ ds'.length (ds' ++ [⟨n, 3, cf, tf, tgtA sp n, ls⟩]) := by
        rw [← geq]
        cases 200 - ls.length <;> rfl
      have nmp : mp ≠ S3.length := fun h => by have := gck.2.1; rw [h, gck.2.2.1] at this; omega
      have nD : ∀ j ∈ FD', j ≠ S3.length ∧ j ≠ k := fun j hj => ⟨fun h => by have := (gcD j hj).2; rw [h, gck.2.2.1] at this; omega, (gm.sepD j hj).1⟩
      have nW : ∀ j ∈ FW', j ≠ S3.length ∧ j ≠ k := fun j hj => ⟨fun h => by have := (gcW j hj).2; rw [h, gck.2.2.1] at this; omega, (gm.sepW j hj).1⟩
      have nL : ∀ j ∈ FL, j ≠ S3.length ∧ j ≠ k ∧ j ≠ mp := fun j hj => ⟨fun h => by have := (gcL j hj).2; rw [h, gck.2.2.1] at this; omega, fun h => by have := (gcL j hj).2; rw [h, gck.1] at this; omega, fun h => by have := (gcL j hj).2; rw [h, gck.2.1] at this; omega⟩
      have nA : ∀ j ∈ FA, j ≠ S3.length ∧ j ≠ k ∧ j ≠ mp := fun j hj => ⟨fun h => by have := (gcA j hj).2; rw [h, gck.2.2.1] at this; omega, fun h => by have := (gcA j hj).2; rw [h, gck.1] at this; omega, fun h => by have := (gcA j hj).2; rw [h, gck.2.1] at this; omega⟩
      have hm5 : MkrS 130 H5 k mp (.slice a1 sp.sources.length z1) (.slice a2 sp.targets.length z2) sd' (.slice al way.length zl) ds' way FD' Flw :=
        ⟨h5k, Rp.fr gm.dds fun j hj => h5o j (nD j hj).1 (nD j hj).2, Rp.fr hcw fun j hj => h5o j (nW j (hsubw j hj)).1 (nW j (hsubw j hj)).2, gm.map.fr (h5o mp nmp (Ne.symm e5)), e5, gm.nD, hndw gm.nW, fun j hj => ⟨(gm.sepD j hj).1, (gm.sepD j hj).2.1, fun h => (gm.sepD j hj).2.2 (hsubw j h)⟩, fun j hj => gm.sepW j (hsubw j hj)⟩
      simp +contextual (dsimp := false) [h5d]
      refine CallK.of ⟨_, Tryz.func128, rfl, rfl⟩ (mput_ac (d := ⟨n, 3, cf, tf, tgtA sp n, ls⟩) (c := [str n, int 3, int cf, str tf, .slice aA (tgtA sp n).length zA, .slice asl ls.length zsl]) (F := FA ++ FL) hm5 (by omega)
        ⟨⟨by unfold okS; dsimp only; omega, by simp [i64], by dsimp only; unfold i64; omega, by unfold okS; dsimp only; omega⟩, _, _, FA, FL, rfl, rfl, Rp.fr gact fun j hj => h5o j (nA j hj).1 (nA j hj).2.1, Rp.fr gl fun j hj => h5o j (nL j hj).1 (nL j hj).2.1⟩
        (gk.wt n (by simp)).2 (List.nodup_append.2 ⟨hfA.2, gln, fun a ha b hb hab => gcA.apart gcL (by decide) a ha (hab ▸ hb)⟩) fun j hj => ?_) ?_
      · rcases List.mem_append.1 hj with h | h
        · exact ⟨(nA j h).2.1, (nA j h).2.2, gcA.apart gcD (by decide) j h, fun h' => gcA.apart gcW (by decide) j h (hsubw j h')⟩
        · exact ⟨(nL j h).2.1, (nL j h).2.2, gcL.apart gcD (by decide) j h, fun h' => gcL.apart gcW (by decide) j h (hsubw j h')⟩
      rintro v S6 ⟨rfl, sd6, FD6, hm6, le6, old6, sub6⟩
      simp +contextual (dsimp := false)
      rw [hR]
      have gle := gf.le
      refine ⟨rfl, sd6, _, FD6, Flw, hm6, ⟨by omega, fun j b1 b2 b3 b4 b5 => ?_, fun j hj => ?_, fun j hj => gf.subW j (hsubw j hj)⟩⟩
      · rw [old6 j (by omega) b2 b3 (fun h => by rcases gf.subD j h with h | h
                                                 · exact b4 h
                                                 · omega), h5o j (by omega) b2]
        exact gf.old j b1 b2 b3 b4 b5
      · rcases sub6 j hj with h | h | h
        · exact gf.subD j h
        · rcases List.mem_append.1 h with h | h
          · have := hfA.1 j h
            exact .inr (by omega)
          · exact .inr (gnL j h)
        · exact .inr (by omega)
    | look a nm m =>
      have gmac' := gmac
      obtain ⟨svm, hb, hst, hni, hndF⟩ := gmac'
      have kdl : S3.length < hq.length := (List.getElem?_eq_some_iff.1 gd).1
      have kml : S3.length + 1 < hq.length := (List.getElem?_eq_some_iff.1 hb).1
      have hbT : ∀ T : Heap, (hq ++ T)[S3.length + 1]? = _ := fun T => (List.getElem?_append_left kml).trans hb
      have lk := glook a nm m rfl
      simp +contextual (dsimp := false) [goB_of hb, hb, hbT]
      have gle := gf.le
      have hls : ls.length < 200 := by have := lk.2.2.2.1; have := lk.1.looks; omega
      obtain ⟨fu, hfu⟩ : ∃ fu, 200 - ls.length = fu + 1 := ⟨199 - ls.length, by omega⟩
      rw [hfu] at geq
      have nlk := nameOk_len lk.2.2.2.2.1
      have g0 : ∀ j, j < hq.length → c j ≠ 9 → H0.length ≤ j := fun j hj hc => by
        rcases Nat.lt_or_ge j H0.length with h | h
        · exact absurd (gc9 j h) hc
        · exact h
      have nk0 : H0.length ≤ k := hk0
      cases a with
      | true =>
        simp +contextual (dsimp := false)
        obtain ⟨Ha, hHa⟩ : ∃ Ha, Ha = hq ++ [(⟨.cells #[str nm, .bool true, .bool false, int 0] 123 (0, 0), true, true⟩ : Blk), ⟨.cells #[.bool false, int 0, str []] 185 (0, 0), true, true⟩] := ⟨_, rfl⟩
        have hal : Ha.length = hq.length + 2 := by rw [hHa]; simp
        have hax : Ext hq Ha := by rw [hHa]; exact Ext.app _ _
        have ha0 : Ha[hq.length]? = some (⟨.cells #[str nm, .bool true, .bool false, int 0] 123 (0, 0), true, true⟩ : Blk) := by rw [hHa]; simp
        have ha1 : Ha[hq.length + 1]? = some (⟨.cells #[.bool false, int 0, str []] 185 (0, 0), true, true⟩ : Blk) := by rw [hHa]; simp
        rw [← hHa]
        clear hHa
        have hgm := gm.ext hax
        have hmkE := makeM_ok hsp f (way ++ [n]) ds' nm (by simp; omega) (by simp; omega) gk lk.2.2.2.2.1
        refine CallK.of ⟨_, Tryz.func83, rfl, rfl⟩ (ih (gx.trans hax) hk0 hmp0 (fun j hj => g0 j (gcD j hj).1 (by rw [(gcD j hj).2]; decide)) (fun j hj => g0 j (gcW j hj).1 (by rw [(gcW j hj).2]; decide)) hgm gk (by simp; omega) (by simp; omega) nm lk.2.2.2.2.1 (by omega)) ?_
        intro v S5 hmk
        simp only [runM, if_true] at geq
        cases hmm : makeM sp f (way ++ [n]) ds' nm with
        | stop r =>
          rw [hmm] at hmk geq
          obtain ⟨rfl, sd2, sw2, sc2, F2, kb2, kc2, kf2, kl2, ko2⟩ := hmk
          have hl0 : S5[hq.length]? = _ := (ko2 hq.length (by omega) (fun h => by have := (List.getElem?_eq_some_iff.1 gmb).1; omega) (fun h => by have := gm.map.lt; omega) (fun h => by have := (gcD _ h).1; omega) (fun h => by have := (gcW _ h).1; omega)).trans ha0
          have kkl := (List.getElem?_eq_some_iff.1 gmb).1
          have kne2 : hq.length ≠ k := by omega
          have hsk5 : ∀ b : Blk, (S5.set hq.length b)[k]? = _ := fun b => (List.getElem?_set_ne kne2).trans kb2
          simp +contextual (dsimp := false) [hl0, goB_of hl0, hsk5]
          rw [← geq]
          simp only [finR]
          refine ⟨rfl, sd2, sw2, sc2, F2, hsk5 _, Rp.fr kc2 fun j hj => List.getElem?_set_ne (by have := kf2.1 j hj; omega), kf2.weak (by omega), by simp; omega, fun j b1 b2 b3 b4 b5 => ?_⟩
          rw [List.getElem?_set_ne (by omega), ko2 j (by omega) b2 b3 (fun h => by rcases gf.subD j h with h | h
                                                                                   · exact b4 h
                                                                                   · omega) (fun h => by rcases gf.subW j h with h | h
                                                                                                         · exact b5 h
                                                                                                         · omega), hax j (by omega)]
          exact gf.old j b1 b2 b3 b4 b5
        | at_ i1 ds1 =>
          rw [hmm] at hmk geq hmkE
          obtain ⟨m1, m2, m3, m4, m5⟩ := hmkE
          obtain ⟨rfl, sd2, sw2, FD2, FW2, gm2, gf2⟩ := hmk
          obtain ⟨ad2, zd2, rfl⟩ := gm2.dds.form
          have l5 := gf2.le
          have h50 : S5[hq.length]? = _ := (gf2.old hq.length (by omega) (fun h => by have := (List.getElem?_eq_some_iff.1 gmb).1; omega) (fun h => by have := gm.map.lt; omega) (fun h => by have := (gcD _ h).1; omega) (fun h => by have := (gcW _ h).1; omega)).trans ha0
          have h51 : S5[hq.length + 1]? = _ := (gf2.old (hq.length + 1) (by omega) (fun h => by have := (List.getElem?_eq_some_iff.1 gmb).1; omega) (fun h => by have := gm.map.lt; omega) (fun h => by have := (gcD _ h).1; omega) (fun h => by have := (gcW _ h).1; omega)).trans ha1
          obtain ⟨id6, o6, c6, e6', f6, ow6, cs6, Fi6, E6⟩ := SlR.get gm2.dds i1 m3
          have hrep6 := E6.rep
          obtain ⟨hk6, s61, s62, G61, G62, rfl, hFi6, hc61, hc62⟩ := E6.rep
          obtain ⟨a61, z61, rfl⟩ := hc61.form
          obtain ⟨a62, z62, rfl⟩ := hc62.form
          have kkl' := (List.getElem?_eq_some_iff.1 gmb).1
          have nl2 : ∀ j ∈ FD2, j ≠ hq.length ∧ j ≠ hq.length + 1 := fun j hj => by
            rcases gf2.subD j hj with h | h
            · have := (gcD j h).1; omega
            · omega
          have nw2 : ∀ j ∈ FW2, j ≠ hq.length ∧ j ≠ hq.length + 1 := fun j hj => by
            rcases gf2.subW j hj with h | h
            · have := (gcW j h).1; omega
            · omega
          have hs6k : ∀ b : Blk, (S5.set hq.length b)[k]? = _ := fun b => (List.getElem?_set_ne (by omega)).trans gm2.blk
          have hs6e : ∀ b : Blk, (S5.set hq.length b)[id6]? = _ := fun b => (List.getElem?_set_ne (Ne.symm (nl2 id6 E6.mem).1)).trans E6.blk
          have hs61 : ∀ b : Blk, (S5.set hq.length b)[hq.length + 1]? = _ := fun b => (List.getElem?_set_ne (by omega)).trans h51
          have hs60 : ∀ b : Blk, (S5.set hq.length b)[hq.length]? = some b := fun b => List.getElem?_set_self (by omega)
          simp +contextual (dsimp := false) [h50, hs6k, hs6e, hs61, hs60, E6.idx, E6.le, E6.ext]
          refine CallK.fl ⟨_, Tryz.func134, rfl, rfl⟩ (reply_ac (Rp.fr hrep6 fun j hj => List.getElem?_set_ne (Ne.symm (nl2 j (E6.sub j hj)).1))) ?_
          simp +contextual (dsimp := false) [hs61, hs60, Rpl.c]
          obtain ⟨Hq, hHq⟩ : ∃ Hq, Hq = (S5.set hq.length (⟨.cells #[str nm, .bool true, .bool false, int (i1 : Int)] 123 (0, 0), true, true⟩ : Blk)).set (hq.length + 1) ⟨.cells #[.bool (replyD ds1[i1]).has, int (replyD ds1[i1]).code, str (replyD ds1[i1]).text] 185 (0, 0), true, true⟩ := ⟨_, rfl⟩
          have hql : Hq.length = S5.length := by rw [hHq]; simp
          have qle : hq.length + 2 ≤ Hq.length := by omega
          have hqo : ∀ j, j ≠ hq.length → j ≠ hq.length + 1 → Hq[j]? = S5[j]? := fun j j1 j2 => by rw [hHq, List.getElem?_set_ne (Ne.symm j2), List.getElem?_set_ne (Ne.symm j1)]
          have qb0 : Hq[hq.length]? = some (⟨.cells #[str nm, .bool true, .bool false, int (i1 : Int)] 123 (0, 0), true, true⟩ : Blk) := by rw [hHq, List.getElem?_set_ne (by omega)]; exact hs60 _
          have qb1 : Hq[hq.length + 1]? = some (⟨.cells #[.bool (replyD ds1[i1]).has, int (replyD ds1[i1]).code, str (replyD ds1[i1]).text] 185 (0, 0), true, true⟩ : Blk) := by rw [hHq]; exact List.getElem?_set_self (by simp; omega)
          rw [← hHq]
          clear hHq
          have gmq := gm2.fr (hqo k (by omega) (by omega)) (hqo mp (by have := gm.map.lt; omega) (by have := gm.map.lt; omega)) (fun j hj => hqo j (nl2 j hj).1 (nl2 j hj).2) fun j hj => hqo j (nw2 j hj).1 (nw2 j hj).2
          have qo : ∀ j, j < hq.length → c j ≠ 0 → Hq[j]? = hq[j]? := fun j hj hc => (hqo j (by omega) (by omega)).trans ((gf2.old j (by omega) (fun h => hc (by rw [h]; exact gck.1)) (fun h => hc (by rw [h]; exact gck.2.1)) (gcD.not hc) (gcW.not hc)).trans (hax j hj))
          have qsD : ∀ j ∈ FD2, j ∈ FD' ∨ hq.length + 2 ≤ j := fun j hj => (gf2.subD j hj).imp_right fun h => by omega
          have qsW : ∀ j ∈ FW2, j ∈ FW' ∨ hq.length + 2 ≤ j := fun j hj => (gf2.subW j hj).imp_right fun h => by omega
          have gfq : MkFr H k mp FD FW Hq FD2 FW2 := gf.trans ⟨by omega, fun j b1 b2 b3 b4 b5 => (hqo j (by omega) (by omega)).trans ((gf2.old j (by omega) b2 b3 b4 b5).trans (hax j b1)), fun j hj => (qsD j hj).imp_right fun h => by omega, fun j hj => (qsW j hj).imp_right fun h => by omega⟩
          have qok := m1
          have qrp : replyOk (replyD ds1[i1]) = true := (m1.fit _ (List.getElem_mem m3)).1
          dsimp only at geq
          rw [dAt_lt m3] at geq
          have qll : hq.length + 2 ≤ Hq.length := qle
          have qd : Hq[S3.length]? = _ := (qo _ kdl (by rw [gck.2.2.1]; decide)).trans gd
          have qmac : MacR 204 Hq (S3.length + 1) (.slice ac (tgtA sp n).length zc) m ⟨false, 0, [], true, nm, m.steps⟩ F' := MacR.fr gmac (qo _ kml (by rw [gck.2.2.2]; decide)) fun i hi => qo i (gcF i hi).1 (by rw [(gcF i hi).2]; decide)
          have ql : LnksR true Hq ls [.slice asl ls.length zsl] FL := Rp.fr gl fun j hj => qo j (gcL j hj).1 (by rw [(gcL j hj).2]; decide)
          have qdT : ∀ T : Heap, (Hq ++ T)[S3.length]? = _ := fun T => (List.getElem?_append_left (by omega)).trans qd
          simp +contextual (dsimp := false) [qd, qb0, qdT]
          refine AppK.one (R := LnkR) (l := ls) (ex := 123) (fx := (0, 0)) (ox := true) (base := H.length) (x := ⟨nm, true, false, (i1 : Int)⟩) (cx := [str nm, .bool true, .bool false, int (i1 : Int)]) (Fx := []) slt80 und80 (Rp.ext ql (Ext.app _ _)) ⟨gnL, gln⟩ (by simp) ⟨rfl, rfl, ⟨by unfold okS; dsimp only; omega, by dsimp only; unfold i64; omega⟩⟩ (Fresh.nil _) (by simp) (by simp; omega) (by omega) (by decide) ?_
          intro s9 H6 FL2 r1 r2 r3 r4 r5
          obtain ⟨a9, z9, rfl⟩ := r1.form
          simp only [List.length_append, List.length_cons, List.length_nil, Nat.zero_add] at r1 r3 r4 r5
          have kdFL : S3.length ∉ FL := gcL.not (by rw [gck.2.2.1]; decide)
          have kmFL : S3.length + 1 ∉ FL := gcL.not (by rw [gck.2.2.2]; decide)
          have h6o : ∀ j, j < Hq.length → j ∉ FL → H6[j]? = Hq[j]? := fun j hj hn => (r4 j (by omega) hn).trans (List.getElem?_append_left hj)
          have h6d : H6[S3.length]? = _ := (h6o _ (by omega) kdFL).trans qd
          have h6r : H6[hq.length + 1]? = _ := (h6o _ (by omega) (fun h => by have := (gcL _ h).1; omega)).trans qb1
          have hs6 : ∀ b : Blk, (H6.set S3.length b)[S3.length]? = some b := fun b => List.getElem?_set_self (by omega)
          have hs6r : ∀ b : Blk, (H6.set S3.length b)[hq.length + 1]? = _ := fun b => (List.getElem?_set_ne (by omega)).trans h6r
          simp +contextual (dsimp := false) [h6d, hs6, hs6r]
          obtain ⟨H7, hH7⟩ : ∃ H7, H7 = H6.set S3.length (⟨.cells #[str n, int 3, int 0, str [], .slice aA (tgtA sp n).length zA, .slice a9 (ls.length + 1) z9] 82 (0, 0), true, true⟩ : Blk) := ⟨_, rfl⟩
          have h7l : H7.length = H6.length := by rw [hH7]; simp
          have h7d : H7[S3.length]? = some (⟨.cells #[str n, int 3, int 0, str [], .slice aA (tgtA sp n).length zA, .slice a9 (ls.length + 1) z9] 82 (0, 0), true, true⟩ : Blk) := by rw [hH7]; exact hs6 _
          have h7o : ∀ j, j ≠ S3.length → H7[j]? = H6[j]? := fun j hj => by rw [hH7]; exact List.getElem?_set_ne (Ne.symm hj)
          rw [← hH7]
          clear hH7
          have h7q : ∀ j, j < Hq.length → j ∉ FL → j ≠ S3.length → H7[j]? = Hq[j]? := fun j b1 b2 b3 => (h7o j b3).trans (h6o j b1 b2)
          have h7x : Ext H0 H7 := fun j hj => by
            have e9 := gc9 j hj
            have hjl : j < hq.length := by have := gx.le; omega
            exact (h7q j (by omega) (gcL.not (by rw [e9]; decide)) (fun h => by rw [h, gck.2.2.1] at e9; omega)).trans ((qo j hjl (by rw [e9]; decide)).trans (gx j hj))
          have hm7 : MacR 204 H7 (S3.length + 1) (.slice ac (tgtA sp n).length zc) m ⟨false, 0, [], true, nm, m.steps⟩ F' := MacR.fr qmac (h7q _ (by omega) kmFL (by omega)) fun i hi => h7q i (by have := (gcF i hi).1; omega) (gcF.apart gcL (by decide) i hi) (fun h => by have := (gcF i hi).2; rw [h, gck.2.2.1] at this; omega)
          have hn7 : NeedM true H7 (S3.length + 1) (.slice ac (tgtA sp n).length zc) (tgtA sp n) F' Fi := ⟨Rp.fr hcode fun j hj => (h7x j (hFil j hj)).trans (hx2 j (hFil j hj)).symm, fun hm => by have := hFil _ hm; omega, fun j hj => gcF.not (by rw [gc9 j (hFil j hj)]; decide), hP.ext h7x, by omega, gcF.not (by rw [gc9 _ hgl]; decide)⟩
          refine CallK.of ⟨_, Tryz.func135, rfl, rfl⟩ (answer_ac (r := (replyD ds1[i1])) hm7 hn7 hcv lk.1 lk.2.1 lk.2.2.1 qrp h2) ?_
          rintro v S8 ⟨rfl, hE8⟩
          obtain ⟨F8, hmac8, f81, f82, f83⟩ := hE8.parts
          simp +contextual (dsimp := false)
          have h8q : ∀ j, j < Hq.length → j ∉ FL → j ≠ S3.length → j ≠ S3.length + 1 → j ∉ F' → S8[j]? = Hq[j]? := fun j b1 b2 b3 b4 b5 => (f82 j (by omega) b4 b5).trans (h7q j b1 b2 b3)
          have hF8l : ∀ j ∈ F8, j < S8.length := fun j hj => by
            revert hmac8
            cases runO (tgtA sp n) (answ true nm m (replyD ds1[i1])) with
            | go m => exact fun h => h.elim
            | fin c t nn => exact fun ⟨m', h⟩ => h.lt.2 j hj
            | look a nm m => exact fun h => h.lt.2 j hj
          obtain ⟨c3, hc3⟩ : ∃ c3 : Nat → Nat, c3 = fun j => if j < hq.length then c j else if j < hq.length + 2 then 7 else if j < Hq.length + 1 then 0 else if j < H7.length then 2 else 1 := ⟨_, rfl⟩
          have c3a : ∀ j, j < hq.length → c3 j = c j := fun j hj => by rw [hc3]; exact if_pos hj
          have c3b : ∀ j, hq.length + 2 ≤ j → j < Hq.length → c3 j = 0 := fun j h1 h2 => by rw [hc3]; dsimp only; rw [if_neg (by omega), if_neg (by omega), if_pos (by omega)]
          have c3c : ∀ j, Hq.length + 1 ≤ j → j < H7.length → c3 j = 2 := fun j h1 h2 => by rw [hc3]; dsimp only; rw [if_neg (by omega), if_neg (by omega), if_neg (by omega), if_pos (by omega)]
          have c3d : ∀ j, H7.length ≤ j → c3 j = 1 := fun j h1 => by rw [hc3]; dsimp only; rw [if_neg (by omega), if_neg (by omega), if_neg (by omega), if_neg (by omega)]
          clear hc3
          have x8 : Ext H0 S8 := fun j hj => by
            have e9 := gc9 j hj
            have hjl : j < hq.length := by have := gx.le; omega
            exact (f82 j (by omega) (fun h => by rw [h, gck.2.2.2] at e9; omega) (gcF.not (by rw [e9]; decide))).trans (h7x j hj)
          have d0 : ∀ j, j ∈ FD2 → j < Hq.length ∧ c3 j = 0 := fun j hj => by
            have h1 := gmq.lt.2.2.1 j hj
            rcases qsD j hj with h | h
            · exact ⟨h1, (c3a j (gcD j h).1).trans (gcD j h).2⟩
            · exact ⟨h1, c3b j h h1⟩
          have w0 : ∀ j, j ∈ FW2 → j < Hq.length ∧ c3 j = 0 := fun j hj => by
            have h1 := gmq.lt.2.2.2 j hj
            rcases qsW j hj with h | h
            · exact ⟨h1, (c3a j (gcW j h).1).trans (gcW j h).2⟩
            · exact ⟨h1, c3b j h h1⟩
          have kkl := (List.getElem?_eq_some_iff.1 gmb).1
          have mpl := gm.map.lt
          have ck3 : c3 k = 0 ∧ c3 mp = 0 ∧ c3 S3.length = 4 ∧ c3 (S3.length + 1) = 5 := ⟨(c3a _ kkl).trans gck.1, (c3a _ mpl).trans gck.2.1, (c3a _ kdl).trans gck.2.2.1, (c3a _ kml).trans gck.2.2.2⟩
          have nc : ∀ j, j < Hq.length → c3 j = 0 → S8[j]? = Hq[j]? := fun j hj hc => h8q j hj (fun h => by have h1 := (gcL j h).2; rw [c3a j (gcL j h).1] at hc; omega) (fun h => by rw [h, ck3.2.2.1] at hc; omega) (fun h => by rw [h, ck3.2.2.2] at hc; omega) (fun h => by have h1 := (gcF j h).2; rw [c3a j (gcF j h).1] at hc; omega)
          have hra := resume_at hcv glook qrp
          refine LoopN.of ⟨resume (tgtA sp n) (.look true nm m) (replyD ds1[i1]), ds1, ls ++ [⟨nm, true, false, (i1 : Int)⟩], S8, .slice ad2 ds1.length zd2, sw2, .slice a9 (ls.length + 1) z9, FD2, FW2, F8, FL2, c3⟩ rfl ?_ (by simp; omega)
          refine ⟨gmq.fr (nc k (by omega) ck3.1) (nc mp (by omega) ck3.2.1) (fun j hj => nc j (d0 j hj).1 (d0 j hj).2) fun j hj => nc j (w0 j hj).1 (w0 j hj).2, ⟨by have := gfq.le; show H.length ≤ S8.length; omega, fun j b1 b2 b3 b4 b5 => ?_, gfq.subD, gfq.subW⟩, qok, hmac8, ?_, r2.2, ?_, ?_, x8, fun j hj => ⟨by have := (d0 j hj).1; dsimp only; omega, (d0 j hj).2⟩, fun j hj => ⟨by have := (w0 j hj).1; dsimp only; omega, (w0 j hj).2⟩, fun j hj => ⟨hF8l j hj, ?_⟩, fun j hj => ?_, fun j hj => ?_, ck3, fun j hj => (c3a j (by have := gx.le; omega)).trans (gc9 j hj), fun j hj => ?_, fun j hj => r2.1 j hj, by simpa using hra.1, hra.2, resume_ng glook _, by simp; omega, ?_, ?_⟩
          · have := gfq.le
            exact (h8q j (by omega) (fun h => by have := gnL j h; omega) (by omega) (by omega) (fun h => by have := gnF j h; omega)).trans (gfq.old j b1 b2 b3 b4 b5)
          · refine Rp.fr r1 fun j hj => ?_
            have hjl := Rp.lt r1 j hj
            rcases r5 j hj with h | h | h
            · have h1 := (gcL j h).2
              exact (f82 j (by omega) (fun h' => by rw [h', gck.2.2.2] at h1; omega) (gcL.apart gcF (by decide) j h)).trans (h7o j fun h' => by rw [h', gck.2.2.1] at h1; omega)
            · cases h
            · exact (f82 j (by omega) (by omega) (fun h' => by have := (gcF j h').1; omega)).trans (h7o j (by omega))
          · exact (f82 _ (by omega) (by omega) (gcF.not (by rw [gck.2.2.1]; decide))).trans h7d
          · refine Rp.fr gact fun j hj => ?_
            have h1 := (gcA j hj).2
            have h2 := (gcA j hj).1
            exact (h8q j (by omega) (gcA.apart gcL (by decide) j hj) (fun h' => by rw [h', gck.2.2.1] at h1; omega) (fun h' => by rw [h', gck.2.2.2] at h1; omega) (gcA.apart gcF (by decide) j hj)).trans (qo j h2 (by rw [h1]; decide))
          · rcases f83 j hj with h | h
            · exact c3d j h
            · exact (c3a j (gcF j h).1).trans (gcF j h).2
          · have hjl := Rp.lt r1 j hj
            refine ⟨by dsimp only; omega, ?_⟩
            rcases r5 j hj with h | h | h
            · exact (c3a j (gcL j h).1).trans (gcL j h).2
            · cases h
            · exact c3c j h (by omega)
          · have h2 := (gcA j hj).1
            exact ⟨by dsimp only; omega, (c3a j h2).trans (gcA j hj).2⟩
          · have := gfq.le
            rcases f83 j hj with h | h
            · omega
            · exact gnF j h
          · have : 200 - (ls ++ [(⟨nm, true, false, (i1 : Int)⟩ : Lnk)]).length = fu := by simp; omega
            dsimp only
            rw [this]
            exact geq
          · simp only [List.length_append, List.length_singleton]
            omega
      | false =>
        have gmbT : ∀ T : Heap, (hq ++ T)[k]? = _ := fun T => (List.getElem?_append_left (List.getElem?_eq_some_iff.1 gmb).1).trans gmb
        simp +contextual (dsimp := false) [gmbT]
        refine CallK.fl ⟨_, Tryz.func122, rfl, rfl⟩ (there_ac (Rp.ext hs0 (gx.trans (Ext.app _ _))) hsp nm) ?_
        simp +contextual (dsimp := false)
        obtain ⟨Hq, hHq⟩ : ∃ Hq, Hq = hq ++ [(⟨.cells #[str nm, .bool false, .bool (hasN sp nm), int 0] 123 (0, 0), true, true⟩ : Blk), ⟨.cells #[.bool (hasN sp nm), int 0, str []] 185 (0, 0), true, true⟩] := ⟨_, rfl⟩
        have hql : Hq.length = hq.length + 2 := by rw [hHq]; simp
        have qle : hq.length + 2 ≤ Hq.length := by omega
        have hqx : Ext hq Hq := by rw [hHq]; exact Ext.app _ _
        have qb0 : Hq[hq.length]? = some (⟨.cells #[str nm, .bool false, .bool (hasN sp nm), int 0] 123 (0, 0), true, true⟩ : Blk) := by rw [hHq]; simp
        have qb1 : Hq[hq.length + 1]? = some (⟨.cells #[.bool (hasN sp nm), int 0, str []] 185 (0, 0), true, true⟩ : Blk) := by rw [hHq]; simp
        rw [← hHq]
        clear hHq
        have gmq := gm.ext hqx
        have qo : ∀ j, j < hq.length → c j ≠ 0 → Hq[j]? = hq[j]? := fun j hj hc => hqx j hj
        have qsD : ∀ j ∈ FD', j ∈ FD' ∨ hq.length + 2 ≤ j := fun j hj => .inl hj
        have qsW : ∀ j ∈ FW', j ∈ FW' ∨ hq.length + 2 ≤ j := fun j hj => .inl hj
        have gfq : MkFr H k mp FD FW Hq FD' FW' := gf.trans ⟨by omega, fun j b1 b2 b3 b4 b5 => hqx j b1, fun j hj => .inl hj, fun j hj => .inl hj⟩
        have qok := gk
        have qrp : replyOk (⟨hasN sp nm, 0, []⟩ : Rpl) = true := by simp [replyOk]
        simp only [runM, Bool.false_eq_true, if_false] at geq
        have qll : hq.length + 2 ≤ Hq.length := qle
        have qd : Hq[S3.length]? = _ := (qo _ kdl (by rw [gck.2.2.1]; decide)).trans gd
        have qmac : MacR 204 Hq (S3.length + 1) (.slice ac (tgtA sp n).length zc) m ⟨false, 0, [], false, nm, m.steps⟩ F' := MacR.fr gmac (qo _ kml (by rw [gck.2.2.2]; decide)) fun i hi => qo i (gcF i hi).1 (by rw [(gcF i hi).2]; decide)
        have ql : LnksR true Hq ls [.slice asl ls.length zsl] FL := Rp.fr gl fun j hj => qo j (gcL j hj).1 (by rw [(gcL j hj).2]; decide)
        have qdT : ∀ T : Heap, (Hq ++ T)[S3.length]? = _ := fun T => (List.getElem?_append_left (by omega)).trans qd
        simp +contextual (dsimp := false) [qd, qb0, qdT]
        refine AppK.one (R := LnkR) (l := ls) (ex := 123) (fx := (0, 0)) (ox := true) (base := H.length) (x := ⟨nm, false, (hasN sp nm), 0⟩) (cx := [str nm, .bool false, .bool (hasN sp nm), int 0]) (Fx := []) slt80 und80 (Rp.ext ql (Ext.app _ _)) ⟨gnL, gln⟩ (by simp) ⟨rfl, rfl, ⟨by unfold okS; dsimp only; omega, by dsimp only; unfold i64; omega⟩⟩ (Fresh.nil _) (by simp) (by simp; omega) (by omega) (by decide) ?_
        intro s9 H6 FL2 r1 r2 r3 r4 r5
        obtain ⟨a9, z9, rfl⟩ := r1.form
        simp only [List.length_append, List.length_cons, List.length_nil, Nat.zero_add] at r1 r3 r4 r5
        have kdFL : S3.length ∉ FL := gcL.not (by rw [gck.2.2.1]; decide)
        have kmFL : S3.length + 1 ∉ FL := gcL.not (by rw [gck.2.2.2]; decide)
        have h6o : ∀ j, j < Hq.length → j ∉ FL → H6[j]? = Hq[j]? := fun j hj hn => (r4 j (by omega) hn).trans (List.getElem?_append_left hj)
        have h6d : H6[S3.length]? = _ := (h6o _ (by omega) kdFL).trans qd
        have h6r : H6[hq.length + 1]? = _ := (h6o _ (by omega) (fun h => by have := (gcL _ h).1; omega)).trans qb1
        have hs6 : ∀ b : Blk, (H6.set S3.length b)[S3.length]? = some b := fun b => List.getElem?_set_self (by omega)
        have hs6r : ∀ b : Blk, (H6.set S3.length b)[hq.length + 1]? = _ := fun b => (List.getElem?_set_ne (by omega)).trans h6r
        simp +contextual (dsimp := false) [h6d, hs6, hs6r]
        obtain ⟨H7, hH7⟩ : ∃ H7, H7 = H6.set S3.length (⟨.cells #[str n, int 3, int 0, str [], .slice aA (tgtA sp n).length zA, .slice a9 (ls.length + 1) z9] 82 (0, 0), true, true⟩ : Blk) := ⟨_, rfl⟩
        have h7l : H7.length = H6.length := by rw [hH7]; simp
        have h7d : H7[S3.length]? = some (⟨.cells #[str n, int 3, int 0, str [], .slice aA (tgtA sp n).length zA, .slice a9 (ls.length + 1) z9] 82 (0, 0), true, true⟩ : Blk) := by rw [hH7]; exact hs6 _
        have h7o : ∀ j, j ≠ S3.length → H7[j]? = H6[j]? := fun j hj => by rw [hH7]; exact List.getElem?_set_ne (Ne.symm hj)
        rw [← hH7]
        clear hH7
        have h7q : ∀ j, j < Hq.length → j ∉ FL → j ≠ S3.length → H7[j]? = Hq[j]? := fun j b1 b2 b3 => (h7o j b3).trans (h6o j b1 b2)
        have h7x : Ext H0 H7 := fun j hj => by
          have e9 := gc9 j hj
          have hjl : j < hq.length := by have := gx.le; omega
          exact (h7q j (by omega) (gcL.not (by rw [e9]; decide)) (fun h => by rw [h, gck.2.2.1] at e9; omega)).trans ((qo j hjl (by rw [e9]; decide)).trans (gx j hj))
        have hm7 : MacR 204 H7 (S3.length + 1) (.slice ac (tgtA sp n).length zc) m ⟨false, 0, [], false, nm, m.steps⟩ F' := MacR.fr qmac (h7q _ (by omega) kmFL (by omega)) fun i hi => h7q i (by have := (gcF i hi).1; omega) (gcF.apart gcL (by decide) i hi) (fun h => by have := (gcF i hi).2; rw [h, gck.2.2.1] at this; omega)
        have hn7 : NeedM true H7 (S3.length + 1) (.slice ac (tgtA sp n).length zc) (tgtA sp n) F' Fi := ⟨Rp.fr hcode fun j hj => (h7x j (hFil j hj)).trans (hx2 j (hFil j hj)).symm, fun hm => by have := hFil _ hm; omega, fun j hj => gcF.not (by rw [gc9 j (hFil j hj)]; decide), hP.ext h7x, by omega, gcF.not (by rw [gc9 _ hgl]; decide)⟩
        refine CallK.of ⟨_, Tryz.func135, rfl, rfl⟩ (answer_ac (r := (⟨hasN sp nm, 0, []⟩ : Rpl)) hm7 hn7 hcv lk.1 lk.2.1 lk.2.2.1 qrp h2) ?_
        rintro v S8 ⟨rfl, hE8⟩
        obtain ⟨F8, hmac8, f81, f82, f83⟩ := hE8.parts
        simp +contextual (dsimp := false)
        have h8q : ∀ j, j < Hq.length → j ∉ FL → j ≠ S3.length → j ≠ S3.length + 1 → j ∉ F' → S8[j]? = Hq[j]? := fun j b1 b2 b3 b4 b5 => (f82 j (by omega) b4 b5).trans (h7q j b1 b2 b3)
        have hF8l : ∀ j ∈ F8, j < S8.length := fun j hj => by
          revert hmac8
          cases runO (tgtA sp n) (answ false nm m (⟨hasN sp nm, 0, []⟩ : Rpl)) with
          | go m => exact fun h => h.elim
          | fin c t nn => exact fun ⟨m', h⟩ => h.lt.2 j hj
          | look a nm m => exact fun h => h.lt.2 j hj
        obtain ⟨c3, hc3⟩ : ∃ c3 : Nat → Nat, c3 = fun j => if j < hq.length then c j else if j < hq.length + 2 then 7 else if j < Hq.length + 1 then 0 else if j < H7.length then 2 else 1 := ⟨_, rfl⟩
        have c3a : ∀ j, j < hq.length → c3 j = c j := fun j hj => by rw [hc3]; exact if_pos hj
        have c3b : ∀ j, hq.length + 2 ≤ j → j < Hq.length → c3 j = 0 := fun j h1 h2 => by rw [hc3]; dsimp only; rw [if_neg (by omega), if_neg (by omega), if_pos (by omega)]
        have c3c : ∀ j, Hq.length + 1 ≤ j → j < H7.length → c3 j = 2 := fun j h1 h2 => by rw [hc3]; dsimp only; rw [if_neg (by omega), if_neg (by omega), if_neg (by omega), if_pos (by omega)]
        have c3d : ∀ j, H7.length ≤ j → c3 j = 1 := fun j h1 => by rw [hc3]; dsimp only; rw [if_neg (by omega), if_neg (by omega), if_neg (by omega), if_neg (by omega)]
        clear hc3
        have x8 : Ext H0 S8 := fun j hj => by
          have e9 := gc9 j hj
          have hjl : j < hq.length := by have := gx.le; omega
          exact (f82 j (by omega) (fun h => by rw [h, gck.2.2.2] at e9; omega) (gcF.not (by rw [e9]; decide))).trans (h7x j hj)
        have d0 : ∀ j, j ∈ FD' → j < Hq.length ∧ c3 j = 0 := fun j hj => by
          have h1 := gmq.lt.2.2.1 j hj
          rcases qsD j hj with h | h
          · exact ⟨h1, (c3a j (gcD j h).1).trans (gcD j h).2⟩
          · exact ⟨h1, c3b j h h1⟩
        have w0 : ∀ j, j ∈ FW' → j < Hq.length ∧ c3 j = 0 := fun j hj => by
          have h1 := gmq.lt.2.2.2 j hj
          rcases qsW j hj with h | h
          · exact ⟨h1, (c3a j (gcW j h).1).trans (gcW j h).2⟩
          · exact ⟨h1, c3b j h h1⟩
        have kkl := (List.getElem?_eq_some_iff.1 gmb).1
        have mpl := gm.map.lt
        have ck3 : c3 k = 0 ∧ c3 mp = 0 ∧ c3 S3.length = 4 ∧ c3 (S3.length + 1) = 5 := ⟨(c3a _ kkl).trans gck.1, (c3a _ mpl).trans gck.2.1, (c3a _ kdl).trans gck.2.2.1, (c3a _ kml).trans gck.2.2.2⟩
        have nc : ∀ j, j < Hq.length → c3 j = 0 → S8[j]? = Hq[j]? := fun j hj hc => h8q j hj (fun h => by have h1 := (gcL j h).2; rw [c3a j (gcL j h).1] at hc; omega) (fun h => by rw [h, ck3.2.2.1] at hc; omega) (fun h => by rw [h, ck3.2.2.2] at hc; omega) (fun h => by have h1 := (gcF j h).2; rw [c3a j (gcF j h).1] at hc; omega)
        have hra := resume_at hcv glook qrp
        refine LoopN.of ⟨resume (tgtA sp n) (.look false nm m) (⟨hasN sp nm, 0, []⟩ : Rpl), ds', ls ++ [⟨nm, false, (hasN sp nm), 0⟩], S8, sd', sw', .slice a9 (ls.length + 1) z9, FD', FW', F8, FL2, c3⟩ rfl ?_ (by simp; omega)
        refine ⟨gmq.fr (nc k (by omega) ck3.1) (nc mp (by omega) ck3.2.1) (fun j hj => nc j (d0 j hj).1 (d0 j hj).2) fun j hj => nc j (w0 j hj).1 (w0 j hj).2, ⟨by have := gfq.le; show H.length ≤ S8.length; omega, fun j b1 b2 b3 b4 b5 => ?_, gfq.subD, gfq.subW⟩, qok, hmac8, ?_, r2.2, ?_, ?_, x8, fun j hj => ⟨by have := (d0 j hj).1; dsimp only; omega, (d0 j hj).2⟩, fun j hj => ⟨by have := (w0 j hj).1; dsimp only; omega, (w0 j hj).2⟩, fun j hj => ⟨hF8l j hj, ?_⟩, fun j hj => ?_, fun j hj => ?_, ck3, fun j hj => (c3a j (by have := gx.le; omega)).trans (gc9 j hj), fun j hj => ?_, fun j hj => r2.1 j hj, by simpa using hra.1, hra.2, resume_ng glook _, by simp; omega, ?_, ?_⟩
        · have := gfq.le
          exact (h8q j (by omega) (fun h => by have := gnL j h; omega) (by omega) (by omega) (fun h => by have := gnF j h; omega)).trans (gfq.old j b1 b2 b3 b4 b5)
        · refine Rp.fr r1 fun j hj => ?_
          have hjl := Rp.lt r1 j hj
          rcases r5 j hj with h | h | h
          · have h1 := (gcL j h).2
            exact (f82 j (by omega) (fun h' => by rw [h', gck.2.2.2] at h1; omega) (gcL.apart gcF (by decide) j h)).trans (h7o j fun h' => by rw [h', gck.2.2.1] at h1; omega)
          · cases h
          · exact (f82 j (by omega) (by omega) (fun h' => by have := (gcF j h').1; omega)).trans (h7o j (by omega))
        · exact (f82 _ (by omega) (by omega) (gcF.not (by rw [gck.2.2.1]; decide))).trans h7d
        · refine Rp.fr gact fun j hj => ?_
          have h1 := (gcA j hj).2
          have h2 := (gcA j hj).1
          exact (h8q j (by omega) (gcA.apart gcL (by decide) j hj) (fun h' => by rw [h', gck.2.2.1] at h1; omega) (fun h' => by rw [h', gck.2.2.2] at h1; omega) (gcA.apart gcF (by decide) j hj)).trans (qo j h2 (by rw [h1]; decide))
        · rcases f83 j hj with h | h
          · exact c3d j h
          · exact (c3a j (gcF j h).1).trans (gcF j h).2
        · have hjl := Rp.lt r1 j hj
          refine ⟨by dsimp only; omega, ?_⟩
          rcases r5 j hj with h | h | h
          · exact (c3a j (gcL j h).1).trans (gcL j h).2
          · cases h
          · exact c3c j h (by omega)
        · have h2 := (gcA j hj).1
          exact ⟨by dsimp only; omega, (c3a j h2).trans (gcA j hj).2⟩
        · have := gfq.le
          rcases f83 j hj with h | h
          · omega
          · exact gnF j h
        · have : 200 - (ls ++ [(⟨nm, false, (hasN sp nm), 0⟩ : Lnk)]).length = fu := by simp; omega
          dsimp only
          rw [this]
          exact geq
        · simp only [List.length_append, List.length_singleton]
          omega
end Go.Proofs.YtephpieeibcihaaGreatDoor
namespace Go.Am
open Go
def mkEnd : Mk → List Deed × Res
  | .at_ i ds => (ds, resD (dAt ds i))
  | .stop r => ([], r)
def mkA (sp : Spc) (n : List UInt8) : List Deed × Res := if checkSpace sp = 0 ∧ nameOk n = true then mkEnd (makeM sp 61 [] [] n) else ([], ⟨9, [], []⟩)
theorem leftT_200 {sp : Spc} (hsp : checkSpace sp = 0) (way : List (List UInt8)) (ds : List Deed) : leftT sp way ds ≤ 200 := by
  obtain ⟨q1, _⟩ := checkSpace_ok hsp
  have := leftT_le (sp := sp) way ds
  omega
theorem ResR.mt9 {own : Bool} {H : Heap} : ResR own H ⟨9, [], []⟩ [int 9, str [], .slice none 0 0] [] := ⟨_, rfl, SlR.nil⟩
theorem makeM_nil {sp : Spc} (hsp : checkSpace sp = 0) {n : List UInt8} (hn : nameOk n = true) : MkEnd sp [] [] n 1 (makeM sp 61 [] [] n) := makeM_ok hsp 61 [] [] n rfl (by simp) (MkOk.nil sp) hn
theorem mkA_chain (sp : Spc) (n : List UInt8) : (mkA sp n).2.chain.length ≤ 60 := by
  unfold mkA
  split
  · rename_i h
    have hE := makeM_nil h.1 h.2
    revert hE
    cases makeM sp 61 [] [] n with
    | at_ i ds =>
      intro _
      simp only [mkEnd, resD]
      split <;> simp
    | stop r => exact fun h => h.2.2.1
  · simp
theorem sumN_bd' {α : Type} {m : α → Nat} {c : Nat} : ∀ {l : List α}, (∀ x ∈ l, m x ≤ c) → sumN m l ≤ c * l.length
  | [], _ => by simp [sumN]
  | x :: l, h => by
    have h1 := h x (by simp)
    have h2 := sumN_bd' (m := m) (c := c) (l := l) fun y hy => h y (by simp [hy])
    rw [sumN_cons, List.length_cons, Nat.mul_succ]
    omega
theorem mkA_m (sp : Spc) (n : List UInt8) : sumN Deed.m (mkA sp n).1 ≤ 900000000 := by
  unfold mkA
  split
  · rename_i h
    have hE := makeM_nil h.1 h.2
    have hF := makeM_fit h.1 61 [] [] n rfl (by simp) (MkOk.nil sp) h.2 AllFit.nil
    revert hE hF
    cases makeM sp 61 [] [] n with
    | at_ i ds =>
      intro hE hF
      have hT := leftT_200 h.1 [] []
      have hl := hE.2.2.2.2
      have hfit : AllFit sp ds := hF
      simp only [List.length_nil] at hl
      show sumN Deed.m ds ≤ _
      refine Nat.le_trans (sumN_bd' (c := 4 + 600 + 800) fun d hd => ?_) ?_
      · obtain ⟨i, hi, rfl⟩ := List.mem_iff_getElem.1 hd
        have hok := (hfit i hi).ok h.1
        have ha : ds[i].action.length ≤ 200 ∧ ds[i].links.length ≤ 200 := by
          rcases deed_form hok with ⟨_, h1⟩ | ⟨_, h1⟩ | ⟨_, h1, h2, _⟩
          · rw [h1]; simp
          · rw [h1]; simp
          · exact ⟨(validP_len h1).2, h2⟩
        have e1 : sumN Ins.m ds[i].action ≤ 3 * ds[i].action.length := sumN_bd' fun _ _ => Nat.le_refl _
        have e2 : sumN Lnk.m ds[i].links ≤ 4 * ds[i].links.length := sumN_bd' fun _ _ => Nat.le_refl _
        unfold Deed.m
        omega
      · have : ds.length ≤ 201 * 200 + 1 := by omega
        omega
    | stop r => intro _ _; simp [mkEnd, sumN]
  · simp [sumN]
theorem mkRes_rep {i : Nat} {ds : List Deed} (h : i < ds.length) (H : Heap) : ResR true H (mkEnd (.at_ i ds)).2 [int (resD ds[i]).code, str (resD ds[i]).text, .slice none 0 0] [] := by
  simp only [mkEnd, dAt_lt h]
  exact resD_rep _ H
end Go.Am
namespace Go.Proofs.YtephpieeibcihaaGreatDoor
open Go Go.Am Go.Proofs
set_option maxRecDepth 20000
variable {ng : Nat}
set_option maxHeartbeats 2000000 in
theorem implMake_ac {x : Spc} {c : List Value} {F : List Nat} {H : Heap} (h : SpcR true H x c F) {n : List UInt8} (hn : okS n) (hP : P10 g10 H) (h2 : g10 < ng) :
    AC Tryz.prog ng 37 [.agg c.toArray, str n] H fun v S' => ∃ sd F1 c2 F2, v = .tuple #[.agg #[sd], .agg c2.toArray] ∧ Ext H S' ∧ DeedsR true S' (mkA x n).1 [sd] F1 ∧ ResR true S' (mkA x n).2 c2 F2 ∧ Fresh H.length F1 ∧ Fresh H.length F2 ∧ (F1 = [] ∨ F2 = []) := by
  have h0 := h
  obtain ⟨s1, s2, G1, G2, rfl, rfl, hc1, hc2⟩ := h
  obtain ⟨a1, z1, rfl⟩ := hc1.form
  obtain ⟨a2, z2, rfl⟩ := hc2.form
  refine AC.go [(6, .take 0 <| .take 1 <| .take 2 <| .take 3 <| .take 4 <| .one 5 [4] <| .one 6 [] <| .done), (7, .take 0 <| .take 1 <| .take 2 <| .take 5 <| .take 6 <| .take 7 <| .take 9 <| .take 3 <| .take 4 <| .take 8 <| .take 10 <| .take 11 <| .one 12 [3] <| .one 13 [] <| .one 14 [] <| .done)] Tryz.func37 rfl Tryz.ntmps37 rfl ⟨mixed, by kernel_rfl⟩ ?_
  simp +contextual (dsimp := false)
  refine CallK.fl ⟨_, Tryz.func79, rfl, rfl⟩ (implCheckSpace_ac (Rp.ext h0 (Ext.app _ _))) ?_
  simp +contextual (dsimp := false)
  refine ifA_dec (fun h1 => ?_) (fun h1 => ?_)
  rotate_left
  · rw [mkA, if_neg (fun hc => h1 hc.1)]
    exact ⟨_, [], _, ⟨rfl, rfl⟩, SlR.nil, [], ResR.mt9, Fresh.nil _, Fresh.nil _, .inl rfl⟩
  refine CallK.fl ⟨_, Tryz.func82, rfl, rfl⟩ (isName_ac n hn _) ?_
  simp +contextual (dsimp := false)
  refine ifA_intro (fun h3 => ?_) (fun h3 => ?_)
  rotate_left
  · rw [mkA, if_neg (fun hc => by rw [h3] at hc; cases hc.2)]
    exact ⟨_, [], _, ⟨rfl, rfl⟩, SlR.nil, [], ResR.mt9, Fresh.nil _, Fresh.nil _, .inl rfl⟩
  obtain ⟨H1, hH1⟩ : ∃ H1, H1 = H ++ [(⟨.cells #[.slice a1 x.sources.length z1, .slice a2 x.targets.length z2] 44 (0, 0), true, true⟩ : Blk), ⟨.cells #[.slice none 0 0] 58 (0, 0), true, true⟩, ⟨.cells #[.int .i64 0, .string ⟨⟨[]⟩⟩, .slice none 0 0] 39 (0, 0), true, true⟩, ⟨.map #[] 0, true, true⟩,
    ⟨.cells #[.slice a1 x.sources.length z1, .slice a2 x.targets.length z2, .slice none 0 0, .map (some (H.length + 3)), .slice none 0 0, .int .i64 0, .string ⟨⟨[]⟩⟩, .slice none 0 0, .bool false] 130 (0, 0), true, true⟩] := ⟨_, rfl⟩
  have l1 : H1.length = H.length + 5 := by rw [hH1]; simp
  have x1 : Ext H H1 := by rw [hH1]; exact Ext.app _ _
  have m1 : H1[H.length + 3]? = some (⟨.map #[] 0, true, true⟩ : Blk) := by rw [hH1]; simp
  have k1 : H1[H.length + 4]? = some (⟨.cells (mkrC (.slice a1 x.sources.length z1) (.slice a2 x.targets.length z2) (.slice none 0 0) (H.length + 3) (.slice none 0 0) ⟨0, [], []⟩ (.slice none 0 0) false) 130 (0, 0), true, true⟩ : Blk) := by rw [hH1]; simp
  have b1 : H1[H.length + 1]? = some (⟨.cells #[.slice none 0 0] 58 (0, 0), true, true⟩ : Blk) := by rw [hH1]; simp
  have b2 : H1[H.length + 2]? = some (⟨.cells #[.int .i64 0, .string ⟨⟨[]⟩⟩, .slice none 0 0] 39 (0, 0), true, true⟩ : Blk) := by rw [hH1]; simp
  rw [← hH1]
  clear hH1
  have hS : MkrS 130 H1 (H.length + 4) (H.length + 3) (.slice a1 x.sources.length z1) (.slice a2 x.targets.length z2) (.slice none 0 0) (.slice none 0 0) [] [] [] [] :=
    ⟨k1, SlR.nil, SlR.nil, ⟨#[], 0, m1, by simp [MapL, vN], by simp, by simp⟩, by omega, List.nodup_nil, List.nodup_nil, by simp, by simp⟩
  have hE := makeM_nil h1 h3
  have hlT := leftT_200 h1 [] []
  refine CallK.of ⟨_, Tryz.func83, rfl, rfl⟩ (make_ac h0 h1 hP h2 61 x1 (by omega) (by omega) (by simp) (by simp) hS (MkOk.nil x) (by simp) (by simp) n h3 (by simp; omega)) ?_
  intro v S2 hmk
  rw [mkA, if_pos ⟨h1, h3⟩]
  generalize hM : makeM x 61 [] [] n = M at hmk hE
  cases M with
  | stop r =>
    obtain ⟨rfl, sd, sw, sc, F', q1, q2, q3, q4, q5⟩ := hmk
    obtain ⟨asc, zsc, rfl⟩ := q2.form
    have o5 : ∀ j, j < H.length + 3 → S2[j]? = H1[j]? := fun j hj => q5 j (by omega) (by omega) (by omega) (by simp) (by simp)
    have e1 := (o5 (H.length + 1) (by omega)).trans b1
    have e2 := (o5 (H.length + 2) (by omega)).trans b2
    have s1 : ∀ b : Blk, (S2.set (H.length + 1) b)[H.length + 2]? = _ := fun b => (List.getElem?_set_ne (by omega)).trans e2
    have s2 : ∀ b : Blk, (S2.set (H.length + 1) b)[H.length + 1]? = some b := fun b => List.getElem?_set_self (by omega)
    have s3 : ∀ b b' : Blk, ((S2.set (H.length + 1) b).set (H.length + 2) b')[H.length + 1]? = some b := fun b b' => (List.getElem?_set_ne (by omega)).trans (s2 b)
    have s4 : ∀ b b' : Blk, ((S2.set (H.length + 1) b).set (H.length + 2) b')[H.length + 2]? = some b' := fun b b' => List.getElem?_set_self (by simp; omega)
    simp +contextual (dsimp := false) [q1, goB_of q1, e1, e2, goB_of e1, goB_of e2, s1, s2, s3, s4]
    refine ⟨_, [], _, ⟨rfl, rfl⟩, fun j hj => ?_, SlR.nil, F', ⟨_, rfl, Rp.fr q2 fun j hj => ?_⟩, Fresh.nil _, q3.weak (by omega), .inl rfl⟩
    · rw [List.getElem?_set_ne (by omega), List.getElem?_set_ne (by omega), o5 j (by omega), x1 j hj]
    · have := q3.1 j hj
      rw [List.getElem?_set_ne (by omega), List.getElem?_set_ne (by omega)]
  | at_ i ds =>
    obtain ⟨rfl, sd, sw, FD, FW, gm, gf⟩ := hmk
    obtain ⟨m1', m2, m3, m4, m5⟩ := hE
    obtain ⟨ad, zd, rfl⟩ := gm.dds.form
    have o5 : ∀ j, j < H.length + 3 → S2[j]? = H1[j]? := fun j hj => gf.old j (by omega) (by omega) (by omega) (by simp) (by simp)
    have e1 := (o5 (H.length + 1) (by omega)).trans b1
    have e2 := (o5 (H.length + 2) (by omega)).trans b2
    have le2 := gf.le
    obtain ⟨id6, o6, c6, e6', f6, ow6, cs6, Fi6, E6⟩ := SlR.get gm.dds i m3
    have hrep6 := E6.rep
    obtain ⟨hk6, s61, s62, G61, G62, rfl, hFi6, hc61, hc62⟩ := E6.rep
    obtain ⟨a61, z61, rfl⟩ := hc61.form
    obtain ⟨a62, z62, rfl⟩ := hc62.form
    have k2 := gm.blk
    have s1 : ∀ b : Blk, (S2.set (H.length + 1) b)[H.length + 2]? = _ := fun b => (List.getElem?_set_ne (by omega)).trans e2
    have s2 : ∀ b : Blk, (S2.set (H.length + 1) b)[H.length + 1]? = some b := fun b => List.getElem?_set_self (by omega)
    have s3 : ∀ b b' : Blk, ((S2.set (H.length + 1) b).set (H.length + 2) b')[H.length + 1]? = some b := fun b b' => (List.getElem?_set_ne (by omega)).trans (s2 b)
    have s4 : ∀ b b' : Blk, ((S2.set (H.length + 1) b).set (H.length + 2) b')[H.length + 2]? = some b' := fun b b' => List.getElem?_set_self (by simp; omega)
    simp +contextual (dsimp := false) [k2, goB_of k2, e1, e2, goB_of e1, goB_of e2, s1, s2, s3, s4, E6.idx, E6.goB, E6.le, E6.lt, E6.ext]
    refine CallK.fl ⟨_, Tryz.func51, rfl, rfl⟩ (result_ac hrep6) ?_
    simp +contextual (dsimp := false) [k2, goB_of k2, e1, e2, goB_of e1, goB_of e2, s1, s2, s3, s4]
    have hFD : ∀ j ∈ FD, H1.length ≤ j := fun j hj => (gf.subD j hj).resolve_left (by simp)
    refine ⟨_, FD, _, ⟨rfl, rfl⟩, fun j hj => ?_, Rp.fr gm.dds fun j hj => ?_, [], mkRes_rep m3 _, ⟨fun j hj => by have := hFD j hj; omega, gm.nD⟩, Fresh.nil _, .inr rfl⟩
    · rw [List.getElem?_set_ne (by omega), List.getElem?_set_ne (by omega), o5 j (by omega), x1 j hj]
    · have := hFD j hj
      rw [List.getElem?_set_ne (by omega), List.getElem?_set_ne (by omega)]
end Go.Proofs.YtephpieeibcihaaGreatDoor
