/- strings.Builder. No condition. -/
import Derived.Test.YtehhjbomdohgoaaDoorGob
import Derived.Test.YtehhjbomdohgoaaDoorBldW
set_option linter.unusedSimpArgs false
set_option linter.unusedVariables false
namespace Go.Am
open Go
variable {P : Program} {ng : Nat}
/-- A buffer of bytes, of a known type. -/
def BufR (et : TypeId) (H : Heap) (l : List UInt8) (sv : Value) (F : List Nat) : Prop :=
  (sv = .slice none 0 0 ∧ l = [] ∧ F = []) ∨ ∃ id c q, sv = .slice (some ⟨id, 0, none⟩) l.length 1 ∧ F = [id] ∧ H[id]? = some ⟨.cells c et (0, q), true, true⟩ ∧ l.length ≤ c.size ∧ seg c 0 l.length = (l.map fun b => Value.int .u8 (b.toNat : Int)) ∧ l ≠ []
theorem BufR.lt {et : TypeId} {H : Heap} {l : List UInt8} {sv : Value} {F : List Nat} (h : BufR et H l sv F) : ∀ i ∈ F, i < H.length := by
  rcases h with ⟨_, _, rfl⟩ | ⟨id, c, q, _, rfl, hb, _⟩
  · simp
  · intro i hi
    obtain rfl : i = id := by simpa using hi
    exact (List.getElem?_eq_some_iff.1 hb).1
theorem BufR.fr {et : TypeId} {H H' : Heap} {l : List UInt8} {sv : Value} {F : List Nat} (h : BufR et H l sv F) (hf : ∀ i ∈ F, H'[i]? = H[i]?) : BufR et H' l sv F := by
  rcases h with h | ⟨id, c, q, h1, rfl, hb, h2⟩
  · exact .inl h
  · exact .inr ⟨id, c, q, h1, rfl, (hf id (by simp)).trans hb, h2⟩
theorem BufR.ext {et : TypeId} {H H' : Heap} {l : List UInt8} {sv : Value} {F : List Nat} (h : BufR et H l sv F) (he : Ext H H') : BufR et H' l sv F := h.fr fun i hi => he i (h.lt i hi)
theorem BufR.known {et : TypeId} {H : Heap} {l : List UInt8} {sv : Value} {F : List Nat} (h : BufR et H l sv F) : ∃ a z, sv = .slice a l.length z := by
  rcases h with ⟨rfl, rfl, _⟩ | ⟨id, c, q, rfl, _⟩
  · exact ⟨_, _, rfl⟩
  · exact ⟨_, _, rfl⟩
theorem AppK.buf {t tx : TypeId} {e : TypeId} {b : Nat} {H : Heap} {l r : List UInt8} {s : Value} {F : List Nat} {tm : List Value} {d : Option Nat} {k : St → Prop}
    (ht : SlT P t e 1 b) (htx : P.underlying tx = some .string) (hs : BufR e H l s F) (hr : l.length + r.length ≤ 1000000000)
    (hfit : (2 * (l.length + r.length) + 192) * b ≤ 281474976710656)
    (hk : ∀ s' H' F', BufR e H' (l ++ r) s' F' → H.length ≤ H'.length → (∀ j, j < H.length → j ∉ F → H'[j]? = H[j]?) → (∀ j ∈ F', H.length ≤ j ∨ j ∈ F ∧ r = []) → normT (putT tm d s') H' k) :
    AppK P t tx s (Am.str r) H tm d k := by
  obtain ⟨i, z, hi, hisz, hib, hiz, hfz, hzs⟩ := ht.inf
  have hz' : zero? P e = some z := by simp [zero?, hi, hiz]
  have hbc : byteCells ⟨⟨r⟩⟩ = r.map fun b => Value.int .u8 (b.toNat : Int) := by simp [byteCells]
  have hsz : (⟨⟨r⟩⟩ : ByteArray).size = r.length := rfl
  have hsrc : src? P H i.size tx (Am.str r) = some (r.length, r.map fun b => Value.int .u8 (b.toNat : Int)) := by
    simp only [src?, htx, hisz, if_true, hbc, hsz]
  rcases hs with ⟨rfl, rfl, rfl⟩ | ⟨id, c, q, rfl, rfl, hblk, hle, hc, hne⟩
  · by_cases h0 : r = []
    · subst h0
      refine AppK.of (v := .slice none 0 0) (S' := H) ?_ (hk _ _ [] (.inl ⟨rfl, rfl, rfl⟩) (Nat.le_refl _) (fun _ _ _ => rfl) (by simp))
      simp only [append?, ht.und, hz', hi, hsrc]
      simp [hzs, hisz]
    · have hlen : ¬ r.length = 0 := by simpa using h0
      refine AppK.of (v := .slice (some ⟨H.length, 0, none⟩) r.length 1) (S' := H ++ [⟨.cells (r.map fun b => Value.int .u8 (b.toNat : Int)).toArray e (0, 1), true, true⟩]) ?_ (hk _ _ [H.length] (.inr ⟨H.length, (r.map fun b => Value.int .u8 (b.toNat : Int)).toArray, 1, rfl, rfl, by simp, by simp, by simp [seg, List.take_of_length_le], h0⟩) (by simp) (fun j hj _ => get_ext hj) (by simp))
      simp only [append?, ht.und, hz', hi, hsrc]
      rw [if_pos ⟨by omega, by omega⟩]
      simp only [if_neg hlen]
      rw [if_pos (by rw [hib]; exact Nat.le_trans (Nat.mul_le_mul_right _ (by simp)) hfit), hisz]
  · have hext : c.extract 0 (0 + l.length) = (l.map fun b => Value.int .u8 (b.toNat : Int)).toArray := by rw [extract_seg, hc]
    have hone : ones (c.extract 0 (0 + l.length)).toList = true := by rw [hext]; exact (rep_bytes (H := H) l).one
    have hidl := (List.getElem?_eq_some_iff.1 hblk).1
    have hq : mkQ e e (0, q) = (0, 1) := by simp [mkQ]
    refine AppK.of (v := .slice (some ⟨H.length, 0, none⟩) (l.length + r.length) 1) (S' := H.set id deadBlk ++ [⟨.cells (c.extract 0 (0 + l.length) ++ (r.map fun b => Value.int .u8 (b.toNat : Int)).toArray) e (0, 1), true, true⟩]) ?_ (hk _ _ [H.length] (.inr ⟨H.length, c.extract 0 (0 + l.length) ++ (r.map fun b => Value.int .u8 (b.toNat : Int)).toArray, 1, by simp, rfl, ?_, ?_, ?_, by simp [hne]⟩) (by simp) (fun j hj hn => ?_) (by simp))
    · simp only [append?, ht.und, hz', hi, hsrc, hblk]
      rw [if_pos ⟨by omega, by omega⟩, if_pos ⟨hisz.symm, by simpa [hisz] using hle, by simpa [hisz] using hone, by omega, by rw [hib]; exact hfit⟩, hq]
      simp only [Nat.mul_one, hisz]
    · rw [List.getElem?_append_right (by simp)]; simp
    · rw [hext]; simp
    · rw [hext]
      simp [seg]
      rw [List.take_of_length_le (by simp)]
    · rw [get_ext (by simpa using hj), List.getElem?_set_ne (by rintro rfl; exact hn (by simp))]
/-- A builder: its block; what it holds. -/
def BldR (bt et : TypeId) (H : Heap) (id : Nat) (l : List UInt8) (F : List Nat) : Prop :=
  ∃ pv sv, H[id]? = some ⟨.cells #[pv, sv] bt (0, 0), true, true⟩ ∧ BufR et H l sv F ∧ id ∉ F ∧ (pv = .pointer none ∨ pv = .pointer (some ⟨id, 0, none⟩))
theorem BldR.fr {bt et : TypeId} {H H' : Heap} {id : Nat} {l : List UInt8} {F : List Nat} (h : BldR bt et H id l F) (hi : H'[id]? = H[id]?) (hf : ∀ i ∈ F, H'[i]? = H[i]?) : BldR bt et H' id l F := by
  obtain ⟨pv, sv, h1, h2, h3, h4⟩ := h
  exact ⟨pv, sv, hi.trans h1, h2.fr hf, h3, h4⟩
theorem BldR.lt {bt et : TypeId} {H : Heap} {id : Nat} {l : List UInt8} {F : List Nat} (h : BldR bt et H id l F) : id < H.length ∧ ∀ i ∈ F, i < H.length := by
  obtain ⟨pv, sv, h1, h2, h3, h4⟩ := h
  exact ⟨(List.getElem?_eq_some_iff.1 h1).1, h2.lt⟩
theorem BldR.ext {bt et : TypeId} {H H' : Heap} {id : Nat} {l : List UInt8} {F : List Nat} (h : BldR bt et H id l F) (he : Ext H H') : BldR bt et H' id l F := h.fr (he id h.lt.1) fun i hi => he i (h.lt.2 i hi)
theorem vrs1 {E : Emb} {a : Value} {args' : Array Value} (h : VRs E [a] args') : ∃ a', args' = #[a'] ∧ VR E a a' := by
  obtain ⟨hsz, hvr⟩ := h
  simp only [List.length_cons, List.length_nil] at hsz
  refine ⟨args'[0]'(by omega), ?_, by simpa using hvr 0 (by simp) (by omega)⟩
  apply Array.ext
  · simp; omega
  · intro i h1 h2
    obtain rfl : i = 0 := by simpa using h2
    rfl
end Go.Am
namespace Go.Proofs.YtehhjbomdohgoaaDoor
open Go Go.Am Go.Proofs
set_option maxRecDepth 20000
variable {ng : Nat}
theorem copyCheck_ac {H : Heap} {id : Nat} {pv sv : Value} (hb : H[id]? = some ⟨.cells #[pv, sv] 88 (0, 0), true, true⟩) (hp : pv = .pointer none ∨ pv = .pointer (some ⟨id, 0, none⟩)) :
    AC Tryd.prog ng 80 [.pointer (some ⟨id, 0, none⟩)] H fun v S' => v = .tuple #[] ∧ S' = H.set id ⟨.cells #[.pointer (some ⟨id, 0, none⟩), sv] 88 (0, 0), true, true⟩ := by
  intro E args' w hv hr hng
  obtain ⟨a, rfl, ha⟩ := vrs1 hv
  cases ha with
  | ptr _ he =>
    rename_i l
    obtain ⟨b, hb', hlt, ho⟩ := hr.blk _ _ he
    rw [hb] at hb'
    obtain rfl := Option.some.inj hb'
    obtain ⟨c', e', fr, hw, hrm, hbase, hcell, hfr, hty, hwh⟩ := ho rfl
    obtain ⟨hb0, hsz⟩ := hwh rfl
    obtain ⟨lb, lo, lr⟩ := l
    dsimp only at hb0 hw hrm hbase hcell hfr hlt ⊢
    subst hb0
    obtain rfl := hty rfl
    obtain ⟨v0, q0, r0⟩ := hcell 0 (by simp)
    have hfz : w.frozen? ⟨lb, 0, none⟩ = false := by
      have := hfr rfl 0 (by rw [hrm, hsz]; simp)
      simp only [World.frozen?, hw]
      simpa using this
    have hsh : w.shape? lb = some (88, 2) := by
      simp [World.shape?, hw, hsz]
    simp only [Nat.zero_add] at q0
    have hc0 : w.cell? ⟨lb, 0, none⟩ = some v0 := by simp [World.cell?, hw, q0]
    rcases hp with rfl | rfl
    · cases r0
      refine (copyCheck_fresh lb w hc0 hsh hfz).mono ?_
      rintro ex w' ⟨rfl, rfl⟩
      obtain ⟨g1, g2⟩ := setCells_rel hr he hb 0 [.pointer (some ⟨id, 0, none⟩)] [.pointer (some ⟨lb, 0, none⟩)] (by simp) rfl (fun i h1 h2 => by
        obtain rfl : i = 0 := by simpa using h1
        have := VR.ptr (E := E) 0 he
        simpa using this)
      exact ⟨.tuple #[], .tuple #[], _, E, rfl, ⟨rfl, rfl⟩, .tuple rfl (fun i h => by simp at h), g1, by simp, g2 _⟩
    · cases r0 with
      | ptr _ he2 =>
        obtain rfl := Option.some.inj (he2.symm.trans he)
        refine (copyCheck_used _ w (by simpa using hc0)).mono ?_
        rintro ex w' ⟨rfl, rfl⟩
        refine ⟨.tuple #[], .tuple #[], H, E, rfl, ⟨rfl, ?_⟩, .tuple rfl (fun i h => by simp at h), hr, Nat.le_refl _, Grow.refl _ _ _ _⟩
        obtain ⟨h1, h2⟩ := List.getElem?_eq_some_iff.1 hb
        rw [← h2, List.set_getElem_self]
theorem writeString_ac {H : Heap} {id : Nat} {l r : List UInt8} {F : List Nat} (h : BldR 88 5 H id l F) (hr : l.length + r.length ≤ 1000000000) :
    AC Tryd.prog ng 49 [.pointer (some ⟨id, 0, none⟩), str r] H fun v S' => v = .tuple #[int r.length, .nilIface] ∧ ∃ F', BldR 88 5 S' id (l ++ r) F' ∧ H.length ≤ S'.length ∧ (∀ j, j < H.length → j ≠ id → j ∉ F → S'[j]? = H[j]?) ∧ ∀ j ∈ F', H.length ≤ j ∨ j ∈ F := by
  obtain ⟨pv, sv, hb, hbuf, hni, hp⟩ := h
  have hlt := (List.getElem?_eq_some_iff.1 hb).1
  refine AC.go [] Tryd.func49 rfl Tryd.ntmps49 rfl ⟨mixed, by kernel_rfl⟩ ?_
  simp +contextual (dsimp := false)
  refine CallK.of ⟨_, Tryd.func80, rfl, rfl⟩ (copyCheck_ac hb hp) ?_
  rintro v S1 ⟨rfl, hS1⟩
  have hb1 : S1[id]? = some ⟨.cells #[.pointer (some ⟨id, 0, none⟩), sv] 88 (0, 0), true, true⟩ := by rw [hS1]; exact List.getElem?_set_self hlt
  have hl1 : S1.length = H.length := by rw [hS1]; simp
  have ho1 : ∀ j, j ≠ id → S1[j]? = H[j]? := fun j hj => by rw [hS1]; exact List.getElem?_set_ne (Ne.symm hj)
  clear hS1
  have hbuf1 := hbuf.fr (H' := S1) fun i hi => ho1 i (by rintro rfl; exact hni hi)
  obtain ⟨a, z, rfl⟩ := hbuf.known
  simp +contextual (dsimp := false) [goB_of hb1]
  refine AppK.buf slt22 und9 hbuf1 hr (by omega) ?_
  intro s' H' F' q1 q2 q3 q4
  obtain ⟨a', z', rfl⟩ := q1.known
  have hb2 : H'[id]? = _ := (q3 id (by omega) hni).trans hb1
  simp +contextual (dsimp := false) [goB_of hb2, hb2]
  have hlt' : id < H'.length := by omega
  have e1 : l.length + r.length = (l ++ r).length := by simp
  rw [e1]
  have hni' : id ∉ F' := fun hm => by
    rcases q4 id hm with h | h
    · omega
    · exact hni h.1
  refine ⟨F', ⟨_, _, List.getElem?_set_self hlt', q1.fr fun j hj => List.getElem?_set_ne (by rintro rfl; exact hni' hj), hni', .inr rfl⟩, by omega, fun j hj h1 h2 => ?_, fun j hj => (q4 j hj).imp (fun h => by omega) (fun h => h.1)⟩
  rw [List.getElem?_set_ne (Ne.symm h1), q3 j (by omega) h2, ho1 j h1, List.getElem?_eq_getElem hj]
theorem builderLen_ac {H : Heap} {id : Nat} {l : List UInt8} {F : List Nat} (h : BldR 88 5 H id l F) :
    AC Tryd.prog ng 65 [.pointer (some ⟨id, 0, none⟩)] H fun v S' => v = int l.length ∧ S' = H := by
  obtain ⟨pv, sv, hb, hbuf, hni, hp⟩ := h
  obtain ⟨a, z, rfl⟩ := hbuf.known
  refine .flat (AC.go [] Tryd.func65 rfl Tryd.ntmps65 rfl ⟨mixed, by kernel_rfl⟩ ?_)
  rcases hp with rfl | rfl
  · simp +contextual (dsimp := false) [goB_of hb]
  · simp +contextual (dsimp := false) [goB_of hb]
theorem builderString_ac {H : Heap} {id : Nat} {l : List UInt8} {F : List Nat} (h : BldR 88 5 H id l F) (hl : l.length ≤ 1000000000) :
    AC Tryd.prog ng 51 [.pointer (some ⟨id, 0, none⟩)] H fun v S' => v = str l ∧ S'.length = H.length ∧ ∀ j, j ∉ F → S'[j]? = H[j]? := by
  intro E args' w hv hr hng
  obtain ⟨a, rfl, ha⟩ := vrs1 hv
  obtain ⟨pv, sv, hb, hbuf, hni, hp⟩ := h
  cases ha with
  | ptr _ he =>
    rename_i lc
    obtain ⟨b, hb', hlt, ho⟩ := hr.blk _ _ he
    rw [hb] at hb'
    obtain rfl := Option.some.inj hb'
    obtain ⟨c', e', fr, hw, hrm, hbase, hcell, hfr, hty, hwh⟩ := ho rfl
    obtain ⟨hb0, hsz⟩ := hwh rfl
    obtain ⟨lb, lo, lr⟩ := lc
    dsimp only at hb0 hw hrm hbase hcell hfr hlt ⊢
    subst hb0
    obtain ⟨v1, q1, r1⟩ := hcell 1 (by simp)
    simp only [Nat.zero_add] at q1
    rcases hbuf with ⟨rfl, rfl, rfl⟩ | ⟨g, c, q, rfl, rfl, hgb, hle, hseg, hne⟩
    · cases r1
      refine (bldString_nil lb w (by simp [World.cell?, hw, q1])).mono ?_
      rintro ex w' ⟨rfl, n, rfl⟩
      exact ⟨_, _, H, E, rfl, ⟨rfl, rfl, fun _ _ => rfl⟩, .string _, hr.same rfl, Nat.le_refl _, ⟨fun _ _ => rfl, rfl, rfl, rfl, Nat.le_refl _, fun b _ _ => rfl, fun id l bl h1 h2 h3 h4 _ => ⟨id, l, bl, h1, h2, h3, h4, rfl⟩⟩⟩
    · cases r1 with
      | slice _ _ _ cap heg hcap hroom =>
        rename_i lg
        obtain ⟨bg, hgb', hltg, hog⟩ := hr.blk _ _ heg
        rw [hgb] at hgb'
        obtain rfl := Option.some.inj hgb'
        obtain ⟨cg, eg, fg, hwg, hrmg, hbaseg, hcellg, hfrg, htyg, -⟩ := hog rfl
        obtain rfl := htyg rfl
        have hcell : ∀ j x, l[j]? = some x → w.cell? ⟨lg.blk, lg.base + j, none⟩ = some (.int .u8 x.toNat) := by
          intro j x hj
          obtain ⟨hjl, hjx⟩ := List.getElem?_eq_some_iff.1 hj
          obtain ⟨v', p1, p2⟩ := hcellg j (by omega)
          have h1 := seg_get (c := c) (off := 0) (n := l.length) (i := j) hjl
          rw [hseg, Nat.zero_add] at h1
          simp only [List.getElem?_map, hj, Option.map_some, Array.getElem?_eq_getElem (show j < c.size by omega)] at h1
          rw [← Option.some.inj h1] at p2
          cases p2
          simp [World.cell?, hwg, p1]
        refine (bldString_some lb lg.blk (lg.base + 0) cap l w (by simp [World.cell?, hw, q1]) hne (by omega) (by omega) cg.size (by simp [World.shape?, hwg]) (by rw [← hrmg]; omega) (by simpa using hcell)).mono ?_
        rintro ex w' ⟨rfl, n, rfl⟩
        have hfz : ∀ k, k ≠ lg.blk → ((w.drewN n).freeze ⟨lg.blk, lg.base + 0, none⟩ l.length).heap[k]? = w.heap[k]? := fun k hk => by
          unfold World.freeze
          split
          · rfl
          · simp [World.drewN, Array.getElem?_modify, Ne.symm hk]
        have hsz' : ((w.drewN n).freeze ⟨lg.blk, lg.base + 0, none⟩ l.length).heap.size = w.heap.size := by
          unfold World.freeze
          split
          · rfl
          · simp [World.drewN]
        have hos : ((w.drewN n).freeze ⟨lg.blk, lg.base + 0, none⟩ l.length).os = w.os ∧ ((w.drewN n).freeze ⟨lg.blk, lg.base + 0, none⟩ l.length).tape = w.tape ∧ ((w.drewN n).freeze ⟨lg.blk, lg.base + 0, none⟩ l.length).output = w.output := by
          unfold World.freeze
          split
          · exact ⟨rfl, rfl, rfl⟩
          · exact ⟨rfl, rfl, rfl⟩
        refine ⟨_, _, H.set g ⟨.cells #[] 0 (0, 0), false, true⟩, E, rfl, ⟨rfl, by simp, fun j hj => List.getElem?_set_ne (by rintro rfl; exact hj (by simp))⟩, .string _, hr.set heg hgb rfl rfl hsz' hfz rfl (fun h => by cases h), by simp, Grow.set _ heg hgb rfl rfl hsz' hfz hos.1 hos.2.1 hos.2.2⟩
end Go.Proofs.YtehhjbomdohgoaaDoor
