import Derived.Test.YtbigpkfdeaigeaaDoorByt
import Derived.Test.YtbigpkfdeaigeaaDoorShelf
import Derived.Test.YtbigpkfdeaigeaaDoorAm30
import Derived.Test.YtbigpkfdeaigeaaDoorProg
import Derived.WalkKit
import Derived.Lib.Builder
import Derived.Lib.UnsafeStr
import Derived.Laws.Externs
import Derived.Shelf.RegionOpenPlain
import Derived.Test.YtbigpkfdeaigeaaDoorAm31
/- What is told of the program's variables; numbers as text by the library. No condition. -/
set_option linter.unusedSimpArgs false
set_option linter.unusedVariables false
namespace Go.Am
open Go
theorem decN_eq (n : Nat) : Lib.decDigits n = decN n := by
  induction n using Nat.strongRecOn with
  | _ n ih =>
    rw [Lib.decDigits]
    by_cases h : n < 10
    · rw [dif_pos h, decN_small h]
      simp [dig, Nat.mod_eq_of_lt h]
    · rw [dif_neg h, decN_big h, ih (n / 10) (by omega)]
      rfl
theorem itoa_eq (n : Nat) : Lib.itoa (n : Int) = decN n := by
  unfold Lib.itoa
  rw [if_neg (by omega), decN_eq]
  simp
/-- The table of the powers of ten. -/
def P10 (g : Nat) (H : Heap) : Prop := ∃ e f, H[g]? = some ⟨.cells (Lib.pow10Tab.map fun z => Value.int .u64 z).toArray e f, true, false⟩
theorem P10.ext {g : Nat} {H H' : Heap} (h : P10 g H) (he : Ext H H') : P10 g H' := by
  obtain ⟨e, f, h⟩ := h
  exact ⟨e, f, (he _ (List.getElem?_eq_some_iff.1 h).1).trans h⟩
theorem P10.tab {P : Program} {ng g : Nat} {name : String} {E : Emb} {H : Heap} {w : World} (h : P10 g H) (hg : g < ng) (hn : P.globalNamed name = some g) (hr : Rel ng E H w) : Lib.TabIs P w name .u64 Lib.pow10Tab := by
  obtain ⟨e, f, h⟩ := h
  obtain ⟨room, hE, hw⟩ := hr.glob g hg
  obtain ⟨b, hb, hlt, ho⟩ := hr.blk g _ hE
  rw [h] at hb
  obtain rfl := Option.some.inj hb
  obtain ⟨c', e', fr, h1, h2, h3, h4, h5⟩ := ho rfl
  have h6 := hw _ _ _ h
  unfold Lib.TabIs World.var?
  rw [hn]
  dsimp only [Option.bind]
  dsimp only at h1 h2 h3 h4
  rw [h1]
  dsimp only
  congr 1
  apply Array.ext
  · rw [← h2, ← h6]
  · intro i hi1 hi2
    obtain ⟨v', q1, q2⟩ := h4 i hi2
    rw [Nat.zero_add, Array.getElem?_eq_getElem hi1] at q1
    rw [Option.some.inj q1]
    simp only [List.getElem_toArray, List.getElem_map] at q2 ⊢
    exact q2.eq rfl
/-- The words of instructions, as the program keeps them. -/
def WordsG (g : Nat) (H : Heap) : Prop := ∃ sv F e f, H[g]? = some ⟨.cells #[sv] e f, true, false⟩ ∧ SlR false 1 strR H wordsT [sv] F
theorem WordsG.ext {g : Nat} {H H' : Heap} (h : WordsG g H) (he : Ext H H') : WordsG g H' := by
  obtain ⟨sv, F, e, f, h, hr⟩ := h
  exact ⟨sv, F, e, f, (he _ (List.getElem?_eq_some_iff.1 h).1).trans h, Rp.ext hr he⟩
end Go.Am
namespace Go.Proofs.YtbigpkfdeaigeaaDoor
open Go Go.Am Go.Proofs
set_option maxRecDepth 20000
variable {ng : Nat}
def g10 : Nat := 2
theorem itoa_ac {n : Nat} {H : Heap} (hn : n ≤ 1000000000) (hg : P10 g10 H) (hng : g10 < ng) {e : Int} (he : e = n) : AC Tryd.prog ng 22 [int e] H fun v S' => v = str (decN n) ∧ S' = H := by
  subst he
  rw [← itoa_eq n]
  exact AC.ofGrow (v := .string ⟨(Lib.itoa (n : Int)).toArray⟩) (by rfl) (by rfl) fun E w hr => Tryd.strconv_Itoa (n : Int) (by omega) (by omega) w (hg.tab hng (by kernel_rfl) hr)
end Go.Proofs.YtbigpkfdeaigeaaDoor

/- strings.Builder, walked in the world. No condition. -/
set_option linter.unusedSimpArgs false
set_option linter.unusedVariables false
namespace Go.Proofs.YtbigpkfdeaigeaaDoor
open Go Go.RowKit Go.Lib Go.Proofs
set_option maxHeartbeats 1000000 in
set_option maxRecDepth 100000 in
theorem copyCheck_used (b : Nat) (w : World) (h0 : w.cell? ⟨b, 0, none⟩ = some (.pointer (some ⟨b, 0, none⟩))) :
    Calls Tryd.prog 42 #[.pointer (some ⟨b, 0, none⟩)] w fun e w' => e = .returned (.tuple #[]) ∧ w' = w := by
  go_enter Tryd.func42, Tryd.ntmps42
  go_wp2
  rw [Lib.run_neq_ptr_same w _ Tryd.underlying54 Tryd.type56]
  go_wp2
  go_end0
  exact ⟨rfl, rfl⟩
set_option maxHeartbeats 1000000 in
set_option maxRecDepth 100000 in
theorem copyCheck_fresh (b : Nat) (w : World) (h0 : w.cell? ⟨b, 0, none⟩ = some (.pointer none)) (hsh : w.shape? b = some (56, 2)) (hfz : w.frozen? ⟨b, 0, none⟩ = false) :
    Calls Tryd.prog 42 #[.pointer (some ⟨b, 0, none⟩)] w fun e w' => e = .returned (.tuple #[]) ∧ w' = w.setCell ⟨b, 0, none⟩ (.pointer (some ⟨b, 0, none⟩)) := by
  go_enter Tryd.func42, Tryd.ntmps42
  go_wp2
  rw [Lib.run_to_unsafe w ⟨b, 0, none⟩ Tryd.underlying54 Tryd.underlying87 Tryd.type56 (by decide) hsh (Nat.zero_lt_succ 1)]
  simp only [Result.andThen]
  rw [Oper.upon_value]
  go_wp2
  rw [run_callFunc_extern Tryd.func51 (by kernel_rfl) (by kernel_rfl) (by kernel_rfl) (e := Extern.AbiNoEscape.same) (by kernel_rfl)]
  rw [Lib.run_noEscape]
  simp only [Result.andThen]
  rw [Oper.upon_value]
  go_wp2
  rw [Lib.run_from_unsafe w ⟨b, 0, none⟩ Tryd.underlying87 Tryd.underlying54 Tryd.type56 hsh (by kernel_rfl)]
  simp only [Result.andThen]
  rw [Oper.upon_value]
  go_wp2
  go_end0
  exact ⟨rfl, rfl⟩
theorem liesAt_bytesAt {P : Program} {e : TypeId} (hc : P.cellsOf e = 1) (count o n : Nat) (hn : o + n ≤ count) : liesAt P P.depth e count o e n = true := by
  have hd : P.depth = (2 * (P.types.size + Made.depth) + 1) + 1 := rfl
  rw [hd]
  simp only [liesAt, Bool.or_eq_true]
  left
  rw [hd]
  simp [rowAt, hc, hn, sameLayout, Nat.mod_one]
theorem run_unsafeString_at {P : Program} (w : World) (pt it ty e : TypeId) (hp : P.underlying pt = some (.pointer e)) (hc : P.cellsOf e = 1) (g o cells : Nat) (hsh : w.shape? g = some (e, cells)) (l : List UInt8) (h0 : l ≠ []) (hn : o + l.length ≤ cells) (h63 : l.length ≤ 9223372036854775807)
    (hcell : ∀ j x, l[j]? = some x → w.cell? ((⟨g, o, none⟩ : Addr).add j) = some (.int .u8 x.toNat)) :
    (Builtin.unsafeString_ #[pt, it] ty #[.pointer (some ⟨g, o, none⟩), .int .i64 l.length]).run P w = .ok (.string ⟨l.toArray⟩) (w.freeze ⟨g, o, none⟩ l.length) := by
  have hl : l.length ≠ 0 := by simpa using h0
  have hlb := run_loadBytes (P := P) w l ⟨g, o, none⟩ .empty hcell
  have hlies := liesAt_bytesAt (P := P) hc (cells / P.cellsOf e) o l.length (by rw [hc]; simpa using hn)
  have h63' : ¬ (9223372036854775807 : Int) < (l.length : Int) := by omega
  have hmax : IntKind.i64.max = 9223372036854775807 := rfl
  have hneg : ¬ (l.length : Int) < 0 := by omega
  delta Builtin.unsafeString_ Builtin.unsafeString_.match_3
  simp only [Array.getLit]
  simp [asInt, asIntOf, hmax, h63', hneg, hl, variablesAt, hsh, elemOf, run_underlying hp, hlies, hlb]
set_option maxHeartbeats 1000000 in
set_option maxRecDepth 100000 in
theorem bldString_some (b g o cap : Nat) (l : List UInt8) (w : World) (hb : w.cell? ⟨b, 1, none⟩ = some (.slice (some ⟨g, o, none⟩) l.length cap)) (h0 : l ≠ []) (hlc : l.length ≤ cap) (h63 : l.length ≤ 9223372036854775807) (cells : Nat) (hsh : w.shape? g = some (5, cells)) (hn : o + l.length ≤ cells)
    (hcell : ∀ j x, l[j]? = some x → w.cell? ⟨g, o + j, none⟩ = some (.int .u8 x.toNat)) :
    Calls Tryd.prog 30 #[.pointer (some ⟨b, 0, none⟩)] w fun e w' => e = .returned (.string ⟨l.toArray⟩) ∧ ∃ n, w' = (w.drewN n).freeze ⟨g, o, none⟩ l.length := by
  have hl0 : l.length ≠ 0 := by simpa using h0
  have c1 : w.drew.cell? ⟨b, 1, none⟩ = some (.slice (some ⟨g, o, none⟩) l.length cap) := hb
  have hSD : (Builtin.unsafeSliceData_ #[22] 79 #[.slice (some ⟨g, o, none⟩) l.length cap]).run Tryd.prog w.drew = .ok (.pointer (some ⟨g, o, none⟩)) w.drew :=
    Lib.run_unsafeSliceData_row _ _ _ _ _ _ (by omega)
  have hUS : (Builtin.unsafeString_ #[79, 3] 9 #[.pointer (some ⟨g, o, none⟩), .int .i64 l.length]).run Tryd.prog w.drew = .ok (.string ⟨l.toArray⟩) (w.drew.freeze ⟨g, o, none⟩ l.length) :=
    run_unsafeString_at w.drew 79 3 9 5 Tryd.underlying79 (by kernel_rfl) g o cells hsh l h0 hn h63 (fun j x hj => by
      have e : (⟨g, o, none⟩ : Addr).add j = ⟨g, o + j, none⟩ := by
        unfold Addr.add
        by_cases hj0 : j = 0
        · subst hj0; simp
        · simp [hj0]
      rw [e]; exact hcell j x hj)
  have mixed : Tryd.prog.follows .mixedOrders = true := by kernel_rfl
  go_enter Tryd.func30, Tryd.ntmps30
  go_wp2
  go_region_o
  all_goals (go_wp2; go_ret; exact ⟨rfl, 1, rfl⟩)
set_option maxHeartbeats 1000000 in
set_option maxRecDepth 100000 in
theorem bldString_nil (b : Nat) (w : World) (hb : w.cell? ⟨b, 1, none⟩ = some (.slice none 0 0)) :
    Calls Tryd.prog 30 #[.pointer (some ⟨b, 0, none⟩)] w fun e w' => e = .returned (.string ⟨#[]⟩) ∧ ∃ n, w' = w.drewN n := by
  have hUS := fun (W : World) (q : Option Addr) => Lib.run_unsafeString_none (P := Tryd.prog) W 79 3 9 q
  have c1 : w.drew.cell? ⟨b, 1, none⟩ = some (.slice none 0 0) := hb
  have hSD : (Builtin.unsafeSliceData_ #[22] 79 #[.slice none 0 0]).run Tryd.prog w.drew = .ok (.pointer none) w.drew := rfl
  have mixed : Tryd.prog.follows .mixedOrders = true := by kernel_rfl
  go_enter Tryd.func30, Tryd.ntmps30
  go_wp2
  go_region_o
  all_goals (go_wp2; go_ret; exact ⟨rfl, 1, rfl⟩)
end Go.Proofs.YtbigpkfdeaigeaaDoor

/- strings.Builder. No condition. -/
set_option linter.unusedSimpArgs false
set_option linter.unusedVariables false
namespace Go.Am
open Go
variable {P : Program} {ng : Nat}
/-- A buffer of bytes, of a known type. -/
def BufR (et : TypeId) (H : Heap) (l : List UInt8) (sv : Value) (F : List Nat) : Prop :=
  (sv = .slice none 0 0 ∧ l = [] ∧ F = []) ∨ ∃ id c q, sv = .slice (some ⟨id, 0, none⟩) l.length 1 ∧ F = [id] ∧ H[id]? = some ⟨.cells c et (0, q), true, true⟩ ∧ l.length ≤ c.size ∧ seg c 0 l.length = (l.map fun b => Value.int .u8 (b.toNat : Int)) ∧ l ≠ []
theorem BufR.lt {et : TypeId} {H : Heap} {l : List UInt8} {sv : Value} {F : List Nat} (h : BufR et H l sv F) : ∀ i ∈ F, i < H.length := by
  rcases h with ⟨_, _, rfl⟩ | ⟨id, c, q, _, rfl, hb, _⟩
  · simp
  · intro i hi
    obtain rfl : i = id := by simpa using hi
    exact (List.getElem?_eq_some_iff.1 hb).1
theorem BufR.fr {et : TypeId} {H H' : Heap} {l : List UInt8} {sv : Value} {F : List Nat} (h : BufR et H l sv F) (hf : ∀ i ∈ F, H'[i]? = H[i]?) : BufR et H' l sv F := by
  rcases h with h | ⟨id, c, q, h1, rfl, hb, h2⟩
  · exact .inl h
  · exact .inr ⟨id, c, q, h1, rfl, (hf id (by simp)).trans hb, h2⟩
theorem BufR.ext {et : TypeId} {H H' : Heap} {l : List UInt8} {sv : Value} {F : List Nat} (h : BufR et H l sv F) (he : Ext H H') : BufR et H' l sv F := h.fr fun i hi => he i (h.lt i hi)
theorem BufR.known {et : TypeId} {H : Heap} {l : List UInt8} {sv : Value} {F : List Nat} (h : BufR et H l sv F) : ∃ a z, sv = .slice a l.length z := by
  rcases h with ⟨rfl, rfl, _⟩ | ⟨id, c, q, rfl, _⟩
  · exact ⟨_, _, rfl⟩
  · exact ⟨_, _, rfl⟩
theorem AppK.buf {t tx : TypeId} {e : TypeId} {b : Nat} {H : Heap} {l r : List UInt8} {s : Value} {F : List Nat} {tm : List Value} {d : Option Nat} {k : St → Prop}
    (ht : SlT P t e 1 b) (htx : P.underlying tx = some .string) (hs : BufR e H l s F) (hr : l.length + r.length ≤ 1000000000)
    (hfit : (2 * (l.length + r.length) + 192) * b ≤ 281474976710656)
    (hk : ∀ s' H' F', BufR e H' (l ++ r) s' F' → H.length ≤ H'.length → (∀ j, j < H.length → j ∉ F → H'[j]? = H[j]?) → (∀ j ∈ F', H.length ≤ j ∨ j ∈ F ∧ r = []) → normT (putT tm d s') H' k) :
    AppK P t tx s (Am.str r) H tm d k := by
  obtain ⟨i, z, hi, hisz, hib, hiz, hfz, hzs⟩ := ht.inf
  have hz' : zero? P e = some z := by simp [zero?, hi, hiz]
  have hbc : byteCells ⟨⟨r⟩⟩ = r.map fun b => Value.int .u8 (b.toNat : Int) := by simp [byteCells]
  have hsz : (⟨⟨r⟩⟩ : ByteArray).size = r.length := rfl
  have hsrc : src? P H i.size tx (Am.str r) = some (r.length, r.map fun b => Value.int .u8 (b.toNat : Int)) := by
    simp only [src?, htx, hisz, if_true, hbc, hsz]
  rcases hs with ⟨rfl, rfl, rfl⟩ | ⟨id, c, q, rfl, rfl, hblk, hle, hc, hne⟩
  · by_cases h0 : r = []
    · subst h0
      refine AppK.of (v := .slice none 0 0) (S' := H) ?_ (hk _ _ [] (.inl ⟨rfl, rfl, rfl⟩) (Nat.le_refl _) (fun _ _ _ => rfl) (by simp))
      simp only [append?, ht.und, hz', hi, hsrc]
      simp [hzs, hisz]
    · have hlen : ¬ r.length = 0 := by simpa using h0
      refine AppK.of (v := .slice (some ⟨H.length, 0, none⟩) r.length 1) (S' := H ++ [⟨.cells (r.map fun b => Value.int .u8 (b.toNat : Int)).toArray e (0, 1), true, true⟩]) ?_ (hk _ _ [H.length] (.inr ⟨H.length, (r.map fun b => Value.int .u8 (b.toNat : Int)).toArray, 1, rfl, rfl, by simp, by simp, by simp [seg, List.take_of_length_le], h0⟩) (by simp) (fun j hj _ => get_ext hj) (by simp))
      simp only [append?, ht.und, hz', hi, hsrc]
      rw [if_pos ⟨by omega, by omega⟩]
      simp only [if_neg hlen]
      rw [if_pos (by rw [hib]; exact Nat.le_trans (Nat.mul_le_mul_right _ (by simp)) hfit), hisz]
  · have hext : c.extract 0 (0 + l.length) = (l.map fun b => Value.int .u8 (b.toNat : Int)).toArray := by rw [extract_seg, hc]
    have hone : ones (c.extract 0 (0 + l.length)).toList = true := by rw [hext]; exact (rep_bytes (H := H) l).one
    have hidl := (List.getElem?_eq_some_iff.1 hblk).1
    have hq : mkQ e e (0, q) = (0, 1) := by simp [mkQ]
    refine AppK.of (v := .slice (some ⟨H.length, 0, none⟩) (l.length + r.length) 1) (S' := H.set id deadBlk ++ [⟨.cells (c.extract 0 (0 + l.length) ++ (r.map fun b => Value.int .u8 (b.toNat : Int)).toArray) e (0, 1), true, true⟩]) ?_ (hk _ _ [H.length] (.inr ⟨H.length, c.extract 0 (0 + l.length) ++ (r.map fun b => Value.int .u8 (b.toNat : Int)).toArray, 1, by simp, rfl, ?_, ?_, ?_, by simp [hne]⟩) (by simp) (fun j hj hn => ?_) (by simp))
    · simp only [append?, ht.und, hz', hi, hsrc, hblk]
      rw [if_pos ⟨by omega, by omega⟩, if_pos ⟨hisz.symm, by simpa [hisz] using hle, by simpa [hisz] using hone, by omega, by rw [hib]; exact hfit⟩, hq]
      simp only [Nat.mul_one, hisz]
    · rw [List.getElem?_append_right (by simp)]; simp
    · rw [hext]; simp
    · rw [hext]
      simp [seg]
      rw [List.take_of_length_le (by simp)]
    · rw [get_ext (by simpa using hj), List.getElem?_set_ne (by rintro rfl; exact hn (by simp))]
/-- A builder: its block; what it holds. -/
def BldR (bt et : TypeId) (H : Heap) (id : Nat) (l : List UInt8) (F : List Nat) : Prop :=
  ∃ pv sv, H[id]? = some ⟨.cells #[pv, sv] bt (0, 0), true, true⟩ ∧ BufR et H l sv F ∧ id ∉ F ∧ (pv = .pointer none ∨ pv = .pointer (some ⟨id, 0, none⟩))
theorem BldR.fr {bt et : TypeId} {H H' : Heap} {id : Nat} {l : List UInt8} {F : List Nat} (h : BldR bt et H id l F) (hi : H'[id]? = H[id]?) (hf : ∀ i ∈ F, H'[i]? = H[i]?) : BldR bt et H' id l F := by
  obtain ⟨pv, sv, h1, h2, h3, h4⟩ := h
  exact ⟨pv, sv, hi.trans h1, h2.fr hf, h3, h4⟩
theorem BldR.lt {bt et : TypeId} {H : Heap} {id : Nat} {l : List UInt8} {F : List Nat} (h : BldR bt et H id l F) : id < H.length ∧ ∀ i ∈ F, i < H.length := by
  obtain ⟨pv, sv, h1, h2, h3, h4⟩ := h
  exact ⟨(List.getElem?_eq_some_iff.1 h1).1, h2.lt⟩
theorem BldR.ext {bt et : TypeId} {H H' : Heap} {id : Nat} {l : List UInt8} {F : List Nat} (h : BldR bt et H id l F) (he : Ext H H') : BldR bt et H' id l F := h.fr (he id h.lt.1) fun i hi => he i (h.lt.2 i hi)
theorem vrs1 {E : Emb} {a : Value} {args' : Array Value} (h : VRs E [a] args') : ∃ a', args' = #[a'] ∧ VR E a a' := by
  obtain ⟨hsz, hvr⟩ := h
  simp only [List.length_cons, List.length_nil] at hsz
  refine ⟨args'[0]'(by omega), ?_, by simpa using hvr 0 (by simp) (by omega)⟩
  apply Array.ext
  · simp; omega
  · intro i h1 h2
    obtain rfl : i = 0 := by simpa using h2
    rfl
end Go.Am
namespace Go.Proofs.YtbigpkfdeaigeaaDoor
open Go Go.Am Go.Proofs
set_option maxRecDepth 20000
variable {ng : Nat}
theorem copyCheck_ac {H : Heap} {id : Nat} {pv sv : Value} (hb : H[id]? = some ⟨.cells #[pv, sv] 56 (0, 0), true, true⟩) (hp : pv = .pointer none ∨ pv = .pointer (some ⟨id, 0, none⟩)) :
    AC Tryd.prog ng 42 [.pointer (some ⟨id, 0, none⟩)] H fun v S' => v = .tuple #[] ∧ S' = H.set id ⟨.cells #[.pointer (some ⟨id, 0, none⟩), sv] 56 (0, 0), true, true⟩ := by
  intro E args' w hv hr hng
  obtain ⟨a, rfl, ha⟩ := vrs1 hv
  cases ha with
  | ptr _ he =>
    rename_i l
    obtain ⟨b, hb', hlt, ho⟩ := hr.blk _ _ he
    rw [hb] at hb'
    obtain rfl := Option.some.inj hb'
    obtain ⟨c', e', fr, hw, hrm, hbase, hcell, hfr, hty, hwh⟩ := ho rfl
    obtain ⟨hb0, hsz⟩ := hwh rfl
    obtain ⟨lb, lo, lr⟩ := l
    dsimp only at hb0 hw hrm hbase hcell hfr hlt ⊢
    subst hb0
    obtain rfl := hty rfl
    obtain ⟨v0, q0, r0⟩ := hcell 0 (by simp)
    have hfz : w.frozen? ⟨lb, 0, none⟩ = false := by
      have := hfr rfl 0 (by rw [hrm, hsz]; simp)
      simp only [World.frozen?, hw]
      simpa using this
    have hsh : w.shape? lb = some (56, 2) := by
      simp [World.shape?, hw, hsz]
    simp only [Nat.zero_add] at q0
    have hc0 : w.cell? ⟨lb, 0, none⟩ = some v0 := by simp [World.cell?, hw, q0]
    rcases hp with rfl | rfl
    · cases r0
      refine (copyCheck_fresh lb w hc0 hsh hfz).mono ?_
      rintro ex w' ⟨rfl, rfl⟩
      obtain ⟨g1, g2⟩ := setCells_rel hr he hb 0 [.pointer (some ⟨id, 0, none⟩)] [.pointer (some ⟨lb, 0, none⟩)] (by simp) rfl (fun i h1 h2 => by
        obtain rfl : i = 0 := by simpa using h1
        have := VR.ptr (E := E) 0 he
        simpa using this)
      exact ⟨.tuple #[], .tuple #[], _, E, rfl, ⟨rfl, rfl⟩, .tuple rfl (fun i h => by simp at h), g1, by simp, g2 _⟩
    · cases r0 with
      | ptr _ he2 =>
        obtain rfl := Option.some.inj (he2.symm.trans he)
        refine (copyCheck_used _ w (by simpa using hc0)).mono ?_
        rintro ex w' ⟨rfl, rfl⟩
        refine ⟨.tuple #[], .tuple #[], H, E, rfl, ⟨rfl, ?_⟩, .tuple rfl (fun i h => by simp at h), hr, Nat.le_refl _, Grow.refl _ _ _ _⟩
        obtain ⟨h1, h2⟩ := List.getElem?_eq_some_iff.1 hb
        rw [← h2, List.set_getElem_self]
theorem writeString_ac {H : Heap} {id : Nat} {l r : List UInt8} {F : List Nat} (h : BldR 56 5 H id l F) (hr : l.length + r.length ≤ 1000000000) :
    AC Tryd.prog ng 28 [.pointer (some ⟨id, 0, none⟩), str r] H fun v S' => v = .tuple #[int r.length, .nilIface] ∧ ∃ F', BldR 56 5 S' id (l ++ r) F' ∧ H.length ≤ S'.length ∧ (∀ j, j < H.length → j ≠ id → j ∉ F → S'[j]? = H[j]?) ∧ ∀ j ∈ F', H.length ≤ j ∨ j ∈ F := by
  obtain ⟨pv, sv, hb, hbuf, hni, hp⟩ := h
  have hlt := (List.getElem?_eq_some_iff.1 hb).1
  refine AC.go [] Tryd.func28 rfl Tryd.ntmps28 rfl ⟨mixed, by kernel_rfl⟩ ?_
  simp +contextual (dsimp := false)
  refine CallK.of ⟨_, Tryd.func42, rfl, rfl⟩ (copyCheck_ac hb hp) ?_
  rintro v S1 ⟨rfl, hS1⟩
  have hb1 : S1[id]? = some ⟨.cells #[.pointer (some ⟨id, 0, none⟩), sv] 56 (0, 0), true, true⟩ := by rw [hS1]; exact List.getElem?_set_self hlt
  have hl1 : S1.length = H.length := by rw [hS1]; simp
  have ho1 : ∀ j, j ≠ id → S1[j]? = H[j]? := fun j hj => by rw [hS1]; exact List.getElem?_set_ne (Ne.symm hj)
  clear hS1
  have hbuf1 := hbuf.fr (H' := S1) fun i hi => ho1 i (by rintro rfl; exact hni hi)
  obtain ⟨a, z, rfl⟩ := hbuf.known
  simp +contextual (dsimp := false) [goB_of hb1]
  refine AppK.buf slt22 und9 hbuf1 hr (by omega) ?_
  intro s' H' F' q1 q2 q3 q4
  obtain ⟨a', z', rfl⟩ := q1.known
  have hb2 : H'[id]? = _ := (q3 id (by omega) hni).trans hb1
  simp +contextual (dsimp := false) [goB_of hb2, hb2]
  have hlt' : id < H'.length := by omega
  have e1 : l.length + r.length = (l ++ r).length := by simp
  rw [e1]
  have hni' : id ∉ F' := fun hm => by
    rcases q4 id hm with h | h
    · omega
    · exact hni h.1
  refine ⟨F', ⟨_, _, List.getElem?_set_self hlt', q1.fr fun j hj => List.getElem?_set_ne (by rintro rfl; exact hni' hj), hni', .inr rfl⟩, by omega, fun j hj h1 h2 => ?_, fun j hj => (q4 j hj).imp (fun h => by omega) (fun h => h.1)⟩
  rw [List.getElem?_set_ne (Ne.symm h1), q3 j (by omega) h2, ho1 j h1, List.getElem?_eq_getElem hj]
theorem builderString_ac {H : Heap} {id : Nat} {l : List UInt8} {F : List Nat} (h : BldR 56 5 H id l F) (hl : l.length ≤ 1000000000) :
    AC Tryd.prog ng 30 [.pointer (some ⟨id, 0, none⟩)] H fun v S' => v = str l ∧ S'.length = H.length ∧ ∀ j, j ∉ F → S'[j]? = H[j]? := by
  intro E args' w hv hr hng
  obtain ⟨a, rfl, ha⟩ := vrs1 hv
  obtain ⟨pv, sv, hb, hbuf, hni, hp⟩ := h
  cases ha with
  | ptr _ he =>
    rename_i lc
    obtain ⟨b, hb', hlt, ho⟩ := hr.blk _ _ he
    rw [hb] at hb'
    obtain rfl := Option.some.inj hb'
    obtain ⟨c', e', fr, hw, hrm, hbase, hcell, hfr, hty, hwh⟩ := ho rfl
    obtain ⟨hb0, hsz⟩ := hwh rfl
    obtain ⟨lb, lo, lr⟩ := lc
    dsimp only at hb0 hw hrm hbase hcell hfr hlt ⊢
    subst hb0
    obtain ⟨v1, q1, r1⟩ := hcell 1 (by simp)
    simp only [Nat.zero_add] at q1
    rcases hbuf with ⟨rfl, rfl, rfl⟩ | ⟨g, c, q, rfl, rfl, hgb, hle, hseg, hne⟩
    · cases r1
      refine (bldString_nil lb w (by simp [World.cell?, hw, q1])).mono ?_
      rintro ex w' ⟨rfl, n, rfl⟩
      exact ⟨_, _, H, E, rfl, ⟨rfl, rfl, fun _ _ => rfl⟩, .string _, hr.same rfl, Nat.le_refl _, ⟨fun _ _ => rfl, rfl, rfl, rfl, Nat.le_refl _, fun b _ _ => rfl, fun id l bl h1 h2 h3 h4 _ => ⟨id, l, bl, h1, h2, h3, h4, rfl⟩⟩⟩
    · cases r1 with
      | slice _ _ _ cap heg hcap hroom =>
        rename_i lg
        obtain ⟨bg, hgb', hltg, hog⟩ := hr.blk _ _ heg
        rw [hgb] at hgb'
        obtain rfl := Option.some.inj hgb'
        obtain ⟨cg, eg, fg, hwg, hrmg, hbaseg, hcellg, hfrg, htyg, -⟩ := hog rfl
        obtain rfl := htyg rfl
        have hcell : ∀ j x, l[j]? = some x → w.cell? ⟨lg.blk, lg.base + j, none⟩ = some (.int .u8 x.toNat) := by
          intro j x hj
          obtain ⟨hjl, hjx⟩ := List.getElem?_eq_some_iff.1 hj
          obtain ⟨v', p1, p2⟩ := hcellg j (by omega)
          have h1 := seg_get (c := c) (off := 0) (n := l.length) (i := j) hjl
          rw [hseg, Nat.zero_add] at h1
          simp only [List.getElem?_map, hj, Option.map_some, Array.getElem?_eq_getElem (show j < c.size by omega)] at h1
          rw [← Option.some.inj h1] at p2
          cases p2
          simp [World.cell?, hwg, p1]
        refine (bldString_some lb lg.blk (lg.base + 0) cap l w (by simp [World.cell?, hw, q1]) hne (by omega) (by omega) cg.size (by simp [World.shape?, hwg]) (by rw [← hrmg]; omega) (by simpa using hcell)).mono ?_
        rintro ex w' ⟨rfl, n, rfl⟩
        have hfz : ∀ k, k ≠ lg.blk → ((w.drewN n).freeze ⟨lg.blk, lg.base + 0, none⟩ l.length).heap[k]? = w.heap[k]? := fun k hk => by
          unfold World.freeze
          split
          · rfl
          · simp [World.drewN, Array.getElem?_modify, Ne.symm hk]
        have hsz' : ((w.drewN n).freeze ⟨lg.blk, lg.base + 0, none⟩ l.length).heap.size = w.heap.size := by
          unfold World.freeze
          split
          · rfl
          · simp [World.drewN]
        have hos : ((w.drewN n).freeze ⟨lg.blk, lg.base + 0, none⟩ l.length).os = w.os ∧ ((w.drewN n).freeze ⟨lg.blk, lg.base + 0, none⟩ l.length).tape = w.tape ∧ ((w.drewN n).freeze ⟨lg.blk, lg.base + 0, none⟩ l.length).output = w.output := by
          unfold World.freeze
          split
          · exact ⟨rfl, rfl, rfl⟩
          · exact ⟨rfl, rfl, rfl⟩
        refine ⟨_, _, H.set g ⟨.cells #[] 0 (0, 0), false, true⟩, E, rfl, ⟨rfl, by simp, fun j hj => List.getElem?_set_ne (by rintro rfl; exact hj (by simp))⟩, .string _, hr.set heg hgb rfl rfl hsz' hfz rfl (fun h => by cases h), by simp, Grow.set _ heg hgb rfl rfl hsz' hfz hos.1 hos.2.1 hos.2.2⟩
end Go.Proofs.YtbigpkfdeaigeaaDoor

/- Lines of instructions; PrintProgram, both. No condition. -/
set_option linter.unusedSimpArgs false
set_option linter.unusedVariables false
namespace Go.Proofs.YtbigpkfdeaigeaaDoor
open Go Go.Am Go.Proofs
set_option maxRecDepth 20000
variable {ng : Nat}
theorem valid_parts {x : Ins} (h : x.valid = true) : 1 ≤ x.op ∧ x.op ≤ 15 ∧ x.text.length ≤ 2000 ∧ (x.op = 1 ∨ x.text = []) ∧ 0 ≤ x.n ∧ x.n ≤ max 0 (topN x.op) ∧ x.n ≤ 2000 := by
  simp only [Ins.valid, Bool.and_eq_true, decide_eq_true_eq, Bool.or_eq_true, List.isEmpty_iff] at h
  obtain ⟨⟨⟨⟨⟨h1, h2⟩, h3⟩, h4⟩, h5⟩, h6⟩ := h
  refine ⟨h1, h2, h3, h4, h5, h6, ?_⟩
  unfold topN at h6
  repeat' split at h6
  all_goals omega
def gW : Nat := 0
theorem line_ac {x : Ins} {H : Heap} (hx : x.valid = true) (hW : WordsG gW H) (hP : P10 g10 H) (h0 : gW < ng) (h2 : g10 < ng) : AC Tryd.prog ng 29 [.agg x.c.toArray] H fun v S' => v = str (lineL x) ∧ S' = H := by
  obtain ⟨v1, v2, v3, v4, v5, v6, v7⟩ := valid_parts hx
  obtain ⟨k1, k2⟩ := kind_top v1 v2
  have hwl := wordOf_len x.op
  have hdl := decN_len x.n.toNat
  refine .flat (AC.go [(4, .take 1 <| .take 6 <| .take 0 <| .take 2 <| .take 3 <| .take 4 <| .take 5 <| .take 7 <| .one 8 [0, 2, 4] <| .take 9 <| .take 10 <| .done)] Tryd.func29 rfl Tryd.ntmps29 rfl ⟨mixed, by kernel_rfl⟩ ?_)
  have hx1 : ∀ T, Ext H (H ++ T) := fun T => Ext.app H T
  obtain ⟨sv, F, e0, f0, hb, hsv⟩ := id hW
  obtain ⟨a, z, rfl⟩ := hsv.form
  have hop : ((x.op.toNat : Nat) : Int) = x.op := Int.toNat_of_nonneg (by omega)
  have hol : x.op.toNat < wordsT.length := by show x.op.toNat < 16; omega
  have hwx := words_get v1 v2
  have hwg : wordsT[x.op.toNat] = (wordOf x.op).1 := by rw [← hwx, List.getD_eq_getElem?_getD, List.getElem?_eq_getElem hol]; rfl
  have hgl : gW < H.length := (List.getElem?_eq_some_iff.1 hb).1
  have hbT : ∀ (T : Heap) (q : Blk → Prop), goB (H ++ T) gW q = q ⟨.cells #[.slice a wordsT.length z] e0 f0, true, false⟩ := fun T q => goB_app hb q
  unfold gW at h0 hgl hbT
  by_cases h1 : x.op = 1
  · have hq := quoteL_len x.text
    simp +contextual (dsimp := false) [Ins.c, h1]
    refine CallK.fl ⟨_, Tryd.func43, rfl, rfl⟩ (quote_ac x.text (by omega) _) ?_
    simp +contextual (dsimp := false)
    rw [show (Value.string { data := #[108, 105, 116, 32] }) = str [108, 105, 116, 32] from rfl, bin_ladd (by simp; omega)]
    simp +contextual (dsimp := false)
    unfold lineL
    rw [if_pos (k2.2 h1), h1]
    rfl
  · obtain ⟨id, o, c, e, f, ow, cs, Fi, E⟩ := SlR.get (Rp.ext hsv (hx1 [(⟨.cells #[int x.op, str x.text, int x.n] 58 (0, 0), true, true⟩ : Blk)])) x.op.toNat hol
    obtain ⟨rfl, rfl, hok'⟩ := E.rep
    have hix := E.idx
    rw [hop] at hix
    have hc0 := E.cell0 (by omega)
    simp +contextual (dsimp := false) [Ins.c, h1]
    refine CallK.fl ⟨_, Tryd.func44, rfl, rfl⟩ (top_ac _ _) ?_
    simp +contextual (dsimp := false) [h0, hbT, hix, E.goB, E.le, hc0, hwg]
    refine ifA_dec (fun h4 => ?_) (fun h4 => ?_)
    · rw [bin_ladd (by simp; omega)]
      simp +contextual (dsimp := false)
      refine CallK.fl ⟨_, Tryd.func22, rfl, rfl⟩ (itoa_ac (n := x.n.toNat) (by omega) (hP.ext (Ext.app _ _)) h2 (by omega)) ?_
      have hd2 : ((wordOf x.op).1 ++ [32]).length + (decN x.n.toNat).length ≤ 9223372036854775807 := by simp; omega
      have hd3 : (wordOf x.op).1.length + [(32 : UInt8)].length ≤ 9223372036854775807 := by simp; omega
      have hfin : (wordOf x.op).1 ++ [32] ++ decN x.n.toNat = lineL x := by
        unfold lineL
        rw [if_neg (fun h => h1 (k2.1 h)), if_pos (k1.2 h4)]
        simp
      simp +contextual (dsimp := false) [h0, hbT, hix, E.goB, E.le, hc0, hwg, E.blk, bin_ladd hd2, bin_ladd hd3]
      rw [← hfin]
      try simp
    · unfold lineL
      rw [if_neg (fun h => h1 (k2.1 h)), if_neg (fun h => h4 (k1.1 h))]
theorem implPrintProgram_ac {own : Bool} {p : List Ins} {s : Value} {F : List Nat} {H : Heap} (hs : CodeR own H p [s] F) (hW : WordsG gW H) (hP : P10 g10 H) (h0 : gW < ng) (h2 : g10 < ng) : AC Tryd.prog ng 13 [.agg #[s]] H fun v S' => v = str (printP p) ∧ S' = H := by
  obtain ⟨a, z, rfl⟩ := hs.form
  refine .flat (AC.go [] Tryd.func13 rfl Tryd.ntmps13 rfl ⟨mixed, by kernel_rfl⟩ ?_)
  simp +contextual (dsimp := false)
  refine CallK.fl ⟨_, Tryd.func16, rfl, rfl⟩ (validProgram_ac (Rp.ext hs (Ext.app _ _))) ?_
  unfold printP
  cases hv : validP p with
  | false => simp +contextual (dsimp := false)
  | true =>
    have hpl := validP_len hv
    simp +contextual (dsimp := false)
    obtain ⟨H0, hH0⟩ : ∃ H0, H0 = H ++ [(⟨.cells #[.slice a p.length z] 35 (0, 0), true, true⟩ : Blk), ⟨.cells #[.pointer none, .slice none 0 0] 56 (0, 0), true, true⟩] := ⟨_, rfl⟩
    have hx0 : Ext H H0 := by rw [hH0]; exact Ext.app _ _
    have hl0 : H0.length = H.length + 2 := by rw [hH0]; simp
    have hb0 : BldR 56 5 H0 (H.length + 1) (printL (p.take 0)) [] := ⟨.pointer none, .slice none 0 0, by rw [hH0]; simp, .inl ⟨rfl, rfl, rfl⟩, by simp, .inl rfl⟩
    rw [← hH0]
    have hva := fun x (hx : x ∈ p) => validP_all hv hx
    refine LoopA.up (σ := Nat × Heap × List Nat) [3, 10, 11, 12] (fun i => [(12, int i.1)]) (fun i => i.2.1)
      (fun x => x.1 ≤ p.length ∧ Ext H x.2.1 ∧ BldR 56 5 x.2.1 (H.length + 1) (printL (p.take x.1)) x.2.2 ∧ ∀ j ∈ x.2.2, H.length ≤ j) (fun i => p.length - i.1) (0, H0, []) rfl ⟨by simp, hx0, hb0, by simp⟩ ?_
    rintro ⟨i, hp, FB⟩ ⟨hi, hx, hb, hf⟩
    dsimp only at hi hx hb hf
    have hle := hx.le
    have hpr : (printL (p.take i)).length ≤ 6011 * 200 := by
      have h1 := printL_len (p := p.take i) fun x hx => hva x (mem_take hx)
      have h2 := List.length_take_le i p
      have := Nat.mul_le_mul_left 6011 (show (p.take i).length ≤ 200 by simp only [List.length_take]; omega)
      omega
    simp +contextual (dsimp := false)
    refine ifA_dec (fun h3 => ?_) (fun h3 => ?_)
    · obtain ⟨id, o, c, e, f, ow, cs, Fi, E⟩ := SlR.get (Rp.ext hs hx) i h3
      obtain ⟨rfl, rfl, hok⟩ := E.rep
      have hvi := hva p[i] (List.getElem_mem h3)
      have hli := lineL_len hvi
      simp +contextual (dsimp := false) [E.idx, E.goB, E.le, E.lt, E.ext, Ins.c]
      refine CallK.fl ⟨_, Tryd.func29, rfl, rfl⟩ (line_ac hvi (hW.ext (hx.trans (Ext.app _ _))) (hP.ext (hx.trans (Ext.app _ _))) h0 h2) ?_
      simp +contextual (dsimp := false)
      rw [show (Value.string { data := #[10] }) = str [10] from rfl, bin_ladd (by simp; omega)]
      simp +contextual (dsimp := false)
      refine CallK.of ⟨_, Tryd.func28, rfl, rfl⟩ (writeString_ac (hb.ext (Ext.app _ _)) (by simp; omega)) ?_
      rintro v S' ⟨rfl, F', hb', hl', hfr', hF'⟩
      simp only [List.length_append, List.length_singleton] at hl' hfr' hF'
      have hblt := hb.lt
      simp +contextual (dsimp := false) [wrap_succ (show i < 9223372036854775807 by omega)]
      refine LoopN.of (i + 1, S', F') rfl ⟨h3, fun j hj => (hfr' j (by omega) (by omega) (fun hm => by have := hf j hm; omega)).trans ((get_ext (by omega)).trans (hx j hj)), ?_, fun j hj => (hF' j hj).elim (fun h => by omega) (hf j)⟩ (by dsimp only; omega)
      dsimp only
      rw [printL_s h3]
      exact hb'
    · rw [List.take_of_length_le (show p.length ≤ i by omega)] at hb hpr
      refine CallK.of ⟨_, Tryd.func30, rfl, rfl⟩ (builderString_ac hb (by omega)) ?_
      rintro v S' ⟨rfl, hl', hfr'⟩
      simp +contextual (dsimp := false)
      exact fun j hj => (hfr' j (fun hm => by have := hf j hm; omega)).trans (hx j hj)
end Go.Proofs.YtbigpkfdeaigeaaDoor

/- The laid variables of the program, in an abstract heap. No condition. -/
set_option linter.unusedSimpArgs false
set_option linter.unusedVariables false
namespace Go.Proofs.YtbigpkfdeaigeaaDoor
open Go Go.Am Go.Proofs
set_option maxRecDepth 20000
theorem heap_ge {P : Program} {W : World} {laid : List (String × DataW Unit)} {ps : List MemPlace} (h : DataW.LaidVars P W laid ps) {n : String} {d : DataW Unit} {g : Nat} (hm : (n, d) ∈ laid) (hg : P.globalNamed n = some g) : g < W.heap.size := by
  obtain ⟨g', t, cs, fuel, p, h1, h2, h3, h4⟩ := laid_at h hm
  obtain rfl := Option.some.inj (hg.symm.trans h1)
  obtain ⟨e, fr, hb⟩ := var_heap hg h3
  exact (Array.getElem?_eq_some_iff.1 hb).1
abbrev pow10D : DataW Unit := Lib.tabData .u64 Lib.pow10Tab
abbrev wordsD : DataW Unit := .slice (wordsT.map fun l => .lit (.string l)) []
theorem rep_strs {H : Heap} : ∀ {l : List (List UInt8)}, (∀ x ∈ l, okS x) → RepL strR H l (l.map (fun s => .string ⟨⟨s⟩⟩)) []
  | [], _ => ⟨rfl, rfl⟩
  | x :: l, h => ⟨[.string ⟨⟨x⟩⟩], _, [], [], rfl, rfl, ⟨rfl, rfl, h x (by simp)⟩, rep_strs fun y hy => h y (by simp [hy])⟩
end Go.Proofs.YtbigpkfdeaigeaaDoor
