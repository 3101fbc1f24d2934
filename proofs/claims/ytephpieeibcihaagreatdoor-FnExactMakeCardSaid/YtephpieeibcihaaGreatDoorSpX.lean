import Derived.Test.YtephpieeibcihaaGreatDoorNxt
set_option linter.all false
namespace Go.Proofs.YtephpieeibcihaaGreatDoor
open Go Go.Am Go.Proofs
set_option maxRecDepth 20000
variable {ng : Nat}
theorem l1Flag_ac (b : Bool) (H : Heap) : AC Tryz.prog ng 185 [.bool b] H fun v S' => v = str (flagT b) ∧ S' = H := by
  refine .flat (AC.go [] Tryz.func185 rfl Tryz.ntmps185 rfl ⟨mixed, by kernel_rfl⟩ ?_)
  cases b <;> simp +contextual (dsimp := false) <;> rfl
def takesOf (op : Int) : Nat × Nat :=
  if op = 1 then (0, 1) else if op = 2 ∨ op = 6 then (2, 1) else if op = 3 ∨ op = 4 ∨ op = 5 ∨ op = 12 ∨ op = 13 then (1, 1) else if op = 7 then (1, 2) else if op = 8 then (2, 2) else if op = 9 ∨ op = 11 ∨ op = 14 ∨ op = 15 then (1, 0) else (0, 0)
theorem l1Takes_ac (op : Int) (H : Heap) : AC Tryz.prog ng 218 [.int .i64 op] H fun v S' => v = .tuple #[int (takesOf op).1, int (takesOf op).2] ∧ S' = H := by
  refine .flat (AC.go [] Tryz.func218 rfl Tryz.ntmps218 rfl ⟨mixed, by kernel_rfl⟩ ?_)
  simp (dsimp := false)
  unfold takesOf
  repeat' refine ifA_dec (fun h => ?_) (fun h => ?_)
  all_goals first | (exfalso; omega) | simp [*]
def opn (s : List UInt8) (i : Nat) : Option Nat → List UInt8
  | none => []
  | some a => (s.drop a).take (i - a)
def fromI : Option Nat → Int
  | none => -1
  | some a => a
theorem opn_s {s : List UInt8} {i a : Nat} (h : i < s.length) (ha : a ≤ i) : opn s (i + 1) (some a) = opn s i (some a) ++ [s[i]] := by
  simp only [opn]
  rw [show i + 1 - a = (i - a) + 1 by omega, List.take_succ_eq_append_getElem (by simp; omega)]
  simp [show a + (i - a) = i by omega]
theorem opn_ne {s : List UInt8} {i a : Nat} (h : i ≤ s.length) (ha : a < i) : opn s i (some a) ≠ [] := by
  intro h0
  have := congrArg List.length h0
  simp [opn] at this
  omega
theorem wordsL_drop {s : List UInt8} {i : Nat} (h : i < s.length) (w : List UInt8) : wordsL (s.drop i) w = if gapB s[i] then (if w = [] then wordsL (s.drop (i + 1)) [] else w :: wordsL (s.drop (i + 1)) []) else wordsL (s.drop (i + 1)) (w ++ [s[i]]) := by
  rw [List.drop_eq_getElem_cons h, wordsL]
theorem gapB_i {b : UInt8} (h : (b.toNat : Int) = 32 ∨ (b.toNat : Int) = 10) : gapB b = true := by
  rw [gapB_R]
  simp only [gapR, Bool.or_eq_true, decide_eq_true_eq]
  omega
theorem gapB_n {b : UInt8} (h1 : ¬ (b.toNat : Int) = 32) (h2 : ¬ (b.toNat : Int) = 10) : gapB b = false := by
  rw [gapB_R]
  simp only [gapR, Bool.or_eq_false_iff, decide_eq_false_iff_not]
  omega
theorem l1Piece_ac {s : List UInt8} {n : Nat} {H : Heap} (hs : s.length ≤ 2000) (hn : n ≤ 2000) : AC Tryz.prog ng 254 [str s, int n] H fun v S' => v = str (wordAt s n) ∧ S' = H := by
  refine .flat (AC.go [] Tryz.func254 rfl Tryz.ntmps254 rfl ⟨mixed, by kernel_rfl⟩ ?_)
  simp +contextual (dsimp := false)
  refine LoopA.up (σ := Nat × Nat × Option Nat) [0, 1, 5, 6] (fun i => [(1, int i.2.1), (5, .int .i64 (fromI i.2.2)), (6, int i.1)]) (fun i => H)
    (fun x => x.2.1 ≤ 2000 ∧ ((x.1 ≤ s.length ∧ (∀ a, x.2.2 = some a → a < x.1) ∧ wordAt s n = (wordsL (s.drop x.1) (opn s x.1 x.2.2)).getD x.2.1 []) ∨ (x.1 = s.length + 1 ∧ wordAt s n = []))) (fun i => s.length + 1 - i.1) (0, n, none) rfl
    ⟨hn, .inl ⟨by simp, (fun a h => by cases h), by simp [wordAt, opn]⟩⟩ ?_
  rintro ⟨i, m, fr⟩ ⟨hm, hv⟩
  dsimp only at hm hv
  simp +contextual (dsimp := false)
  refine ifA_dec (fun h3 => ?_) (fun h3 => ?_)
  · rcases hv with ⟨hi, hf, he⟩ | ⟨hi, he⟩
    · by_cases h4 : i = s.length
      · subst h4
        cases fr with
        | none =>
          simp +contextual (dsimp := false) [fromI, wrap_succ (show s.length < 9223372036854775807 by omega)]
          refine LoopN.of (s.length + 1, m, none) rfl ⟨hm, .inr ⟨rfl, ?_⟩⟩ (by dsimp only; omega)
          rw [he]
          simp [wordsL, opn]
        | some a =>
          simp +contextual (dsimp := false) [fromI, wrap_succ (show s.length < 9223372036854775807 by omega)]
          refine ifA_dec (fun h6 => ?_) (fun h6 => ?_)
          · subst h6
            have ha := hf a rfl
            rw [show fromI (some a) = (a : Int) from rfl, sliceZ_mid (by omega) (by omega) (by omega)]
            simp +contextual (dsimp := false)
            rw [he, List.drop_length, wordsL, if_neg (opn_ne (Nat.le_refl _) ha)]
            simp [opn]
            rw [List.take_of_length_le (by simp)]
          · refine LoopN.of (s.length + 1, m - 1, none) ?_ ⟨by dsimp only; omega, .inr ⟨rfl, ?_⟩⟩ (by dsimp only; omega)
            · rw [wrap_of _ (by omega) (by omega), show (m : Int) - 1 = ((m - 1 : Nat) : Int) by omega]
              rfl
            · have ha := hf a rfl
              rw [he, List.drop_length, wordsL, if_neg (opn_ne (Nat.le_refl _) ha)]
              rw [List.getD_eq_getElem?_getD, List.getElem?_eq_none (by simp; omega)]
              rfl
      · have h5 : i < s.length := by omega
        have h4' : ¬ (i : Int) = s.length := by omega
        have hwd := wordsL_drop h5
        cases fr with
        | none =>
          simp +contextual (dsimp := false) [h4', h5, fromI, wrap_succ (show i < 9223372036854775807 by omega)]
          replace hwd := hwd []
          refine ifA_dec (fun h6 => ?_) (fun h6 => ?_)
          · have hg : gapB s[i] = true := gapB_i (.inl h6)
            rw [hg, if_pos rfl, if_pos rfl] at hwd
            exact LoopN.of (i + 1, m, none) rfl ⟨hm, .inl ⟨by dsimp only; omega, (fun a h => by cases h), by rw [he]; simp only [opn]; rw [hwd]⟩⟩ (by dsimp only; omega)
          · refine ifA_dec (fun h7 => ?_) (fun h7 => ?_)
            · have hg : gapB s[i] = true := gapB_i (.inr h7)
              rw [hg, if_pos rfl, if_pos rfl] at hwd
              exact LoopN.of (i + 1, m, none) rfl ⟨hm, .inl ⟨by dsimp only; omega, (fun a h => by cases h), by rw [he]; simp only [opn]; rw [hwd]⟩⟩ (by dsimp only; omega)
            · have hg : gapB s[i] = false := gapB_n h6 h7
              rw [hg, if_neg (by simp)] at hwd
              refine LoopN.of (i + 1, m, some i) rfl ⟨hm, .inl ⟨by dsimp only; omega, (fun a h => by cases h; omega), ?_⟩⟩ (by dsimp only; omega)
              dsimp only
              rw [he, opn_s h5 (Nat.le_refl _)]
              simp only [opn, Nat.sub_self, List.take_zero]
              rw [hwd]
        | some a =>
          simp +contextual (dsimp := false) [h4', h5, fromI, wrap_succ (show i < 9223372036854775807 by omega)]
          replace hwd := hwd (opn s i (some a))
          have ha := hf a rfl
          have hne := opn_ne hi ha
          refine ifA_dec (fun h6 => ?_) (fun h6 => ?_)
          · have hg : gapB s[i] = true := gapB_i (.inl h6)
            rw [hg, if_pos rfl, if_neg hne] at hwd
            refine ifA_dec (fun h8 => ?_) (fun h8 => ?_)
            · subst h8
              rw [sliceZ_mid (by omega) (by omega) (by omega)]
              simp +contextual (dsimp := false)
              rw [he, hwd]
              simp [opn, List.drop_take]
            · refine LoopN.of (i + 1, m - 1, none) ?_ ⟨by dsimp only; omega, .inl ⟨by dsimp only; omega, (fun a h => by cases h), ?_⟩⟩ (by dsimp only; omega)
              · rw [wrap_of ((m : Int) - 1) (by omega) (by omega), show (m : Int) - 1 = ((m - 1 : Nat) : Int) by omega]
                rfl
              · obtain ⟨m', rfl⟩ : ∃ m', m = m' + 1 := ⟨m - 1, by omega⟩
                rw [he, hwd]
                simp [opn]
          · refine ifA_dec (fun h7 => ?_) (fun h7 => ?_)
            · have hg : gapB s[i] = true := gapB_i (.inr h7)
              rw [hg, if_pos rfl, if_neg hne] at hwd
              refine ifA_dec (fun h8 => ?_) (fun h8 => ?_)
              · subst h8
                rw [sliceZ_mid (by omega) (by omega) (by omega)]
                simp +contextual (dsimp := false)
                rw [he, hwd]
                simp [opn, List.drop_take]
              · refine LoopN.of (i + 1, m - 1, none) ?_ ⟨by dsimp only; omega, .inl ⟨by dsimp only; omega, (fun a h => by cases h), ?_⟩⟩ (by dsimp only; omega)
                · rw [wrap_of ((m : Int) - 1) (by omega) (by omega), show (m : Int) - 1 = ((m - 1 : Nat) : Int) by omega]
                  rfl
                · obtain ⟨m', rfl⟩ : ∃ m', m = m' + 1 := ⟨m - 1, by omega⟩
                  rw [he, hwd]
                  simp [opn]
            · have hg : gapB s[i] = false := gapB_n h6 h7
              rw [hg, if_neg (by simp)] at hwd
              refine LoopN.of (i + 1, m, some a) rfl ⟨hm, .inl ⟨by dsimp only; omega, (fun b h => by cases h; dsimp only; omega), ?_⟩⟩ (by dsimp only; omega)
              dsimp only
              rw [he, hwd, opn_s h5 (by omega)]
    · omega
  · rcases hv with ⟨hi, hf, he⟩ | ⟨hi, he⟩
    · omega
    · rw [he]
end Go.Proofs.YtephpieeibcihaaGreatDoor
namespace Go.Proofs.YtephpieeibcihaaGreatDoor
open Go Go.Am Go.Proofs
set_option maxRecDepth 20000
variable {ng : Nat}
def plainL (x : Ins) (a b : List UInt8) : List (List UInt8) :=
  if x.op = 1 then [x.text] else if x.op = 2 then [b ++ a] else if x.op = 3 then [a.take x.n.toNat] else if x.op = 4 then [a.drop x.n.toNat] else if x.op = 5 then [wordAt a x.n.toNat]
  else if x.op = 6 then [flagT (decide (a = b))] else if x.op = 7 then [a, a] else if x.op = 8 then [a, b] else []
theorem plain_end {H : Heap} {b0 : Blk} {l : List (List UInt8)} {e : TypeId} (h : ∀ x ∈ l, x.length ≤ 4000) (hl : l.length ≤ 100) :
    ∃ x, StrsR true (H ++ [b0, (⟨.cells (l.map str).toArray e (0, 0), true, true⟩ : Blk)]) l [.slice (some ⟨H.length + 1, 0, none⟩) l.length 1] x ∧ Fresh H.length x :=
  ⟨[H.length + 1], SlR.lit (j := H.length + 1) (c := l.map str) (e := e) (f := (0, 0)) (o := true) (G := []) (by simp) (rep_strs' fun x hx => by have := h x hx; unfold okS; omega) (by omega) (fun _ => rfl), Fresh.one (by omega)⟩
theorem l1Plain_ac {x : Ins} {a b : List UInt8} {H : Heap} (hx : x.valid = true) (ha : a.length ≤ 2000) (hb : b.length ≤ 2000) :
    AC Tryz.prog ng 220 [.agg x.c.toArray, str a, str b] H fun v S' => ∃ F', Ext H S' ∧ StrsR true S' (plainL x a b) [v] F' ∧ Fresh H.length F' := by
  obtain ⟨v1, v2, v3, v4, v5, v6, v7⟩ := valid_parts hx
  obtain ⟨op, tx, n⟩ := x
  dsimp only at v1 v2 v3 v4 v5 v6 v7
  refine AC.go [] Tryz.func220 rfl Tryz.ntmps220 rfl ⟨mixed, by kernel_rfl⟩ ?_
  have hopx : op = 1 ∨ op = 2 ∨ op = 3 ∨ op = 4 ∨ op = 5 ∨ op = 6 ∨ op = 7 ∨ op = 8 ∨ 9 ≤ op := by omega
  rcases hopx with rfl | rfl | rfl | rfl | rfl | rfl | rfl | rfl | h9
  · simp +contextual (dsimp := false) [Ins.c]
    rw [show plainL ⟨1, tx, n⟩ a b = [tx] by simp [plainL]]
    exact plain_end (l := [tx]) (by simp; omega) (by simp)
  · simp +contextual (dsimp := false) [Ins.c]
    rw [bin_ladd (by omega)]
    simp +contextual (dsimp := false)
    rw [show plainL ⟨2, tx, n⟩ a b = [b ++ a] by simp [plainL]]
    exact plain_end (l := [b ++ a]) (by simp; omega) (by simp)
  · rw [show plainL ⟨3, tx, n⟩ a b = [a.take n.toNat] by simp [plainL]]
    by_cases h3 : n < a.length
    · simp +contextual (dsimp := false) [Ins.c, h3]
      rw [sliceZ_to v5 (by omega)]
      simp +contextual (dsimp := false)
      exact plain_end (l := [a.take n.toNat]) (by simp; omega) (by simp)
    · simp +contextual (dsimp := false) [Ins.c, h3]
      rw [List.take_of_length_le (by omega)]
      exact plain_end (l := [a]) (by simp; omega) (by simp)
  · rw [show plainL ⟨4, tx, n⟩ a b = [a.drop n.toNat] by simp [plainL]]
    by_cases h3 : n < a.length
    · simp +contextual (dsimp := false) [Ins.c, h3]
      rw [sliceZ_from v5 (by omega)]
      simp +contextual (dsimp := false)
      exact plain_end (l := [a.drop n.toNat]) (by simp; omega) (by simp)
    · simp +contextual (dsimp := false) [Ins.c, h3]
      rw [List.drop_of_length_le (by omega)]
      exact plain_end (l := [[]]) (by simp) (by simp)
  · have hw := fun H => l1Piece_ac (ng := ng) (s := a) (n := n.toNat) (H := H) ha (by omega)
    rw [Int.toNat_of_nonneg v5] at hw
    have hwl := wordAt_len a n.toNat
    simp +contextual (dsimp := false) [Ins.c]
    refine CallK.fl ⟨_, Tryz.func254, rfl, rfl⟩ (hw _) ?_
    simp +contextual (dsimp := false)
    rw [show plainL ⟨5, tx, n⟩ a b = [wordAt a n.toNat] by simp [plainL]]
    exact plain_end (l := [wordAt a n.toNat]) (by simp; omega) (by simp)
  · have hfl : (flagT (decide (a = b))).length ≤ 1 := by unfold flagT; split <;> simp
    simp +contextual (dsimp := false) [Ins.c]
    refine CallK.fl ⟨_, Tryz.func185, rfl, rfl⟩ (l1Flag_ac _ _) ?_
    simp +contextual (dsimp := false)
    rw [show plainL ⟨6, tx, n⟩ a b = [flagT (decide (a = b))] by simp [plainL]]
    exact plain_end (l := [flagT (decide (a = b))]) (by simp; omega) (by simp)
  · simp +contextual (dsimp := false) [Ins.c]
    rw [show plainL ⟨7, tx, n⟩ a b = [a, a] by simp [plainL]]
    exact plain_end (l := [a, a]) (by simp; omega) (by simp)
  · simp +contextual (dsimp := false) [Ins.c]
    rw [show plainL ⟨8, tx, n⟩ a b = [a, b] by simp [plainL]]
    exact plain_end (l := [a, b]) (by simp; omega) (by simp)
  · have e := fun (k : Int) (h : k ≤ 8) => show ¬ op = k by omega
    simp +contextual (dsimp := false) [Ins.c, e 1, e 2, e 3, e 4, e 5, e 6, e 7, e 8]
    rw [show plainL ⟨op, tx, n⟩ a b = [] by simp [plainL, e 1, e 2, e 3, e 4, e 5, e 6, e 7, e 8]]
    exact plain_end (l := []) (by simp) (by simp)
abbrev runC (at_ : Int) (sv : Value) (steps looks : Int) (over : Bool) (code : Int) (text : List UInt8) (ask : Bool) (name : List UInt8) (wait : Bool) : Array Value :=
  #[.int .i64 at_, sv, .int .i64 steps, .int .i64 looks, .bool over, .int .i64 code, .string ⟨⟨text⟩⟩, .bool ask, .string ⟨⟨name⟩⟩, .bool wait]
theorem l1End_ac {at_ : Int} {a : Option Addr} {n z : Nat} {steps looks : Int} {over : Bool} {code : Int} {text : List UInt8} {ask : Bool} {name : List UInt8} {wait : Bool} (c : Int) (t : List UInt8) (H : Heap) :
    AC Tryz.prog ng 217 [.agg (runC at_ (.slice a n z) steps looks over code text ask name wait), int c, str t] H fun v S' => v = .agg (runC at_ (.slice a n z) steps looks true c t ask name wait) ∧ Ext H S' := by
  refine AC.go [] Tryz.func217 rfl Tryz.ntmps217 rfl ⟨mixed, by kernel_rfl⟩ ?_
  simp +contextual (dsimp := false)
def stepS (rs : List Rpl) : Out → Out
  | .look a n m' => match rs[m'.looks - 1]? with
    | none => .look a n m'
    | some y => answ a n m' y
  | o => o
def RunR (H S' : Heap) (v : Value) (o : Out) : Prop := match o with
  | .go m => ∃ sv F, v = .agg (runC m.at_ sv m.steps m.looks false 0 [] false [] false) ∧ StrsR true S' m.stk [sv] F ∧ Fresh H.length F
  | .fin c t n => ∃ (at_ : Int) (a : Option Addr) (l z : Nat) (looks : Int), v = .agg (runC at_ (.slice a l z) n looks true c t false [] false)
  | .look a nm m => ∃ (at_ : Int) (b : Option Addr) (l z : Nat) (looks : Int), v = .agg (runC at_ (.slice b l z) m.steps looks false 0 [] a nm true)
def FrS (H : Heap) (F : List Nat) (S' : Heap) : Prop := H.length ≤ S'.length ∧ ∀ j, j < H.length → j ∉ F → S'[j]? = H[j]?
theorem FrS.of_ext {H S' : Heap} {F : List Nat} (h : Ext H S') : FrS H F S' := ⟨h.le, fun j hj _ => h j hj⟩
theorem l1Look_ac {own : Bool} {x : Ins} {m : Mst} {sv s2 : Value} {F F2 : List Nat} {nm pl : List UInt8} {rs : List Rpl} {H : Heap} {base : Nat} (hx : x.op = 12 ∨ x.op = 13) (hs : StrsR true H m.stk [sv] F) (hf : Fresh base F) (hb : base ≤ H.length) (hr : RplsR own H rs [s2] F2)
    (hk : m.stk.length ≤ 50) (hnm : nm.length ≤ 2000) (hl : m.looks ≤ 200) (hpl : okS pl) :
    AC Tryz.prog ng 219 [.agg x.c.toArray, .agg (runC (m.at_ + 1) sv m.steps m.looks false 0 [] false [] false), str nm, str pl, s2] H fun v S' => FrS H F S' ∧
      (if nameOk nm = false then RunR H S' v (.fin 2 pl m.steps) else if m.looks = 200 then RunR H S' v (.fin 3 [] m.steps) else
        match stepS rs (.look (decide (x.op = 12)) nm ⟨m.at_, m.stk, m.steps, m.looks + 1⟩) with
        | .go m' => ∃ sv F, v = .agg (runC m'.at_ sv m'.steps m'.looks false 0 [] false [] false) ∧ StrsR true S' m'.stk [sv] F ∧ Fresh base F
        | o => RunR H S' v o) := by
  obtain ⟨at1, st1, sp1, lk1⟩ := m
  obtain ⟨op, tx, xn⟩ := x
  dsimp only at hx hs hk hl ⊢
  obtain ⟨a, z, rfl⟩ := hs.form
  obtain ⟨a2, z2, rfl⟩ := hr.form
  have hbd := hs.bound
  refine AC.go [(13, .take 0 <| .take 2 <| .take 1 <| .take 3 <| .one 4 [1] <| .one 5 [1] <| .one 6 [] <| .take 7 <| .one 8 [] <| .done)] Tryz.func219 rfl Tryz.ntmps219 rfl ⟨mixed, by kernel_rfl⟩ ?_
  simp +contextual (dsimp := false) [Ins.c]
  refine CallK.fl ⟨_, Tryz.func58, rfl, rfl⟩ (l1NameOk_ac _ (by unfold okS; omega) _) ?_
  cases hn : nameOk nm with
  | false =>
    simp +contextual (dsimp := false)
    refine CallK.of ⟨_, Tryz.func217, rfl, rfl⟩ (l1End_ac 2 pl _) ?_
    rintro v S' ⟨rfl, he⟩
    obtain ⟨X, rfl⟩ := he.split
    simp +contextual (dsimp := false)
    exact ⟨FrS.of_ext (Ext.app _ _), _, _, _, _, _, rfl⟩
  | true =>
    by_cases hlk : lk1 = 200
    · have hlk' : (lk1 : Int) = 200 := by omega
      simp +contextual (dsimp := false) [hlk']
      refine CallK.of ⟨_, Tryz.func217, rfl, rfl⟩ (l1End_ac 3 [] _) ?_
      rintro v S' ⟨rfl, he⟩
      obtain ⟨X, rfl⟩ := he.split
      simp +contextual (dsimp := false)
      refine ⟨FrS.of_ext (Ext.app _ _), ?_⟩
      rw [if_pos hlk]
      exact ⟨_, _, _, _, _, rfl⟩
    · have hlk' : ¬ (lk1 : Int) = 200 := by omega
      by_cases hlr : rs.length ≤ lk1
      · have hlr' : (rs.length : Int) ≤ lk1 := by omega
        rw [show stepS rs (.look (decide (op = 12)) nm ⟨at1, st1, sp1, lk1 + 1⟩) = .look (decide (op = 12)) nm ⟨at1, st1, sp1, lk1 + 1⟩ by simp [stepS, List.getElem?_eq_none hlr]]
        simp +contextual (dsimp := false) [hlk', hlr']
        refine ⟨FrS.of_ext (Ext.app _ _), ?_⟩
        rw [if_neg hlk]
        exact ⟨_, _, _, _, _, rfl⟩
      · have hlr' : ¬ (rs.length : Int) ≤ lk1 := by omega
        have hlt : lk1 < rs.length := by omega
        rw [show stepS rs (.look (decide (op = 12)) nm ⟨at1, st1, sp1, lk1 + 1⟩) = answ (decide (op = 12)) nm ⟨at1, st1, sp1, lk1 + 1⟩ rs[lk1] by simp [stepS, List.getElem?_eq_getElem hlt]]
        obtain ⟨id, o, c, e, f, ow, cs, Fi, E⟩ := SlR.get (Rp.ext hr (Ext.app H [(⟨.cells #[.int .i64 op, .string ⟨⟨tx⟩⟩, .int .i64 xn] 140 (0, 0), true, true⟩ : Blk), ⟨.cells (runC (at1 + 1) (.slice a st1.length z) sp1 lk1 false 0 [] false [] false) 247 (0, 0), true, true⟩, ⟨.cells (runC 0 (.slice none 0 0) 0 0 false 0 [] false [] false) 247 (0, 0), true, true⟩])) lk1 hlt
        obtain ⟨rfl, rfl, hok⟩ := E.rep
        simp +contextual (dsimp := false) [hlk', hlr', E.idx, E.goB, E.le, E.lt, E.ext, Rpl.c, wrap_succ (show lk1 < 9223372036854775807 by omega)]
        rcases hx with rfl | rfl
        · cases hh : rs[lk1].has with
          | false =>
            simp +contextual (dsimp := false)
            refine CallK.of ⟨_, Tryz.func217, rfl, rfl⟩ (l1End_ac 4 nm _) ?_
            rintro v S' ⟨rfl, he⟩
            obtain ⟨X, rfl⟩ := he.split
            simp +contextual (dsimp := false)
            refine ⟨FrS.of_ext (Ext.app _ _), ?_⟩
            rw [if_neg hlk]
            simp only [answ, hh]
            exact ⟨_, _, _, _, _, rfl⟩
          | true =>
            by_cases hc : rs[lk1].code = 0
            · simp +contextual (dsimp := false) [hc]
              refine AppK.one (R := strR) (l := st1) (ex := 9) (fx := (0, 0)) (ox := true) (base := base) (x := rs[lk1].text) (cx := [str rs[lk1].text]) (Fx := []) slt24 und24 (Rp.ext hs (Ext.app _ _)) hf (by simp) ⟨rfl, rfl, hok.2⟩ (Fresh.nil _) (by simp) (by simp; omega) (by omega) (by omega) ?_
              intro s1 H1 F1 q1 q2 q3 q4 q5
              simp only [List.length_append, List.length_cons, List.length_nil] at q3 q4 q5
              have hnF : ∀ j, H.length ≤ j → j ∉ F := fun j hj hm => by have := Rp.lt hs _ hm; omega
              have e1 := q4 (H.length + 1) (by omega) (hnF _ (by omega))
              have e2 := q4 (H.length + 2) (by omega) (hnF _ (by omega))
              simp [List.getElem?_append] at e1 e2
              obtain ⟨a1, z1, rfl⟩ := q1.form
              rw [List.length_append, List.length_singleton] at q1
              have hset1 : ∀ b : Blk, (H1.set (H.length + 1) b)[H.length + 1]? = some b := fun b => List.getElem?_set_self (by omega)
              have hset2 : ∀ b c : Blk, ((H1.set (H.length + 1) b).set (H.length + 2) c)[H.length + 2]? = some c := fun b c => List.getElem?_set_self (by simp; omega)
              have hset3 : ∀ b : Blk, (H1.set (H.length + 1) b)[H.length + 2]? = H1[H.length + 2]? := fun b => List.getElem?_set_ne (by omega)
              simp +contextual (dsimp := false) [goB_of e1, e1, goB_of e2, e2, hset1, hset2, hset3]
              refine ⟨⟨by simp; omega, fun j hj hm => ?_⟩, ?_⟩
              · rw [List.getElem?_set_ne (by omega), List.getElem?_set_ne (by omega)]
                exact (q4 j (by omega) hm).trans (get_ext hj)
              · rw [if_neg hlk]
                simp only [answ, hh, hc]
                have hsub : ∀ j ∈ F1, j ≠ H.length + 1 ∧ j ≠ H.length + 2 := fun j hj => by
                  rcases q5 j hj with h | h | h
                  · have := Rp.lt hs _ h; omega
                  · cases h
                  · omega
                exact ⟨_, ⟨by simp, rfl, by simp, by simp⟩, F1, Rp.fr q1 fun j hj => by rw [List.getElem?_set_ne (Ne.symm (hsub j hj).2), List.getElem?_set_ne (Ne.symm (hsub j hj).1)], q2⟩
            · simp +contextual (dsimp := false) [hc]
              refine CallK.of ⟨_, Tryz.func217, rfl, rfl⟩ (l1End_ac 5 nm _) ?_
              rintro v S' ⟨rfl, he⟩
              obtain ⟨X, rfl⟩ := he.split
              simp +contextual (dsimp := false)
              refine ⟨FrS.of_ext (Ext.app _ _), ?_⟩
              rw [if_neg hlk]
              simp only [answ, hh]
              simp [hc]
              exact ⟨_, _, _, _, _, rfl⟩
        · simp +contextual (dsimp := false)
          have hfl : (flagT rs[lk1].has).length ≤ 1 := by unfold flagT; split <;> simp
          refine CallK.fl ⟨_, Tryz.func185, rfl, rfl⟩ (l1Flag_ac _ _) ?_
          simp +contextual (dsimp := false)
          refine AppK.one (R := strR) (l := st1) (ex := 9) (fx := (0, 0)) (ox := true) (base := base) (x := flagT rs[lk1].has) (cx := [str (flagT rs[lk1].has)]) (Fx := []) slt24 und24 (Rp.ext hs (Ext.app _ _)) hf (by simp) ⟨rfl, rfl, by unfold okS; omega⟩ (Fresh.nil _) (by simp) (by simp; omega) (by omega) (by omega) ?_
          intro s1 H1 F1 q1 q2 q3 q4 q5
          simp only [List.length_append, List.length_cons, List.length_nil] at q3 q4 q5
          have hnF : ∀ j, H.length ≤ j → j ∉ F := fun j hj hm => by have := Rp.lt hs _ hm; omega
          have e1 := q4 (H.length + 1) (by omega) (hnF _ (by omega))
          have e2 := q4 (H.length + 2) (by omega) (hnF _ (by omega))
          simp [List.getElem?_append] at e1 e2
          obtain ⟨a1, z1, rfl⟩ := q1.form
          rw [List.length_append, List.length_singleton] at q1
          have hset1 : ∀ b : Blk, (H1.set (H.length + 1) b)[H.length + 1]? = some b := fun b => List.getElem?_set_self (by omega)
          have hset2 : ∀ b c : Blk, ((H1.set (H.length + 1) b).set (H.length + 2) c)[H.length + 2]? = some c := fun b c => List.getElem?_set_self (by simp; omega)
          have hset3 : ∀ b : Blk, (H1.set (H.length + 1) b)[H.length + 2]? = H1[H.length + 2]? := fun b => List.getElem?_set_ne (by omega)
          simp +contextual (dsimp := false) [goB_of e1, e1, goB_of e2, e2, hset1, hset2, hset3]
          refine ⟨⟨by simp; omega, fun j hj hm => ?_⟩, ?_⟩
          · rw [List.getElem?_set_ne (by omega), List.getElem?_set_ne (by omega)]
            exact (q4 j (by omega) hm).trans (get_ext hj)
          · rw [if_neg hlk]
            simp only [answ]
            have hsub : ∀ j ∈ F1, j ≠ H.length + 1 ∧ j ≠ H.length + 2 := fun j hj => by
              rcases q5 j hj with h | h | h
              · have := Rp.lt hs _ h; omega
              · cases h
              · omega
            exact ⟨_, ⟨by simp, rfl, by simp, by simp⟩, F1, Rp.fr q1 fun j hj => by rw [List.getElem?_set_ne (Ne.symm (hsub j hj).2), List.getElem?_set_ne (Ne.symm (hsub j hj).1)], q2⟩
end Go.Proofs.YtephpieeibcihaaGreatDoor
namespace Go.Proofs.YtephpieeibcihaaGreatDoor
open Go Go.Am Go.Proofs
set_option maxRecDepth 20000
variable {ng : Nat}
def topA (op : Int) (s : List (List UInt8)) : List UInt8 := if 0 < (takesOf op).1 then top1 s else []
def topB (op : Int) (s : List (List UInt8)) : List UInt8 := if 1 < (takesOf op).1 then top2 s else []
def atN (x : Ins) (m : Mst) : Int := if x.op = 10 then x.n else if x.op = 11 then (if falseT (topA x.op m.stk) then x.n else m.at_ + 1) else m.at_ + 1
theorem take_top2 {s : List (List UInt8)} (h : ¬ s = []) : s.take (s.length - 1) ++ [top1 s, top1 s] = s ++ [top1 s] := by
  have h0 : s.length ≠ 0 := fun h' => h (List.length_eq_zero_iff.1 h')
  have e : s.take (s.length - 1) ++ [top1 s] = s := by
    have h1 : top1 s = s[s.length - 1] := by simp [top1, List.getD, show s.length - 1 < s.length by omega]
    rw [h1, ← List.take_succ_eq_append_getElem (by omega), List.take_of_length_le (by omega)]
  rw [show s.take (s.length - 1) ++ [top1 s, top1 s] = (s.take (s.length - 1) ++ [top1 s]) ++ [top1 s] by simp, e]
theorem doIns_alt {x : Ins} {m : Mst} (hx : x.valid = true) (hl : m.stk.length ≤ 50) (ht : ∀ t ∈ m.stk, t.length ≤ 2000) :
    doIns x m = if m.stk.length < (takesOf x.op).1 ∨ 50 < m.stk.length - (takesOf x.op).1 + (takesOf x.op).2 then .fin 2 (decN m.at_) m.steps
      else if x.op = 15 then .fin 0 (topA x.op m.stk) m.steps else if x.op = 14 then .fin 1 (topA x.op m.stk) m.steps
      else if x.op = 12 ∨ x.op = 13 then (if nameOk (topA x.op m.stk) = false then .fin 2 (decN m.at_) m.steps else if m.looks = 200 then .fin 3 [] m.steps else .look (decide (x.op = 12)) (topA x.op m.stk) ⟨m.at_, m.stk.take (m.stk.length - (takesOf x.op).1), m.steps, m.looks + 1⟩)
      else if ((plainL x (topA x.op m.stk) (topB x.op m.stk)).any fun t => decide (2000 < t.length)) then .fin 2 (decN m.at_) m.steps
      else .go ⟨(atN x m).toNat, m.stk.take (m.stk.length - (takesOf x.op).1) ++ plainL x (topA x.op m.stk) (topB x.op m.stk), m.steps, m.looks⟩ := by
  obtain ⟨v1, v2, v3, v4, v5, v6, v7⟩ := valid_parts hx
  obtain ⟨op, tx, xn⟩ := x
  obtain ⟨at1, st1, sp1, lk1⟩ := m
  dsimp only at v1 v2 v3 v4 v5 v6 v7 hl ht ⊢
  have ha := top1_len ht
  have hb := top2_len ht
  have hopx : op = 1 ∨ op = 2 ∨ op = 3 ∨ op = 4 ∨ op = 5 ∨ op = 6 ∨ op = 7 ∨ op = 8 ∨ op = 9 ∨ op = 10 ∨ op = 11 ∨ op = 12 ∨ op = 13 ∨ op = 14 ∨ op = 15 := by omega
  have hw := wordAt_len (top1 st1) xn.toNat
  have hfl : (flagT (decide (top1 st1 = top2 st1))).length ≤ 1 := by unfold flagT; split <;> simp
  rcases hopx with rfl | rfl | rfl | rfl | rfl | rfl | rfl | rfl | rfl | rfl | rfl | rfl | rfl | rfl | rfl
  all_goals simp [doIns, needOf, putOf, moveM, lookM, pushM, takesOf, topA, topB, plainL, atN, cut1, cut2]
  all_goals repeat' split
  all_goals first
    | rfl
    | omega
    | (simp; omega)
    | (exfalso; simp_all; done)
    | (exfalso; simp_all; omega)
    | (rename_i h _ _ _; rw [← take_top2 h])
    | skip
theorem takes_le (op : Int) : (takesOf op).1 ≤ 2 ∧ (takesOf op).2 ≤ 2 := by
  unfold takesOf
  repeat' split
  all_goals simp
theorem plainL_len (x : Ins) (a b : List UInt8) (h1 : x.op ≠ 12) (h2 : x.op ≠ 13) : (plainL x a b).length = (takesOf x.op).2 := by
  unfold plainL takesOf
  repeat' split
  all_goals first | rfl | (exfalso; omega)
theorem look_key {Hx H S' : Heap} {v : Value} {rs : List Rpl} {ask : Bool} {nm pl : List UInt8} {m : Mst} {base : Nat} (hb : H.length ≤ base)
    (h : if nameOk nm = false then RunR Hx S' v (.fin 2 pl m.steps) else if m.looks = 200 then RunR Hx S' v (.fin 3 [] m.steps) else
        match stepS rs (.look ask nm ⟨m.at_, m.stk, m.steps, m.looks + 1⟩) with
        | .go m' => ∃ sv F, v = .agg (runC m'.at_ sv m'.steps m'.looks false 0 [] false [] false) ∧ StrsR true S' m'.stk [sv] F ∧ Fresh base F
        | o => RunR Hx S' v o) :
    ∃ (at_ : Int) (b : Option Addr) (l z : Nat) (st lk : Int) (ov : Bool) (c : Int) (t : List UInt8) (ak : Bool) (n : List UInt8) (w : Bool), v = .agg (runC at_ (.slice b l z) st lk ov c t ak n w) ∧
      ∀ S'' : Heap, (∀ j, base ≤ j → S''[j]? = S'[j]?) → RunR H S'' v (stepS rs (if nameOk nm = false then .fin 2 pl m.steps else if m.looks = 200 then .fin 3 [] m.steps else .look ask nm ⟨m.at_, m.stk, m.steps, m.looks + 1⟩)) := by
  by_cases h1 : nameOk nm = false
  · rw [if_pos h1] at h ⊢
    obtain ⟨at_, a, l, z, lk, rfl⟩ := h
    exact ⟨_, _, _, _, _, _, _, _, _, _, _, _, rfl, fun S'' _ => ⟨at_, a, l, z, lk, rfl⟩⟩
  · rw [if_neg h1] at h ⊢
    by_cases h2 : m.looks = 200
    · rw [if_pos h2] at h ⊢
      obtain ⟨at_, a, l, z, lk, rfl⟩ := h
      exact ⟨_, _, _, _, _, _, _, _, _, _, _, _, rfl, fun S'' _ => ⟨at_, a, l, z, lk, rfl⟩⟩
    · rw [if_neg h2] at h ⊢
      cases ho : stepS rs (.look ask nm ⟨m.at_, m.stk, m.steps, m.looks + 1⟩) with
      | go m' =>
        rw [ho] at h
        obtain ⟨sv, F, rfl, q1, q2⟩ := h
        obtain ⟨a, z, rfl⟩ := q1.form
        exact ⟨_, _, _, _, _, _, _, _, _, _, _, _, rfl, fun S'' hS => ⟨_, F, rfl, Rp.fr q1 fun j hj => hS j (q2.1 j hj), q2.weak hb⟩⟩
      | fin c t n =>
        rw [ho] at h
        obtain ⟨at_, a, l, z, lk, rfl⟩ := h
        exact ⟨_, _, _, _, _, _, _, _, _, _, _, _, rfl, fun S'' _ => ⟨at_, a, l, z, lk, rfl⟩⟩
      | look a nm' m' =>
        rw [ho] at h
        obtain ⟨at_, a, l, z, lk, rfl⟩ := h
        exact ⟨_, _, _, _, _, _, _, _, _, _, _, _, rfl, fun S'' _ => ⟨at_, a, l, z, lk, rfl⟩⟩
set_option maxHeartbeats 4000000 in
theorem l1Step_ac {own own2 : Bool} {code : List Ins} {m : Mst} {rs : List Rpl} {sv cv s2 : Value} {F FC F2 : List Nat} {H : Heap} (hs : StrsR true H m.stk [sv] F) (hc : CodeR own H code [cv] FC) (hr : RplsR own2 H rs [s2] F2)
    (hv : validP code = true) (hk : Mok m) :
    AC Tryz.prog ng 171 [.agg #[cv], .agg (runC m.at_ sv m.steps m.looks false 0 [] false [] false), s2] H fun v S' => Ext H S' ∧ RunR H S' v (stepS rs (mstep code m)) := by
  have hcl := validP_len hv
  obtain ⟨at1, st1, sp1, lk1⟩ := m
  have hk1 := hk.at_
  have hk2 := hk.steps
  have hk3 := hk.len
  have hk4 := hk.txt
  have hk5 := hk.looks
  dsimp only at hs hk1 hk2 hk3 hk4 hk5 ⊢
  obtain ⟨a, z, rfl⟩ := hs.form
  obtain ⟨ac, zc, rfl⟩ := hc.form
  obtain ⟨a2, z2, rfl⟩ := hr.form
  have hms : mstep code ⟨at1, st1, sp1, lk1⟩ = if code.length ≤ at1 then .fin 2 (decN at1) sp1 else if sp1 = 2000 then .fin 3 [] sp1 else doIns (insAt code at1) ⟨at1, st1, sp1 + 1, lk1⟩ := rfl
  rw [hms]
  refine AC.go [] Tryz.func171 rfl Tryz.ntmps171 rfl ⟨mixed, by kernel_rfl⟩ ?_
  simp +contextual (dsimp := false)
  refine CallK.fl ⟨_, Tryz.func97, rfl, rfl⟩ (l1Dec_ac (at1 + 1) at1 (by omega) (by omega) _ rfl _) ?_
  by_cases c1 : code.length ≤ at1
  · have c1' : (code.length : Int) ≤ at1 := by omega
    rw [if_pos c1]
    simp +contextual (dsimp := false) [c1']
    refine CallK.of ⟨_, Tryz.func217, rfl, rfl⟩ (l1End_ac 2 _ _) ?_
    rintro v S' ⟨rfl, he⟩
    obtain ⟨X, rfl⟩ := he.split
    simp +contextual (dsimp := false)
    exact ⟨_, _, _, _, _, rfl⟩
  · rw [if_neg c1]
    have c1' : ¬ (code.length : Int) ≤ at1 := by omega
    by_cases c2 : sp1 = 2000
    · rw [if_pos c2]
      have c2' : (sp1 : Int) = 2000 := by omega
      simp +contextual (dsimp := false) [c1', c2']
      refine CallK.of ⟨_, Tryz.func217, rfl, rfl⟩ (l1End_ac 3 [] _) ?_
      rintro v S' ⟨rfl, he⟩
      obtain ⟨X, rfl⟩ := he.split
      simp +contextual (dsimp := false)
      exact ⟨at1, a, st1.length, z, lk1, by rw [c2]; rfl⟩
    · rw [if_neg c2]
      have c2' : ¬ (sp1 : Int) = 2000 := by omega
      have hvx := validP_all hv (List.getElem_mem (show at1 < code.length by omega))
      obtain ⟨id, o, c, e, f, ow, cs, Fi, E⟩ := SlR.get hc at1 (by omega)
      obtain ⟨rfl, rfl, hok⟩ := E.rep
      rw [insAt_lt (show at1 < code.length by omega), doIns_alt hvx hk3 hk4]
      have hix := E.idx
      generalize code[at1] = x at E hvx hok ⊢
      obtain ⟨op, tx, xn⟩ := x
      obtain ⟨v1, v2, v3, v4, v5, v6, v7⟩ := valid_parts hvx
      dsimp only at v1 v2 v3 v4 v5 v6 v7 ⊢
      have hT : ∀ T : Heap, (H ++ T)[id]? = _ := fun T => (List.getElem?_append_left E.lt).trans E.blk
      simp +contextual (dsimp := false) [c1', c2', hix, E.goB, E.le, E.lt, E.ext, hT, Ins.c, wrap_succ (show sp1 < 9223372036854775807 by omega)]
      refine CallK.fl ⟨_, Tryz.func218, rfl, rfl⟩ (l1Takes_ac _ _) ?_
      obtain ⟨t1, t2⟩ := takes_le op
      have tp := plainL_len ⟨op, tx, xn⟩ (topA op st1) (topB op st1)
      have htA : topA op st1 = if 0 < (takesOf op).1 then top1 st1 else [] := rfl
      have htB : topB op st1 = if 1 < (takesOf op).1 then top2 st1 else [] := rfl
      dsimp only at tp
      generalize htk0 : (takesOf op).1 = tk at t1 htA htB ⊢
      generalize hpt0 : (takesOf op).2 = pt at t2 tp ⊢
      by_cases d1 : st1.length < tk
      · have d1' : (st1.length : Int) < tk := by omega
        simp +contextual (dsimp := false) [d1']
        refine CallK.of ⟨_, Tryz.func217, rfl, rfl⟩ (l1End_ac 2 _ _) ?_
        rintro v S' ⟨rfl, he⟩
        obtain ⟨X, rfl⟩ := he.split
        simp +contextual (dsimp := false)
        rw [if_pos (Or.inl d1)]
        exact ⟨_, _, _, _, _, rfl⟩
      · have d1' : ¬ (st1.length : Int) < tk := by omega
        have hw1 : IntKind.i64.wrap ((st1.length : Int) - tk) = ((st1.length - tk : Nat) : Int) := by rw [wrap_of _ (by omega) (by omega)]; omega
        have hw2 : IntKind.i64.wrap (((st1.length - tk : Nat) : Int) + pt) = ((st1.length - tk + pt : Nat) : Int) := by rw [wrap_of _ (by omega) (by omega)]; omega
        by_cases d2 : 50 < st1.length - tk + pt
        · have d2' : (50 : Int) < IntKind.i64.wrap (((st1.length - tk : Nat) : Int) + pt) := by rw [hw2]; omega
          simp +contextual (dsimp := false) [d1', hw1, d2']
          refine CallK.of ⟨_, Tryz.func217, rfl, rfl⟩ (l1End_ac 2 _ _) ?_
          rintro v S' ⟨rfl, he⟩
          obtain ⟨X, rfl⟩ := he.split
          simp +contextual (dsimp := false)
          rw [if_pos (Or.inr d2)]
          exact ⟨_, _, _, _, _, rfl⟩
        · have d2' : ¬ (50 : Int) < IntKind.i64.wrap (((st1.length - tk : Nat) : Int) + pt) := by rw [hw2]; omega
          rw [if_neg (by omega)]
          have hbd := hs.bound
          obtain ⟨sl, Fl, hcl0⟩ := hs.weak.cut (P := Tryz.prog) (et := 9) 0 (st1.length - tk) (by omega) (by omega) siz9
          obtain ⟨hcut, -, -, -, -, -, hsl⟩ := hcl0 (fun h => by cases h)
          clear hcl0
          replace hsl := hsl rfl
          rw [List.drop_zero] at hcut
          obtain ⟨al, zl, rfl⟩ := hcut.form
          rw [List.length_take, Nat.min_eq_left (by omega)] at hcut hsl
          have hwn := wrap_nat (n := st1.length) (by omega)
          have htk : tk = 0 ∨ tk = 1 ∨ tk = 2 := by omega
          rcases htk with rfl | rfl | rfl
          · have n1 : ¬ (st1.length : Int) < 0 := by omega
            have n2 : ¬ (50 : Int) < IntKind.i64.wrap ((st1.length : Int) + pt) := by rw [wrap_of _ (by omega) (by omega)]; omega
            rw [Nat.sub_zero] at hsl hcut
            simp +contextual (dsimp := false) [n1, n2, hwn, hsl]
            obtain ⟨bs, hbs⟩ : ∃ l, l = st1.take (st1.length - 0) := ⟨_, rfl⟩
            have hbl : bs.length = st1.length - 0 := by rw [hbs]; simp
            rw [show st1.take st1.length = bs by rw [hbs, Nat.sub_zero]] at hcut
            rw [← hbs]
            have hA : topA op st1 = ([] : List UInt8) := by rw [htA]; simp
            have hB : topB op st1 = ([] : List UInt8) := by rw [htB]; simp
            rw [hA] at tp ⊢
            rw [hB] at tp ⊢
            have hAl : ([] : List UInt8).length ≤ 2000 := by simp
            have hBl : ([] : List UInt8).length ≤ 2000 := by simp
            refine AppK.many (R := strR) (base := H.length + 4) (l := []) (l2 := bs) slt24 und24 (SlR.mt (R := strR) (e := 9) (f := (0, 0)) (j := H.length + 4) (by simp)) (Fresh.one (by omega)) (Rp.ext hcut (Ext.app _ _)) (by rw [hcut.flatF]; exact Fresh.nil _) (by rw [hcut.flatF]; simp) (by simp) (by simp; omega) (by decide) ?_
            intro s1 H1 F1 q1 q2 q3 q4 q5
            rw [List.nil_append] at q1
            simp only [List.length_append, List.length_cons, List.length_nil] at q3 q4 q5
            have e1 := q4 (H.length + 1) (by omega) (by simp)
            have e2 := q4 (H.length + 2) (by omega) (by simp)
            have e3 := q4 (H.length + 3) (by omega) (by simp)
            have e4 : ∀ j, j < H.length → H1[j]? = H[j]? := fun j hj => (q4 j (by omega) (by simp; omega)).trans (get_ext hj)
            simp [List.getElem?_append] at e1 e2 e3
            obtain ⟨a1, z1, rfl⟩ := q1.form
            simp +contextual (dsimp := false) [goB_of e1, e1, wrap_succ (show at1 < 9223372036854775807 by omega)]
            obtain ⟨H2, hH2⟩ : ∃ H2, H2 = H1.set (H.length + 1) (⟨.cells #[.int .i64 ((at1 : Int) + 1), .slice a st1.length z, .int .i64 ((sp1 : Int) + 1), .int .i64 (lk1 : Int), .bool false, .int .i64 0, .string ⟨⟨[]⟩⟩, .bool false, .string ⟨⟨[]⟩⟩, .bool false] 247 (0, 0), true, true⟩ : Blk) := ⟨_, rfl⟩
            rw [← hH2]
            have f1 : H2[H.length + 1]? = some (⟨.cells #[.int .i64 ((at1 : Int) + 1), .slice a st1.length z, .int .i64 ((sp1 : Int) + 1), .int .i64 (lk1 : Int), .bool false, .int .i64 0, .string ⟨⟨[]⟩⟩, .bool false, .string ⟨⟨[]⟩⟩, .bool false] 247 (0, 0), true, true⟩ : Blk) := by rw [hH2]; exact List.getElem?_set_self (by omega)
            have f2 : H2[H.length + 2]? = _ := (by rw [hH2]; exact List.getElem?_set_ne (by omega) : H2[H.length + 2]? = H1[H.length + 2]?).trans e2
            have f3 : H2[H.length + 3]? = _ := (by rw [hH2]; exact List.getElem?_set_ne (by omega) : H2[H.length + 3]? = H1[H.length + 3]?).trans e3
            have f4 : ∀ j, j < H.length → H2[j]? = H[j]? := fun j hj => (by rw [hH2]; exact List.getElem?_set_ne (by omega) : H2[j]? = H1[j]?).trans (e4 j hj)
            have f5 : H.length + 5 ≤ H2.length := by rw [hH2]; simp; omega
            have hF1 : ∀ j ∈ F1, H.length + 4 ≤ j := q2.1
            have hb2 : StrsR true H2 bs [.slice a1 bs.length z1] F1 := Rp.fr q1 fun j hj => by rw [hH2]; exact List.getElem?_set_ne (by have := hF1 j hj; omega)
            clear hH2 e1 e2 q4 q1
            by_cases h10 : op = 10
            · subst h10
              simp +contextual (dsimp := false) [goB_of f1, f1, goB_of f3, f3, e3]
              obtain ⟨H3, hH3⟩ : ∃ H3, H3 = H2.set (H.length + 1) (⟨.cells #[.int .i64 xn, .slice a st1.length z, .int .i64 ((sp1 : Int) + 1), .int .i64 (lk1 : Int), .bool false, .int .i64 0, .string ⟨⟨[]⟩⟩, .bool false, .string ⟨⟨[]⟩⟩, .bool false] 247 (0, 0), true, true⟩ : Blk) := ⟨_, rfl⟩
              have k1 : H3[H.length + 1]? = some (⟨.cells #[.int .i64 xn, .slice a st1.length z, .int .i64 ((sp1 : Int) + 1), .int .i64 (lk1 : Int), .bool false, .int .i64 0, .string ⟨⟨[]⟩⟩, .bool false, .string ⟨⟨[]⟩⟩, .bool false] 247 (0, 0), true, true⟩ : Blk) := by rw [hH3]; exact List.getElem?_set_self (by omega)
              have k0 : ∀ j, j ≠ H.length + 1 → H3[j]? = H2[j]? := fun j hj => by rw [hH3]; exact List.getElem?_set_ne (Ne.symm hj)
              have k2 := (k0 (H.length + 2) (by omega)).trans f2
              have k3 := (k0 (H.length + 3) (by omega)).trans f3
              have k5 : H.length + 5 ≤ H3.length := by rw [hH3]; simpa using f5
              have k4 : ∀ j, j < H.length → H3[j]? = H[j]? := fun j hj => (k0 j (by omega)).trans (f4 j hj)
              have hb3 : StrsR true H3 bs [.slice a1 bs.length z1] F1 := Rp.fr hb2 fun j hj => k0 j (by have := hF1 j hj; omega)
              rw [← hH3]
              clear hH3
              have hpl : (plainL ⟨10, tx, xn⟩ ([] : List UInt8) ([] : List UInt8)).length = pt := tp (by omega) (by omega)
              have hpt : pt = 0 := by rw [← hpt0]; simp [takesOf]
              refine LoopA.up (σ := Nat × Heap × Value × List Nat) [4, 6, 7, 8, 10, 11, 12, 13, 14] (fun i => [(13, i.2.2.1), (14, int i.1)]) (fun i => i.2.1)
                (fun x => x.1 ≤ pt ∧ H.length + 5 ≤ x.2.1.length ∧ (∀ j, j < H.length + 4 → x.2.1[j]? = H3[j]?) ∧ StrsR true x.2.1 (bs ++ (plainL ⟨10, tx, xn⟩ ([] : List UInt8) ([] : List UInt8)).take x.1) [x.2.2.1] x.2.2.2 ∧ Fresh (H.length + 4) x.2.2.2 ∧ ∀ t ∈ (plainL ⟨10, tx, xn⟩ ([] : List UInt8) ([] : List UInt8)).take x.1, t.length ≤ 2000) (fun i => pt - i.1) (0, H3, .slice a1 bs.length z1, F1) rfl ⟨by simp, k5, fun _ _ => rfl, by simpa using hb3, q2, by simp⟩ ?_
              rintro ⟨i, hp, sv, FB⟩ ⟨hi, hlen, hkp, hrr, hfB, htx⟩
              dsimp only at hi hlen hkp hrr hfB htx
              obtain ⟨a3, z3, rfl⟩ := hrr.form
              rw [List.length_append, List.length_take] at hrr
              have g1 := (hkp (H.length + 1) (by omega)).trans k1
              have g2 := (hkp (H.length + 2) (by omega)).trans k2
              have g3 := (hkp (H.length + 3) (by omega)).trans k3
              have g4 : ∀ j, j < H.length → hp[j]? = H[j]? := fun j hj => (hkp j (by omega)).trans (k4 j hj)
              simp +contextual (dsimp := false) [goB_of g3, g3]
              refine ifA_dec (fun h3 => ?_) (fun h3 => ?_)
              · omega
              · obtain rfl : i = pt := by omega
                rw [List.take_of_length_le (by omega)] at hrr htx
                have hset1 : ∀ b : Blk, (hp.set (H.length + 1) b)[H.length + 1]? = some b := fun b => List.getElem?_set_self (by omega)
                have hset2 : ∀ b c : Blk, ((hp.set (H.length + 1) b).set (H.length + 2) c)[H.length + 2]? = some c := fun b c => List.getElem?_set_self (by simp; omega)
                have hset3 : ∀ b : Blk, (hp.set (H.length + 1) b)[H.length + 2]? = hp[H.length + 2]? := fun b => List.getElem?_set_ne (by omega)
                simp +contextual (dsimp := false) [goB_of g1, g1, goB_of g2, g2, hset1, hset2, hset3]
                refine ⟨fun j hj => ?_, ?_⟩
                · rw [List.getElem?_set_ne (by omega), List.getElem?_set_ne (by omega)]
                  exact g4 j hj
                · refine ⟨_, FB, ?_, Rp.fr hrr fun j hj => by rw [List.getElem?_set_ne (by have := hfB.1 j hj; omega), List.getElem?_set_ne (by have := hfB.1 j hj; omega)], hfB.weak (by omega)⟩
                  simp [atN, Int.toNat_of_nonneg v5]
            · have hop : op = 1 := by
                unfold takesOf at htk0
                repeat' split at htk0
                all_goals first | omega | (simp at htk0; done)
              have h11 : ¬ op = 11 := by omega
              have h15 : ¬ op = 15 := by omega
              have h14 : ¬ op = 14 := by omega
              have h12 : ¬ op = 12 := by omega
              have h13 : ¬ op = 13 := by omega
              simp +contextual (dsimp := false) [goB_of f1, f1, goB_of f3, f3, e3, h15, h14, h12, h13, h10, h11]
              have hpl : (plainL ⟨op, tx, xn⟩ ([] : List UInt8) ([] : List UInt8)).length = pt := tp (by omega) (by omega)
              refine LoopA.up (σ := Nat × Heap × Value × List Nat) [4, 6, 7, 8, 10, 11, 12, 13, 14] (fun i => [(13, i.2.2.1), (14, int i.1)]) (fun i => i.2.1)
                (fun x => x.1 ≤ pt ∧ H.length + 5 ≤ x.2.1.length ∧ (∀ j, j < H.length + 4 → x.2.1[j]? = H2[j]?) ∧ StrsR true x.2.1 (bs ++ (plainL ⟨op, tx, xn⟩ ([] : List UInt8) ([] : List UInt8)).take x.1) [x.2.2.1] x.2.2.2 ∧ Fresh (H.length + 4) x.2.2.2 ∧ ∀ t ∈ (plainL ⟨op, tx, xn⟩ ([] : List UInt8) ([] : List UInt8)).take x.1, t.length ≤ 2000) (fun i => pt - i.1) (0, H2, .slice a1 bs.length z1, F1) rfl ⟨by simp, f5, fun _ _ => rfl, by simpa using hb2, q2, by simp⟩ ?_
              rintro ⟨i, hp, sv, FB⟩ ⟨hi, hlen, hkp, hrr, hfB, htx⟩
              dsimp only at hi hlen hkp hrr hfB htx
              obtain ⟨a3, z3, rfl⟩ := hrr.form
              rw [List.length_append, List.length_take] at hrr
              have g1 := (hkp (H.length + 1) (by omega)).trans f1
              have g2 := (hkp (H.length + 2) (by omega)).trans f2
              have g3 := (hkp (H.length + 3) (by omega)).trans f3
              have g4 : ∀ j, j < H.length → hp[j]? = H[j]? := fun j hj => (hkp j (by omega)).trans (f4 j hj)
              simp +contextual (dsimp := false) [goB_of g3, g3]
              refine ifA_dec (fun h3 => ?_) (fun h3 => ?_)
              · refine CallK.of ⟨_, Tryz.func220, rfl, rfl⟩ (l1Plain_ac (x := ⟨op, tx, xn⟩) (a := ([] : List UInt8)) (b := ([] : List UInt8)) hvx hAl hBl) ?_
                rintro v S' ⟨F', he, hv', hf'⟩
                obtain ⟨a4, z4, rfl⟩ := hv'.form
                have hlS := he.le
                obtain ⟨id6, o6, c6, e6, f6, ow6, cs6, Fi6, E6⟩ := SlR.get hv' i (by omega)
                obtain ⟨rfl, rfl, hok6⟩ := E6.rep
                have hc6 := E6.cell0 (by omega)
                have r1 := (he (H.length + 1) (by omega)).trans g1
                have r2 := (he (H.length + 2) (by omega)).trans g2
                by_cases hbig : 2000 < ((plainL ⟨op, tx, xn⟩ ([] : List UInt8) ([] : List UInt8))[i]).length
                · have hbig' : (2000 : Int) < ((plainL ⟨op, tx, xn⟩ ([] : List UInt8) ([] : List UInt8))[i]).length := by omega
                  simp +contextual (dsimp := false) [E6.idx, E6.goB, E6.le, E6.lt, E6.ext, hc6, hbig', goB_of r1, r1, goB_of r2, r2]
                  refine CallK.of ⟨_, Tryz.func217, rfl, rfl⟩ (l1End_ac 2 _ _) ?_
                  rintro v S2 ⟨rfl, he2⟩
                  have s2 := (he2 (H.length + 2) (by omega)).trans r2
                  have hlS2 := he2.le
                  have hset2 : ∀ b : Blk, (S2.set (H.length + 2) b)[H.length + 2]? = some b := fun b => List.getElem?_set_self (by omega)
                  simp +contextual (dsimp := false) [goB_of s2, s2, hset2]
                  refine ⟨fun j hj => ?_, ?_⟩
                  · rw [List.getElem?_set_ne (by omega)]
                    exact (he2 j (by omega)).trans ((he j (by omega)).trans (g4 j hj))
                  · rw [if_neg (by omega), if_neg (by omega), if_neg (by omega), if_pos ⟨_, List.getElem_mem (show i < (plainL ⟨op, tx, xn⟩ ([] : List UInt8) ([] : List UInt8)).length by omega), hbig⟩]
                    exact ⟨_, _, _, _, _, rfl⟩
                · have hbig' : ¬ (2000 : Int) < ((plainL ⟨op, tx, xn⟩ ([] : List UInt8) ([] : List UInt8))[i]).length := by omega
                  simp +contextual (dsimp := false) [E6.idx, E6.goB, E6.le, E6.lt, E6.ext, hc6, hbig', goB_of r1, r1, goB_of r2, r2]
                  refine AppK.one (R := strR) (l := bs ++ (plainL ⟨op, tx, xn⟩ ([] : List UInt8) ([] : List UInt8)).take i) (F := FB) (ex := 9) (fx := (0, 0)) (ox := true) (base := H.length + 4) (x := (plainL ⟨op, tx, xn⟩ ([] : List UInt8) ([] : List UInt8))[i]) (cx := [str ((plainL ⟨op, tx, xn⟩ ([] : List UInt8) ([] : List UInt8))[i])]) (Fx := []) slt24 und24 (Rp.ext (Rp.ext hrr he) (Ext.app _ _)) hfB (by simp) ⟨rfl, rfl, hok6⟩ (Fresh.nil _) (by simp) (by simp; omega) (by simp; omega) (by decide) ?_
                  intro s1 H5 F5 u1 u2 u3 u4 u5
                  simp only [List.length_append, List.length_cons, List.length_nil, List.length_singleton] at u3 u4 u5
                  simp +contextual (dsimp := false) [wrap_succ (show i < 9223372036854775807 by omega)]
                  refine LoopN.of (i + 1, H5, s1, F5) rfl ⟨by dsimp only; omega, by dsimp only; omega, fun j hj => (u4 j (by omega) (fun hm => by have := hfB.1 _ hm; omega)).trans ((get_ext (by omega)).trans ((he j (by omega)).trans (hkp j hj))), ?_, u2, fun t ht => ?_⟩ (by dsimp only; omega)
                  · dsimp only
                    rw [List.take_succ_eq_append_getElem (by omega), ← List.append_assoc]
                    exact u1
                  · dsimp only at ht
                    rw [List.take_succ_eq_append_getElem (by omega)] at ht
                    rcases List.mem_append.1 ht with ht | ht
                    · exact htx t ht
                    · obtain rfl : t = (plainL ⟨op, tx, xn⟩ ([] : List UInt8) ([] : List UInt8))[i] := by simpa using ht
                      omega
              · obtain rfl : i = pt := by omega
                rw [List.take_of_length_le (by omega)] at hrr htx
                have hset1 : ∀ b : Blk, (hp.set (H.length + 1) b)[H.length + 1]? = some b := fun b => List.getElem?_set_self (by omega)
                have hset2 : ∀ b c : Blk, ((hp.set (H.length + 1) b).set (H.length + 2) c)[H.length + 2]? = some c := fun b c => List.getElem?_set_self (by simp; omega)
                have hset3 : ∀ b : Blk, (hp.set (H.length + 1) b)[H.length + 2]? = hp[H.length + 2]? := fun b => List.getElem?_set_ne (by omega)
                simp +contextual (dsimp := false) [goB_of g1, g1, goB_of g2, g2, hset1, hset2, hset3]
                refine ⟨fun j hj => ?_, ?_⟩
                · rw [List.getElem?_set_ne (by omega), List.getElem?_set_ne (by omega)]
                  exact g4 j hj
                · rw [if_neg (by omega), if_neg (by omega), if_neg (by omega), if_neg (fun hany => by
                    obtain ⟨t, ht1, ht2⟩ := hany
                    have := htx t ht1
                    omega)]
                  refine ⟨_, FB, ?_, Rp.fr hrr fun j hj => by rw [List.getElem?_set_ne (by have := hfB.1 j hj; omega), List.getElem?_set_ne (by have := hfB.1 j hj; omega)], hfB.weak (by omega)⟩
                  simp [atN, h10, h11]
                  try rfl
          · have hws1 : IntKind.i64.wrap ((st1.length : Int) - 1) = ((st1.length - 1 : Nat) : Int) := by rw [wrap_of _ (by omega) (by omega)]; omega
            obtain ⟨id1, o1, c3, e1, f1, ow1, cs1, Fi1, E1⟩ := SlR.get hs (st1.length - 1) (by omega)
            obtain ⟨rfl, rfl, hok1⟩ := E1.rep
            have hc1 := E1.cell0 (by omega)
            have htop1 : st1[st1.length - 1] = top1 st1 := by simp [top1, List.getD, show st1.length - 1 < st1.length by omega]
            have n1 : ¬ (st1.length : Int) < 1 := by omega
            have n2 : ¬ (50 : Int) < IntKind.i64.wrap (((st1.length - 1 : Nat) : Int) + pt) := by rw [wrap_of _ (by omega) (by omega)]; omega
            simp +contextual (dsimp := false) [n1, n2, hwn, hsl, hws1, E1.idx, E1.goB, E1.le, E1.lt, E1.ext, hc1, htop1]
            obtain ⟨bs, hbs⟩ : ∃ l, l = st1.take (st1.length - 1) := ⟨_, rfl⟩
            have hbl : bs.length = st1.length - 1 := by rw [hbs]; simp
            rw [← hbs] at hcut
            rw [← hbs]
            have hA : topA op st1 = (top1 st1) := by rw [htA]; simp
            have hB : topB op st1 = ([] : List UInt8) := by rw [htB]; simp
            rw [hA] at tp ⊢
            rw [hB] at tp ⊢
            have hAl : (top1 st1).length ≤ 2000 := by exact top1_len hk4
            have hBl : ([] : List UInt8).length ≤ 2000 := by simp
            refine AppK.many (R := strR) (base := H.length + 4) (l := []) (l2 := bs) slt24 und24 (SlR.mt (R := strR) (e := 9) (f := (0, 0)) (j := H.length + 4) (by simp)) (Fresh.one (by omega)) (Rp.ext hcut (Ext.app _ _)) (by rw [hcut.flatF]; exact Fresh.nil _) (by rw [hcut.flatF]; simp) (by simp) (by simp; omega) (by decide) ?_
            intro s1 H1 F1 q1 q2 q3 q4 q5
            rw [List.nil_append] at q1
            simp only [List.length_append, List.length_cons, List.length_nil] at q3 q4 q5
            have e1 := q4 (H.length + 1) (by omega) (by simp)
            have e2 := q4 (H.length + 2) (by omega) (by simp)
            have e3 := q4 (H.length + 3) (by omega) (by simp)
            have e4 : ∀ j, j < H.length → H1[j]? = H[j]? := fun j hj => (q4 j (by omega) (by simp; omega)).trans (get_ext hj)
            simp [List.getElem?_append] at e1 e2 e3
            obtain ⟨a1, z1, rfl⟩ := q1.form
            simp +contextual (dsimp := false) [goB_of e1, e1, wrap_succ (show at1 < 9223372036854775807 by omega)]
            obtain ⟨H2, hH2⟩ : ∃ H2, H2 = H1.set (H.length + 1) (⟨.cells #[.int .i64 ((at1 : Int) + 1), .slice a st1.length z, .int .i64 ((sp1 : Int) + 1), .int .i64 (lk1 : Int), .bool false, .int .i64 0, .string ⟨⟨[]⟩⟩, .bool false, .string ⟨⟨[]⟩⟩, .bool false] 247 (0, 0), true, true⟩ : Blk) := ⟨_, rfl⟩
            rw [← hH2]
            have f1 : H2[H.length + 1]? = some (⟨.cells #[.int .i64 ((at1 : Int) + 1), .slice a st1.length z, .int .i64 ((sp1 : Int) + 1), .int .i64 (lk1 : Int), .bool false, .int .i64 0, .string ⟨⟨[]⟩⟩, .bool false, .string ⟨⟨[]⟩⟩, .bool false] 247 (0, 0), true, true⟩ : Blk) := by rw [hH2]; exact List.getElem?_set_self (by omega)
            have f2 : H2[H.length + 2]? = _ := (by rw [hH2]; exact List.getElem?_set_ne (by omega) : H2[H.length + 2]? = H1[H.length + 2]?).trans e2
            have f3 : H2[H.length + 3]? = _ := (by rw [hH2]; exact List.getElem?_set_ne (by omega) : H2[H.length + 3]? = H1[H.length + 3]?).trans e3
            have f4 : ∀ j, j < H.length → H2[j]? = H[j]? := fun j hj => (by rw [hH2]; exact List.getElem?_set_ne (by omega) : H2[j]? = H1[j]?).trans (e4 j hj)
            have f5 : H.length + 5 ≤ H2.length := by rw [hH2]; simp; omega
            have hF1 : ∀ j ∈ F1, H.length + 4 ≤ j := q2.1
            have hb2 : StrsR true H2 bs [.slice a1 bs.length z1] F1 := Rp.fr q1 fun j hj => by rw [hH2]; exact List.getElem?_set_ne (by have := hF1 j hj; omega)
            clear hH2 e1 e2 q4 q1
            have h10 : ¬ op = 10 := by
              rintro rfl
              simp [takesOf] at htk0
            by_cases h15 : op = 15
            · subst h15
              simp +contextual (dsimp := false) [goB_of f1, f1, goB_of f3, f3, e3]
              refine CallK.of ⟨_, Tryz.func217, rfl, rfl⟩ (l1End_ac 0 _ _) ?_
              rintro v S' ⟨rfl, he⟩
              have g2 := (he (H.length + 2) (by omega)).trans f2
              have hlS := he.le
              have hset2 : ∀ b : Blk, (S'.set (H.length + 2) b)[H.length + 2]? = some b := fun b => List.getElem?_set_self (by omega)
              simp +contextual (dsimp := false) [goB_of g2, g2, hset2]
              refine ⟨fun j hj => ?_, ?_⟩
              · rw [List.getElem?_set_ne (by omega)]
                exact (he j (by omega)).trans (f4 j hj)
              · skip
                exact ⟨_, _, _, _, _, rfl⟩
            · by_cases h14 : op = 14
              · subst h14
                simp +contextual (dsimp := false) [goB_of f1, f1, goB_of f3, f3, e3]
                refine CallK.of ⟨_, Tryz.func217, rfl, rfl⟩ (l1End_ac 1 _ _) ?_
                rintro v S' ⟨rfl, he⟩
                have g2 := (he (H.length + 2) (by omega)).trans f2
                have hlS := he.le
                have hset2 : ∀ b : Blk, (S'.set (H.length + 2) b)[H.length + 2]? = some b := fun b => List.getElem?_set_self (by omega)
                simp +contextual (dsimp := false) [goB_of g2, g2, hset2]
                refine ⟨fun j hj => ?_, ?_⟩
                · rw [List.getElem?_set_ne (by omega)]
                  exact (he j (by omega)).trans (f4 j hj)
                · skip
                  exact ⟨_, _, _, _, _, rfl⟩
              · by_cases h12 : op = 12
                · subst h12
                  simp +contextual (dsimp := false) [goB_of f1, f1, goB_of f3, f3, e3]
                  obtain ⟨H3, hH3⟩ : ∃ H3, H3 = H2.set (H.length + 1) (⟨.cells #[.int .i64 ((at1 : Int) + 1), .slice a1 bs.length z1, .int .i64 ((sp1 : Int) + 1), .int .i64 (lk1 : Int), .bool false, .int .i64 0, .string ⟨⟨[]⟩⟩, .bool false, .string ⟨⟨[]⟩⟩, .bool false] 247 (0, 0), true, true⟩ : Blk) := ⟨_, rfl⟩
                  have g1 : H3[H.length + 1]? = some (⟨.cells #[.int .i64 ((at1 : Int) + 1), .slice a1 bs.length z1, .int .i64 ((sp1 : Int) + 1), .int .i64 (lk1 : Int), .bool false, .int .i64 0, .string ⟨⟨[]⟩⟩, .bool false, .string ⟨⟨[]⟩⟩, .bool false] 247 (0, 0), true, true⟩ : Blk) := by rw [hH3]; exact List.getElem?_set_self (by omega)
                  have g0 : ∀ j, j ≠ H.length + 1 → H3[j]? = H2[j]? := fun j hj => by rw [hH3]; exact List.getElem?_set_ne (Ne.symm hj)
                  have g2 := (g0 (H.length + 2) (by omega)).trans f2
                  have g3 := (g0 (H.length + 3) (by omega)).trans f3
                  have g5 : H.length + 5 ≤ H3.length := by rw [hH3]; simpa using f5
                  have hx3 : Ext H H3 := fun j hj => (g0 j (by omega)).trans (f4 j hj)
                  have hb3 : StrsR true H3 bs [.slice a1 bs.length z1] F1 := Rp.fr hb2 fun j hj => g0 j (by have := hF1 j hj; omega)
                  rw [← hH3]
                  clear hH3
                  simp +contextual (dsimp := false) [goB_of g1, g1, goB_of g3, g3]
                  refine CallK.of ⟨_, Tryz.func219, rfl, rfl⟩ (l1Look_ac (x := ⟨12, tx, xn⟩) (m := ⟨at1, bs, sp1 + 1, lk1⟩) (rs := rs) (nm := (top1 st1)) (pl := decN at1) (base := H.length + 4) (by simp) hb3 q2 (by omega) (Rp.ext hr hx3) (by dsimp only; omega) hAl hk5 (by have := decN_len at1; unfold okS; omega)) ?_
                  rintro v S' ⟨hfr, hcase⟩
                  obtain ⟨at_, b5, l5, z5, st5, lk5, ov5, c5, t5, ak5, n5, w5, rfl, hR⟩ := look_key (H := H) (base := H.length + 4) (by omega) hcase
                  have r2 := (hfr.2 (H.length + 2) (by omega) (fun hm => by have := hF1 _ hm; omega)).trans g2
                  have hlS := hfr.1
                  have hset2 : ∀ b : Blk, (S'.set (H.length + 2) b)[H.length + 2]? = some b := fun b => List.getElem?_set_self (by omega)
                  simp +contextual (dsimp := false) [goB_of r2, r2, hset2]
                  refine ⟨fun j hj => ?_, ?_⟩
                  · rw [List.getElem?_set_ne (by omega)]
                    exact (hfr.2 j (by omega) (fun hm => by have := hF1 _ hm; omega)).trans (hx3 j hj)
                  · exact hR _ fun j hj => List.getElem?_set_ne (by omega)
                · by_cases h13 : op = 13
                  · subst h13
                    simp +contextual (dsimp := false) [goB_of f1, f1, goB_of f3, f3, e3]
                    obtain ⟨H3, hH3⟩ : ∃ H3, H3 = H2.set (H.length + 1) (⟨.cells #[.int .i64 ((at1 : Int) + 1), .slice a1 bs.length z1, .int .i64 ((sp1 : Int) + 1), .int .i64 (lk1 : Int), .bool false, .int .i64 0, .string ⟨⟨[]⟩⟩, .bool false, .string ⟨⟨[]⟩⟩, .bool false] 247 (0, 0), true, true⟩ : Blk) := ⟨_, rfl⟩
                    have g1 : H3[H.length + 1]? = some (⟨.cells #[.int .i64 ((at1 : Int) + 1), .slice a1 bs.length z1, .int .i64 ((sp1 : Int) + 1), .int .i64 (lk1 : Int), .bool false, .int .i64 0, .string ⟨⟨[]⟩⟩, .bool false, .string ⟨⟨[]⟩⟩, .bool false] 247 (0, 0), true, true⟩ : Blk) := by rw [hH3]; exact List.getElem?_set_self (by omega)
                    have g0 : ∀ j, j ≠ H.length + 1 → H3[j]? = H2[j]? := fun j hj => by rw [hH3]; exact List.getElem?_set_ne (Ne.symm hj)
                    have g2 := (g0 (H.length + 2) (by omega)).trans f2
                    have g3 := (g0 (H.length + 3) (by omega)).trans f3
                    have g5 : H.length + 5 ≤ H3.length := by rw [hH3]; simpa using f5
                    have hx3 : Ext H H3 := fun j hj => (g0 j (by omega)).trans (f4 j hj)
                    have hb3 : StrsR true H3 bs [.slice a1 bs.length z1] F1 := Rp.fr hb2 fun j hj => g0 j (by have := hF1 j hj; omega)
                    rw [← hH3]
                    clear hH3
                    simp +contextual (dsimp := false) [goB_of g1, g1, goB_of g3, g3]
                    refine CallK.of ⟨_, Tryz.func219, rfl, rfl⟩ (l1Look_ac (x := ⟨13, tx, xn⟩) (m := ⟨at1, bs, sp1 + 1, lk1⟩) (rs := rs) (nm := (top1 st1)) (pl := decN at1) (base := H.length + 4) (by simp) hb3 q2 (by omega) (Rp.ext hr hx3) (by dsimp only; omega) hAl hk5 (by have := decN_len at1; unfold okS; omega)) ?_
                    rintro v S' ⟨hfr, hcase⟩
                    obtain ⟨at_, b5, l5, z5, st5, lk5, ov5, c5, t5, ak5, n5, w5, rfl, hR⟩ := look_key (H := H) (base := H.length + 4) (by omega) hcase
                    have r2 := (hfr.2 (H.length + 2) (by omega) (fun hm => by have := hF1 _ hm; omega)).trans g2
                    have hlS := hfr.1
                    have hset2 : ∀ b : Blk, (S'.set (H.length + 2) b)[H.length + 2]? = some b := fun b => List.getElem?_set_self (by omega)
                    simp +contextual (dsimp := false) [goB_of r2, r2, hset2]
                    refine ⟨fun j hj => ?_, ?_⟩
                    · rw [List.getElem?_set_ne (by omega)]
                      exact (hfr.2 j (by omega) (fun hm => by have := hF1 _ hm; omega)).trans (hx3 j hj)
                    · exact hR _ fun j hj => List.getElem?_set_ne (by omega)
                  · by_cases h11 : op = 11
                    · subst h11
                      simp +contextual (dsimp := false) [goB_of f1, f1, goB_of f3, f3, e3]
                      refine ifA_dec (fun ha => ?_) (fun ha => ?_)
                      · have hfa : falseT (top1 st1) = true := by simp [falseT, ha]
                        obtain ⟨H3, hH3⟩ : ∃ H3, H3 = H2.set (H.length + 1) (⟨.cells #[.int .i64 xn, .slice a st1.length z, .int .i64 ((sp1 : Int) + 1), .int .i64 (lk1 : Int), .bool false, .int .i64 0, .string ⟨⟨[]⟩⟩, .bool false, .string ⟨⟨[]⟩⟩, .bool false] 247 (0, 0), true, true⟩ : Blk) := ⟨_, rfl⟩
                        have k1 : H3[H.length + 1]? = some (⟨.cells #[.int .i64 xn, .slice a st1.length z, .int .i64 ((sp1 : Int) + 1), .int .i64 (lk1 : Int), .bool false, .int .i64 0, .string ⟨⟨[]⟩⟩, .bool false, .string ⟨⟨[]⟩⟩, .bool false] 247 (0, 0), true, true⟩ : Blk) := by rw [hH3]; exact List.getElem?_set_self (by omega)
                        have k0 : ∀ j, j ≠ H.length + 1 → H3[j]? = H2[j]? := fun j hj => by rw [hH3]; exact List.getElem?_set_ne (Ne.symm hj)
                        have k2 := (k0 (H.length + 2) (by omega)).trans f2
                        have k3 := (k0 (H.length + 3) (by omega)).trans f3
                        have k5 : H.length + 5 ≤ H3.length := by rw [hH3]; simpa using f5
                        have k4 : ∀ j, j < H.length → H3[j]? = H[j]? := fun j hj => (k0 j (by omega)).trans (f4 j hj)
                        have hb3 : StrsR true H3 bs [.slice a1 bs.length z1] F1 := Rp.fr hb2 fun j hj => k0 j (by have := hF1 j hj; omega)
                        rw [← hH3]
                        clear hH3
                        have hpl : (plainL ⟨11, tx, xn⟩ (top1 st1) ([] : List UInt8)).length = pt := tp (by omega) (by omega)
                        have hpt : pt = 0 := by rw [← hpt0]; simp [takesOf]
                        refine LoopA.up (σ := Nat × Heap × Value × List Nat) [4, 6, 7, 8, 10, 11, 12, 13, 14] (fun i => [(13, i.2.2.1), (14, int i.1)]) (fun i => i.2.1)
                          (fun x => x.1 ≤ pt ∧ H.length + 5 ≤ x.2.1.length ∧ (∀ j, j < H.length + 4 → x.2.1[j]? = H3[j]?) ∧ StrsR true x.2.1 (bs ++ (plainL ⟨11, tx, xn⟩ (top1 st1) ([] : List UInt8)).take x.1) [x.2.2.1] x.2.2.2 ∧ Fresh (H.length + 4) x.2.2.2 ∧ ∀ t ∈ (plainL ⟨11, tx, xn⟩ (top1 st1) ([] : List UInt8)).take x.1, t.length ≤ 2000) (fun i => pt - i.1) (0, H3, .slice a1 bs.length z1, F1) rfl ⟨by simp, k5, fun _ _ => rfl, by simpa using hb3, q2, by simp⟩ ?_
                        rintro ⟨i, hp, sv, FB⟩ ⟨hi, hlen, hkp, hrr, hfB, htx⟩
                        dsimp only at hi hlen hkp hrr hfB htx
                        obtain ⟨a3, z3, rfl⟩ := hrr.form
                        rw [List.length_append, List.length_take] at hrr
                        have g1 := (hkp (H.length + 1) (by omega)).trans k1
                        have g2 := (hkp (H.length + 2) (by omega)).trans k2
                        have g3 := (hkp (H.length + 3) (by omega)).trans k3
                        have g4 : ∀ j, j < H.length → hp[j]? = H[j]? := fun j hj => (hkp j (by omega)).trans (k4 j hj)
                        simp +contextual (dsimp := false) [goB_of g3, g3]
                        refine ifA_dec (fun h3 => ?_) (fun h3 => ?_)
                        · omega
                        · obtain rfl : i = pt := by omega
                          rw [List.take_of_length_le (by omega)] at hrr htx
                          have hset1 : ∀ b : Blk, (hp.set (H.length + 1) b)[H.length + 1]? = some b := fun b => List.getElem?_set_self (by omega)
                          have hset2 : ∀ b c : Blk, ((hp.set (H.length + 1) b).set (H.length + 2) c)[H.length + 2]? = some c := fun b c => List.getElem?_set_self (by simp; omega)
                          have hset3 : ∀ b : Blk, (hp.set (H.length + 1) b)[H.length + 2]? = hp[H.length + 2]? := fun b => List.getElem?_set_ne (by omega)
                          simp +contextual (dsimp := false) [goB_of g1, g1, goB_of g2, g2, hset1, hset2, hset3]
                          refine ⟨fun j hj => ?_, ?_⟩
                          · rw [List.getElem?_set_ne (by omega), List.getElem?_set_ne (by omega)]
                            exact g4 j hj
                          · refine ⟨_, FB, ?_, Rp.fr hrr fun j hj => by rw [List.getElem?_set_ne (by have := hfB.1 j hj; omega), List.getElem?_set_ne (by have := hfB.1 j hj; omega)], hfB.weak (by omega)⟩
                            simp [atN, hA, hfa, Int.toNat_of_nonneg v5]
                      · refine ifA_dec (fun ha2 => ?_) (fun ha2 => ?_)
                        · have hfa : falseT (top1 st1) = true := by simp [falseT, ha2]
                          obtain ⟨H3, hH3⟩ : ∃ H3, H3 = H2.set (H.length + 1) (⟨.cells #[.int .i64 xn, .slice a st1.length z, .int .i64 ((sp1 : Int) + 1), .int .i64 (lk1 : Int), .bool false, .int .i64 0, .string ⟨⟨[]⟩⟩, .bool false, .string ⟨⟨[]⟩⟩, .bool false] 247 (0, 0), true, true⟩ : Blk) := ⟨_, rfl⟩
                          have k1 : H3[H.length + 1]? = some (⟨.cells #[.int .i64 xn, .slice a st1.length z, .int .i64 ((sp1 : Int) + 1), .int .i64 (lk1 : Int), .bool false, .int .i64 0, .string ⟨⟨[]⟩⟩, .bool false, .string ⟨⟨[]⟩⟩, .bool false] 247 (0, 0), true, true⟩ : Blk) := by rw [hH3]; exact List.getElem?_set_self (by omega)
                          have k0 : ∀ j, j ≠ H.length + 1 → H3[j]? = H2[j]? := fun j hj => by rw [hH3]; exact List.getElem?_set_ne (Ne.symm hj)
                          have k2 := (k0 (H.length + 2) (by omega)).trans f2
                          have k3 := (k0 (H.length + 3) (by omega)).trans f3
                          have k5 : H.length + 5 ≤ H3.length := by rw [hH3]; simpa using f5
                          have k4 : ∀ j, j < H.length → H3[j]? = H[j]? := fun j hj => (k0 j (by omega)).trans (f4 j hj)
                          have hb3 : StrsR true H3 bs [.slice a1 bs.length z1] F1 := Rp.fr hb2 fun j hj => k0 j (by have := hF1 j hj; omega)
                          rw [← hH3]
                          clear hH3
                          have hpl : (plainL ⟨11, tx, xn⟩ (top1 st1) ([] : List UInt8)).length = pt := tp (by omega) (by omega)
                          have hpt : pt = 0 := by rw [← hpt0]; simp [takesOf]
                          refine LoopA.up (σ := Nat × Heap × Value × List Nat) [4, 6, 7, 8, 10, 11, 12, 13, 14] (fun i => [(13, i.2.2.1), (14, int i.1)]) (fun i => i.2.1)
                            (fun x => x.1 ≤ pt ∧ H.length + 5 ≤ x.2.1.length ∧ (∀ j, j < H.length + 4 → x.2.1[j]? = H3[j]?) ∧ StrsR true x.2.1 (bs ++ (plainL ⟨11, tx, xn⟩ (top1 st1) ([] : List UInt8)).take x.1) [x.2.2.1] x.2.2.2 ∧ Fresh (H.length + 4) x.2.2.2 ∧ ∀ t ∈ (plainL ⟨11, tx, xn⟩ (top1 st1) ([] : List UInt8)).take x.1, t.length ≤ 2000) (fun i => pt - i.1) (0, H3, .slice a1 bs.length z1, F1) rfl ⟨by simp, k5, fun _ _ => rfl, by simpa using hb3, q2, by simp⟩ ?_
                          rintro ⟨i, hp, sv, FB⟩ ⟨hi, hlen, hkp, hrr, hfB, htx⟩
                          dsimp only at hi hlen hkp hrr hfB htx
                          obtain ⟨a3, z3, rfl⟩ := hrr.form
                          rw [List.length_append, List.length_take] at hrr
                          have g1 := (hkp (H.length + 1) (by omega)).trans k1
                          have g2 := (hkp (H.length + 2) (by omega)).trans k2
                          have g3 := (hkp (H.length + 3) (by omega)).trans k3
                          have g4 : ∀ j, j < H.length → hp[j]? = H[j]? := fun j hj => (hkp j (by omega)).trans (k4 j hj)
                          simp +contextual (dsimp := false) [goB_of g3, g3]
                          refine ifA_dec (fun h3 => ?_) (fun h3 => ?_)
                          · omega
                          · obtain rfl : i = pt := by omega
                            rw [List.take_of_length_le (by omega)] at hrr htx
                            have hset1 : ∀ b : Blk, (hp.set (H.length + 1) b)[H.length + 1]? = some b := fun b => List.getElem?_set_self (by omega)
                            have hset2 : ∀ b c : Blk, ((hp.set (H.length + 1) b).set (H.length + 2) c)[H.length + 2]? = some c := fun b c => List.getElem?_set_self (by simp; omega)
                            have hset3 : ∀ b : Blk, (hp.set (H.length + 1) b)[H.length + 2]? = hp[H.length + 2]? := fun b => List.getElem?_set_ne (by omega)
                            simp +contextual (dsimp := false) [goB_of g1, g1, goB_of g2, g2, hset1, hset2, hset3]
                            refine ⟨fun j hj => ?_, ?_⟩
                            · rw [List.getElem?_set_ne (by omega), List.getElem?_set_ne (by omega)]
                              exact g4 j hj
                            · refine ⟨_, FB, ?_, Rp.fr hrr fun j hj => by rw [List.getElem?_set_ne (by have := hfB.1 j hj; omega), List.getElem?_set_ne (by have := hfB.1 j hj; omega)], hfB.weak (by omega)⟩
                              simp [atN, hA, hfa, Int.toNat_of_nonneg v5]
                        · have hfa : falseT (top1 st1) = false := by simp [falseT, ha, ha2]
                          have hpl : (plainL ⟨11, tx, xn⟩ (top1 st1) ([] : List UInt8)).length = pt := tp (by omega) (by omega)
                          have hpt : pt = 0 := by rw [← hpt0]; simp [takesOf]
                          refine LoopA.up (σ := Nat × Heap × Value × List Nat) [4, 6, 7, 8, 10, 11, 12, 13, 14] (fun i => [(13, i.2.2.1), (14, int i.1)]) (fun i => i.2.1)
                            (fun x => x.1 ≤ pt ∧ H.length + 5 ≤ x.2.1.length ∧ (∀ j, j < H.length + 4 → x.2.1[j]? = H2[j]?) ∧ StrsR true x.2.1 (bs ++ (plainL ⟨11, tx, xn⟩ (top1 st1) ([] : List UInt8)).take x.1) [x.2.2.1] x.2.2.2 ∧ Fresh (H.length + 4) x.2.2.2 ∧ ∀ t ∈ (plainL ⟨11, tx, xn⟩ (top1 st1) ([] : List UInt8)).take x.1, t.length ≤ 2000) (fun i => pt - i.1) (0, H2, .slice a1 bs.length z1, F1) rfl ⟨by simp, f5, fun _ _ => rfl, by simpa using hb2, q2, by simp⟩ ?_
                          rintro ⟨i, hp, sv, FB⟩ ⟨hi, hlen, hkp, hrr, hfB, htx⟩
                          dsimp only at hi hlen hkp hrr hfB htx
                          obtain ⟨a3, z3, rfl⟩ := hrr.form
                          rw [List.length_append, List.length_take] at hrr
                          have g1 := (hkp (H.length + 1) (by omega)).trans f1
                          have g2 := (hkp (H.length + 2) (by omega)).trans f2
                          have g3 := (hkp (H.length + 3) (by omega)).trans f3
                          have g4 : ∀ j, j < H.length → hp[j]? = H[j]? := fun j hj => (hkp j (by omega)).trans (f4 j hj)
                          simp +contextual (dsimp := false) [goB_of g3, g3]
                          refine ifA_dec (fun h3 => ?_) (fun h3 => ?_)
                          · omega
                          · obtain rfl : i = pt := by omega
                            rw [List.take_of_length_le (by omega)] at hrr htx
                            have hset1 : ∀ b : Blk, (hp.set (H.length + 1) b)[H.length + 1]? = some b := fun b => List.getElem?_set_self (by omega)
                            have hset2 : ∀ b c : Blk, ((hp.set (H.length + 1) b).set (H.length + 2) c)[H.length + 2]? = some c := fun b c => List.getElem?_set_self (by simp; omega)
                            have hset3 : ∀ b : Blk, (hp.set (H.length + 1) b)[H.length + 2]? = hp[H.length + 2]? := fun b => List.getElem?_set_ne (by omega)
                            simp +contextual (dsimp := false) [goB_of g1, g1, goB_of g2, g2, hset1, hset2, hset3]
                            refine ⟨fun j hj => ?_, ?_⟩
                            · rw [List.getElem?_set_ne (by omega), List.getElem?_set_ne (by omega)]
                              exact g4 j hj
                            · refine ⟨_, FB, ?_, Rp.fr hrr fun j hj => by rw [List.getElem?_set_ne (by have := hfB.1 j hj; omega), List.getElem?_set_ne (by have := hfB.1 j hj; omega)], hfB.weak (by omega)⟩
                              simp [atN, hA, hfa]
                              try rfl
                    · skip
                      simp +contextual (dsimp := false) [goB_of f1, f1, goB_of f3, f3, e3, h15, h14, h12, h13, h10, h11]
                      have hpl : (plainL ⟨op, tx, xn⟩ (top1 st1) ([] : List UInt8)).length = pt := tp (by omega) (by omega)
                      refine LoopA.up (σ := Nat × Heap × Value × List Nat) [4, 6, 7, 8, 10, 11, 12, 13, 14] (fun i => [(13, i.2.2.1), (14, int i.1)]) (fun i => i.2.1)
                        (fun x => x.1 ≤ pt ∧ H.length + 5 ≤ x.2.1.length ∧ (∀ j, j < H.length + 4 → x.2.1[j]? = H2[j]?) ∧ StrsR true x.2.1 (bs ++ (plainL ⟨op, tx, xn⟩ (top1 st1) ([] : List UInt8)).take x.1) [x.2.2.1] x.2.2.2 ∧ Fresh (H.length + 4) x.2.2.2 ∧ ∀ t ∈ (plainL ⟨op, tx, xn⟩ (top1 st1) ([] : List UInt8)).take x.1, t.length ≤ 2000) (fun i => pt - i.1) (0, H2, .slice a1 bs.length z1, F1) rfl ⟨by simp, f5, fun _ _ => rfl, by simpa using hb2, q2, by simp⟩ ?_
                      rintro ⟨i, hp, sv, FB⟩ ⟨hi, hlen, hkp, hrr, hfB, htx⟩
                      dsimp only at hi hlen hkp hrr hfB htx
                      obtain ⟨a3, z3, rfl⟩ := hrr.form
                      rw [List.length_append, List.length_take] at hrr
                      have g1 := (hkp (H.length + 1) (by omega)).trans f1
                      have g2 := (hkp (H.length + 2) (by omega)).trans f2
                      have g3 := (hkp (H.length + 3) (by omega)).trans f3
                      have g4 : ∀ j, j < H.length → hp[j]? = H[j]? := fun j hj => (hkp j (by omega)).trans (f4 j hj)
                      simp +contextual (dsimp := false) [goB_of g3, g3]
                      refine ifA_dec (fun h3 => ?_) (fun h3 => ?_)
                      · refine CallK.of ⟨_, Tryz.func220, rfl, rfl⟩ (l1Plain_ac (x := ⟨op, tx, xn⟩) (a := (top1 st1)) (b := ([] : List UInt8)) hvx hAl hBl) ?_
                        rintro v S' ⟨F', he, hv', hf'⟩
                        obtain ⟨a4, z4, rfl⟩ := hv'.form
                        have hlS := he.le
                        obtain ⟨id6, o6, c6, e6, f6, ow6, cs6, Fi6, E6⟩ := SlR.get hv' i (by omega)
                        obtain ⟨rfl, rfl, hok6⟩ := E6.rep
                        have hc6 := E6.cell0 (by omega)
                        have r1 := (he (H.length + 1) (by omega)).trans g1
                        have r2 := (he (H.length + 2) (by omega)).trans g2
                        by_cases hbig : 2000 < ((plainL ⟨op, tx, xn⟩ (top1 st1) ([] : List UInt8))[i]).length
                        · have hbig' : (2000 : Int) < ((plainL ⟨op, tx, xn⟩ (top1 st1) ([] : List UInt8))[i]).length := by omega
                          simp +contextual (dsimp := false) [E6.idx, E6.goB, E6.le, E6.lt, E6.ext, hc6, hbig', goB_of r1, r1, goB_of r2, r2]
                          refine CallK.of ⟨_, Tryz.func217, rfl, rfl⟩ (l1End_ac 2 _ _) ?_
                          rintro v S2 ⟨rfl, he2⟩
                          have s2 := (he2 (H.length + 2) (by omega)).trans r2
                          have hlS2 := he2.le
                          have hset2 : ∀ b : Blk, (S2.set (H.length + 2) b)[H.length + 2]? = some b := fun b => List.getElem?_set_self (by omega)
                          simp +contextual (dsimp := false) [goB_of s2, s2, hset2]
                          refine ⟨fun j hj => ?_, ?_⟩
                          · rw [List.getElem?_set_ne (by omega)]
                            exact (he2 j (by omega)).trans ((he j (by omega)).trans (g4 j hj))
                          · rw [if_neg (by omega), if_neg (by omega), if_neg (by omega), if_pos ⟨_, List.getElem_mem (show i < (plainL ⟨op, tx, xn⟩ (top1 st1) ([] : List UInt8)).length by omega), hbig⟩]
                            exact ⟨_, _, _, _, _, rfl⟩
                        · have hbig' : ¬ (2000 : Int) < ((plainL ⟨op, tx, xn⟩ (top1 st1) ([] : List UInt8))[i]).length := by omega
                          simp +contextual (dsimp := false) [E6.idx, E6.goB, E6.le, E6.lt, E6.ext, hc6, hbig', goB_of r1, r1, goB_of r2, r2]
                          refine AppK.one (R := strR) (l := bs ++ (plainL ⟨op, tx, xn⟩ (top1 st1) ([] : List UInt8)).take i) (F := FB) (ex := 9) (fx := (0, 0)) (ox := true) (base := H.length + 4) (x := (plainL ⟨op, tx, xn⟩ (top1 st1) ([] : List UInt8))[i]) (cx := [str ((plainL ⟨op, tx, xn⟩ (top1 st1) ([] : List UInt8))[i])]) (Fx := []) slt24 und24 (Rp.ext (Rp.ext hrr he) (Ext.app _ _)) hfB (by simp) ⟨rfl, rfl, hok6⟩ (Fresh.nil _) (by simp) (by simp; omega) (by simp; omega) (by decide) ?_
                          intro s1 H5 F5 u1 u2 u3 u4 u5
                          simp only [List.length_append, List.length_cons, List.length_nil, List.length_singleton] at u3 u4 u5
                          simp +contextual (dsimp := false) [wrap_succ (show i < 9223372036854775807 by omega)]
                          refine LoopN.of (i + 1, H5, s1, F5) rfl ⟨by dsimp only; omega, by dsimp only; omega, fun j hj => (u4 j (by omega) (fun hm => by have := hfB.1 _ hm; omega)).trans ((get_ext (by omega)).trans ((he j (by omega)).trans (hkp j hj))), ?_, u2, fun t ht => ?_⟩ (by dsimp only; omega)
                          · dsimp only
                            rw [List.take_succ_eq_append_getElem (by omega), ← List.append_assoc]
                            exact u1
                          · dsimp only at ht
                            rw [List.take_succ_eq_append_getElem (by omega)] at ht
                            rcases List.mem_append.1 ht with ht | ht
                            · exact htx t ht
                            · obtain rfl : t = (plainL ⟨op, tx, xn⟩ (top1 st1) ([] : List UInt8))[i] := by simpa using ht
                              omega
                      · obtain rfl : i = pt := by omega
                        rw [List.take_of_length_le (by omega)] at hrr htx
                        have hset1 : ∀ b : Blk, (hp.set (H.length + 1) b)[H.length + 1]? = some b := fun b => List.getElem?_set_self (by omega)
                        have hset2 : ∀ b c : Blk, ((hp.set (H.length + 1) b).set (H.length + 2) c)[H.length + 2]? = some c := fun b c => List.getElem?_set_self (by simp; omega)
                        have hset3 : ∀ b : Blk, (hp.set (H.length + 1) b)[H.length + 2]? = hp[H.length + 2]? := fun b => List.getElem?_set_ne (by omega)
                        simp +contextual (dsimp := false) [goB_of g1, g1, goB_of g2, g2, hset1, hset2, hset3]
                        refine ⟨fun j hj => ?_, ?_⟩
                        · rw [List.getElem?_set_ne (by omega), List.getElem?_set_ne (by omega)]
                          exact g4 j hj
                        · rw [if_neg (by omega), if_neg (by omega), if_neg (by omega), if_neg (fun hany => by
                            obtain ⟨t, ht1, ht2⟩ := hany
                            have := htx t ht1
                            omega)]
                          refine ⟨_, FB, ?_, Rp.fr hrr fun j hj => by rw [List.getElem?_set_ne (by have := hfB.1 j hj; omega), List.getElem?_set_ne (by have := hfB.1 j hj; omega)], hfB.weak (by omega)⟩
                          simp [atN, h10, h11]
                          try rfl
          · have hws1 : IntKind.i64.wrap ((st1.length : Int) - 1) = ((st1.length - 1 : Nat) : Int) := by rw [wrap_of _ (by omega) (by omega)]; omega
            obtain ⟨id1, o1, c3, e1, f1, ow1, cs1, Fi1, E1⟩ := SlR.get hs (st1.length - 1) (by omega)
            obtain ⟨rfl, rfl, hok1⟩ := E1.rep
            have hc1 := E1.cell0 (by omega)
            have htop1 : st1[st1.length - 1] = top1 st1 := by simp [top1, List.getD, show st1.length - 1 < st1.length by omega]
            have hws2 : IntKind.i64.wrap ((st1.length : Int) - 2) = ((st1.length - 2 : Nat) : Int) := by rw [wrap_of _ (by omega) (by omega)]; omega
            obtain ⟨id2, o2, c4, e2, f2, ow2, cs2, Fi2, E2⟩ := SlR.get hs (st1.length - 2) (by omega)
            obtain ⟨rfl, rfl, hok2⟩ := E2.rep
            have hc2 := E2.cell0 (by omega)
            have htop2 : st1[st1.length - 2] = top2 st1 := by simp [top2, List.getD, show st1.length - 2 < st1.length by omega]
            have n1 : ¬ (st1.length : Int) < 2 := by omega
            have n2 : ¬ (50 : Int) < IntKind.i64.wrap (((st1.length - 2 : Nat) : Int) + pt) := by rw [wrap_of _ (by omega) (by omega)]; omega
            simp +contextual (dsimp := false) [n1, n2, hwn, hsl, hws1, E1.idx, E1.goB, E1.le, E1.lt, E1.ext, hc1, htop1, hws2, E2.idx, E2.goB, E2.le, E2.lt, E2.ext, hc2, htop2]
            obtain ⟨bs, hbs⟩ : ∃ l, l = st1.take (st1.length - 2) := ⟨_, rfl⟩
            have hbl : bs.length = st1.length - 2 := by rw [hbs]; simp
            rw [← hbs] at hcut
            rw [← hbs]
            have hA : topA op st1 = (top1 st1) := by rw [htA]; simp
            have hB : topB op st1 = (top2 st1) := by rw [htB]; simp
            rw [hA] at tp ⊢
            rw [hB] at tp ⊢
            have hAl : (top1 st1).length ≤ 2000 := by exact top1_len hk4
            have hBl : (top2 st1).length ≤ 2000 := by exact top2_len hk4
            refine AppK.many (R := strR) (base := H.length + 4) (l := []) (l2 := bs) slt24 und24 (SlR.mt (R := strR) (e := 9) (f := (0, 0)) (j := H.length + 4) (by simp)) (Fresh.one (by omega)) (Rp.ext hcut (Ext.app _ _)) (by rw [hcut.flatF]; exact Fresh.nil _) (by rw [hcut.flatF]; simp) (by simp) (by simp; omega) (by decide) ?_
            intro s1 H1 F1 q1 q2 q3 q4 q5
            rw [List.nil_append] at q1
            simp only [List.length_append, List.length_cons, List.length_nil] at q3 q4 q5
            have e1 := q4 (H.length + 1) (by omega) (by simp)
            have e2 := q4 (H.length + 2) (by omega) (by simp)
            have e3 := q4 (H.length + 3) (by omega) (by simp)
            have e4 : ∀ j, j < H.length → H1[j]? = H[j]? := fun j hj => (q4 j (by omega) (by simp; omega)).trans (get_ext hj)
            simp [List.getElem?_append] at e1 e2 e3
            obtain ⟨a1, z1, rfl⟩ := q1.form
            simp +contextual (dsimp := false) [goB_of e1, e1, wrap_succ (show at1 < 9223372036854775807 by omega)]
            obtain ⟨H2, hH2⟩ : ∃ H2, H2 = H1.set (H.length + 1) (⟨.cells #[.int .i64 ((at1 : Int) + 1), .slice a st1.length z, .int .i64 ((sp1 : Int) + 1), .int .i64 (lk1 : Int), .bool false, .int .i64 0, .string ⟨⟨[]⟩⟩, .bool false, .string ⟨⟨[]⟩⟩, .bool false] 247 (0, 0), true, true⟩ : Blk) := ⟨_, rfl⟩
            rw [← hH2]
            have f1 : H2[H.length + 1]? = some (⟨.cells #[.int .i64 ((at1 : Int) + 1), .slice a st1.length z, .int .i64 ((sp1 : Int) + 1), .int .i64 (lk1 : Int), .bool false, .int .i64 0, .string ⟨⟨[]⟩⟩, .bool false, .string ⟨⟨[]⟩⟩, .bool false] 247 (0, 0), true, true⟩ : Blk) := by rw [hH2]; exact List.getElem?_set_self (by omega)
            have f2 : H2[H.length + 2]? = _ := (by rw [hH2]; exact List.getElem?_set_ne (by omega) : H2[H.length + 2]? = H1[H.length + 2]?).trans e2
            have f3 : H2[H.length + 3]? = _ := (by rw [hH2]; exact List.getElem?_set_ne (by omega) : H2[H.length + 3]? = H1[H.length + 3]?).trans e3
            have f4 : ∀ j, j < H.length → H2[j]? = H[j]? := fun j hj => (by rw [hH2]; exact List.getElem?_set_ne (by omega) : H2[j]? = H1[j]?).trans (e4 j hj)
            have f5 : H.length + 5 ≤ H2.length := by rw [hH2]; simp; omega
            have hF1 : ∀ j ∈ F1, H.length + 4 ≤ j := q2.1
            have hb2 : StrsR true H2 bs [.slice a1 bs.length z1] F1 := Rp.fr q1 fun j hj => by rw [hH2]; exact List.getElem?_set_ne (by have := hF1 j hj; omega)
            clear hH2 e1 e2 q4 q1
            have hop : op = 2 ∨ op = 6 ∨ op = 8 := by
              unfold takesOf at htk0
              repeat' split at htk0
              all_goals first | omega | (simp at htk0; done)
            have h10 : ¬ op = 10 := by omega
            have h11 : ¬ op = 11 := by omega
            have h15 : ¬ op = 15 := by omega
            have h14 : ¬ op = 14 := by omega
            have h12 : ¬ op = 12 := by omega
            have h13 : ¬ op = 13 := by omega
            simp +contextual (dsimp := false) [goB_of f1, f1, goB_of f3, f3, e3, h15, h14, h12, h13, h10, h11]
            have hpl : (plainL ⟨op, tx, xn⟩ (top1 st1) (top2 st1)).length = pt := tp (by omega) (by omega)
            refine LoopA.up (σ := Nat × Heap × Value × List Nat) [4, 6, 7, 8, 10, 11, 12, 13, 14] (fun i => [(13, i.2.2.1), (14, int i.1)]) (fun i => i.2.1)
              (fun x => x.1 ≤ pt ∧ H.length + 5 ≤ x.2.1.length ∧ (∀ j, j < H.length + 4 → x.2.1[j]? = H2[j]?) ∧ StrsR true x.2.1 (bs ++ (plainL ⟨op, tx, xn⟩ (top1 st1) (top2 st1)).take x.1) [x.2.2.1] x.2.2.2 ∧ Fresh (H.length + 4) x.2.2.2 ∧ ∀ t ∈ (plainL ⟨op, tx, xn⟩ (top1 st1) (top2 st1)).take x.1, t.length ≤ 2000) (fun i => pt - i.1) (0, H2, .slice a1 bs.length z1, F1) rfl ⟨by simp, f5, fun _ _ => rfl, by simpa using hb2, q2, by simp⟩ ?_
            rintro ⟨i, hp, sv, FB⟩ ⟨hi, hlen, hkp, hrr, hfB, htx⟩
            dsimp only at hi hlen hkp hrr hfB htx
            obtain ⟨a3, z3, rfl⟩ := hrr.form
            rw [List.length_append, List.length_take] at hrr
            have g1 := (hkp (H.length + 1) (by omega)).trans f1
            have g2 := (hkp (H.length + 2) (by omega)).trans f2
            have g3 := (hkp (H.length + 3) (by omega)).trans f3
            have g4 : ∀ j, j < H.length → hp[j]? = H[j]? := fun j hj => (hkp j (by omega)).trans (f4 j hj)
            simp +contextual (dsimp := false) [goB_of g3, g3]
            refine ifA_dec (fun h3 => ?_) (fun h3 => ?_)
            · refine CallK.of ⟨_, Tryz.func220, rfl, rfl⟩ (l1Plain_ac (x := ⟨op, tx, xn⟩) (a := (top1 st1)) (b := (top2 st1)) hvx hAl hBl) ?_
              rintro v S' ⟨F', he, hv', hf'⟩
              obtain ⟨a4, z4, rfl⟩ := hv'.form
              have hlS := he.le
              obtain ⟨id6, o6, c6, e6, f6, ow6, cs6, Fi6, E6⟩ := SlR.get hv' i (by omega)
              obtain ⟨rfl, rfl, hok6⟩ := E6.rep
              have hc6 := E6.cell0 (by omega)
              have r1 := (he (H.length + 1) (by omega)).trans g1
              have r2 := (he (H.length + 2) (by omega)).trans g2
              by_cases hbig : 2000 < ((plainL ⟨op, tx, xn⟩ (top1 st1) (top2 st1))[i]).length
              · have hbig' : (2000 : Int) < ((plainL ⟨op, tx, xn⟩ (top1 st1) (top2 st1))[i]).length := by omega
                simp +contextual (dsimp := false) [E6.idx, E6.goB, E6.le, E6.lt, E6.ext, hc6, hbig', goB_of r1, r1, goB_of r2, r2]
                refine CallK.of ⟨_, Tryz.func217, rfl, rfl⟩ (l1End_ac 2 _ _) ?_
                rintro v S2 ⟨rfl, he2⟩
                have s2 := (he2 (H.length + 2) (by omega)).trans r2
                have hlS2 := he2.le
                have hset2 : ∀ b : Blk, (S2.set (H.length + 2) b)[H.length + 2]? = some b := fun b => List.getElem?_set_self (by omega)
                simp +contextual (dsimp := false) [goB_of s2, s2, hset2]
                refine ⟨fun j hj => ?_, ?_⟩
                · rw [List.getElem?_set_ne (by omega)]
                  exact (he2 j (by omega)).trans ((he j (by omega)).trans (g4 j hj))
                · rw [if_neg (by omega), if_neg (by omega), if_neg (by omega), if_pos ⟨_, List.getElem_mem (show i < (plainL ⟨op, tx, xn⟩ (top1 st1) (top2 st1)).length by omega), hbig⟩]
                  exact ⟨_, _, _, _, _, rfl⟩
              · have hbig' : ¬ (2000 : Int) < ((plainL ⟨op, tx, xn⟩ (top1 st1) (top2 st1))[i]).length := by omega
                simp +contextual (dsimp := false) [E6.idx, E6.goB, E6.le, E6.lt, E6.ext, hc6, hbig', goB_of r1, r1, goB_of r2, r2]
                refine AppK.one (R := strR) (l := bs ++ (plainL ⟨op, tx, xn⟩ (top1 st1) (top2 st1)).take i) (F := FB) (ex := 9) (fx := (0, 0)) (ox := true) (base := H.length + 4) (x := (plainL ⟨op, tx, xn⟩ (top1 st1) (top2 st1))[i]) (cx := [str ((plainL ⟨op, tx, xn⟩ (top1 st1) (top2 st1))[i])]) (Fx := []) slt24 und24 (Rp.ext (Rp.ext hrr he) (Ext.app _ _)) hfB (by simp) ⟨rfl, rfl, hok6⟩ (Fresh.nil _) (by simp) (by simp; omega) (by simp; omega) (by decide) ?_
                intro s1 H5 F5 u1 u2 u3 u4 u5
                simp only [List.length_append, List.length_cons, List.length_nil, List.length_singleton] at u3 u4 u5
                simp +contextual (dsimp := false) [wrap_succ (show i < 9223372036854775807 by omega)]
                refine LoopN.of (i + 1, H5, s1, F5) rfl ⟨by dsimp only; omega, by dsimp only; omega, fun j hj => (u4 j (by omega) (fun hm => by have := hfB.1 _ hm; omega)).trans ((get_ext (by omega)).trans ((he j (by omega)).trans (hkp j hj))), ?_, u2, fun t ht => ?_⟩ (by dsimp only; omega)
                · dsimp only
                  rw [List.take_succ_eq_append_getElem (by omega), ← List.append_assoc]
                  exact u1
                · dsimp only at ht
                  rw [List.take_succ_eq_append_getElem (by omega)] at ht
                  rcases List.mem_append.1 ht with ht | ht
                  · exact htx t ht
                  · obtain rfl : t = (plainL ⟨op, tx, xn⟩ (top1 st1) (top2 st1))[i] := by simpa using ht
                    omega
            · obtain rfl : i = pt := by omega
              rw [List.take_of_length_le (by omega)] at hrr htx
              have hset1 : ∀ b : Blk, (hp.set (H.length + 1) b)[H.length + 1]? = some b := fun b => List.getElem?_set_self (by omega)
              have hset2 : ∀ b c : Blk, ((hp.set (H.length + 1) b).set (H.length + 2) c)[H.length + 2]? = some c := fun b c => List.getElem?_set_self (by simp; omega)
              have hset3 : ∀ b : Blk, (hp.set (H.length + 1) b)[H.length + 2]? = hp[H.length + 2]? := fun b => List.getElem?_set_ne (by omega)
              simp +contextual (dsimp := false) [goB_of g1, g1, goB_of g2, g2, hset1, hset2, hset3]
              refine ⟨fun j hj => ?_, ?_⟩
              · rw [List.getElem?_set_ne (by omega), List.getElem?_set_ne (by omega)]
                exact g4 j hj
              · rw [if_neg (by omega), if_neg (by omega), if_neg (by omega), if_neg (fun hany => by
                  obtain ⟨t, ht1, ht2⟩ := hany
                  have := htx t ht1
                  omega)]
                refine ⟨_, FB, ?_, Rp.fr hrr fun j hj => by rw [List.getElem?_set_ne (by have := hfB.1 j hj; omega), List.getElem?_set_ne (by have := hfB.1 j hj; omega)], hfB.weak (by omega)⟩
                simp [atN, h10, h11]
                try rfl
end Go.Proofs.YtephpieeibcihaaGreatDoor
namespace Go.Proofs.YtephpieeibcihaaGreatDoor
open Go Go.Am Go.Proofs
set_option maxRecDepth 20000
variable {ng : Nat}
theorem specF_step (code : List Ins) (rs : List Rpl) {m : Mst} (h : m.steps ≤ 2000) : specF code rs (2001 - m.steps) m = match stepS rs (mstep code m) with
    | .go m' => specF code rs (2001 - m'.steps) m'
    | o => o := by
  obtain ⟨k, hk⟩ : ∃ k, 2001 - m.steps = k + 1 := ⟨2000 - m.steps, by omega⟩
  rw [hk, specF]
  cases hs : mstep code m with
  | go m' =>
    have := mstep_go hs
    simp only [stepS]
    rw [show 2001 - m'.steps = k by omega]
  | fin c t n => rfl
  | look a n m' =>
    have hm := mstep_look hs
    have e1 : m'.steps = m.steps + 1 := by rw [hm.1]
    have e2 : m'.looks - 1 = m.looks := by rw [hm.1]; simp
    simp only [stepS]
    rw [e2]
    cases hr : rs[m.looks]? with
    | none => rfl
    | some y =>
      dsimp only
      cases ha : answ a n m' y with
      | go m2 =>
        have := answ_go ha
        dsimp only
        rw [show 2001 - m2.steps = k by omega]
      | fin c t n' => rfl
      | look a2 n2 m2 => exact absurd ha answ_nl
theorem stepS_ok {code : List Ins} {rs : List Rpl} {m m' : Mst} (hv : validP code = true) (hr : ∀ r ∈ rs, replyOk r = true) (hk : Mok m) (h : stepS rs (mstep code m) = .go m') : Mok m' ∧ m'.steps = m.steps + 1 := by
  cases hs : mstep code m with
  | go m2 =>
    rw [hs] at h
    injection h with h
    subst h
    exact ⟨mstep_ok hv hk hs, (mstep_go hs).1⟩
  | fin c t n => rw [hs] at h; cases h
  | look a n m2 =>
    rw [hs] at h
    have hm := mstep_look hs
    have hl := look_ok hk hs
    simp only [stepS] at h
    cases hr' : rs[m2.looks - 1]? with
    | none => rw [hr'] at h; cases h
    | some y =>
      rw [hr'] at h
      have hv' := validP_len hv
      exact ⟨answ_ok hl.1 hl.2.1 (by rw [hm.1]; dsimp only; omega) (hr y (List.mem_of_getElem? hr')) h, by rw [(answ_go h).1, hm.1]⟩
theorem nextO_specF {code : List Ins} {rs : List Rpl} : nextO code rs = specF code rs (2001 - Am.start.steps) Am.start := by
  rw [specF_eq code rs _ _ (by simp [Am.start]) (by simp [Am.start])]
  simp [nextO, Am.start]
def BlkR (T : TypeId) (H0 hp : Heap) (k : Nat) (code : List Ins) (rs : List Rpl) (o : Out) : Prop := match o with
  | .go m => ∃ sv F, hp[k]? = some ⟨.cells (runC m.at_ sv m.steps m.looks false 0 [] false [] false) T (0, 0), true, true⟩ ∧ StrsR true hp m.stk [sv] F ∧ Fresh (k + 1) F ∧ Mok m ∧ specF code rs (2001 - m.steps) m = nextO code rs
  | .fin c t n => ∃ (at_ : Int) (a : Option Addr) (l z : Nat) (lk : Int), hp[k]? = some ⟨.cells (runC at_ (.slice a l z) n lk true c t false [] false) T (0, 0), true, true⟩ ∧ nextO code rs = .fin c t n
  | .look a nm m => ∃ (at_ : Int) (b : Option Addr) (l z : Nat) (lk : Int), hp[k]? = some ⟨.cells (runC at_ (.slice b l z) m.steps lk false 0 [] a nm true) T (0, 0), true, true⟩ ∧ nextO code rs = .look a nm m
def outM : Out → Nat
  | .go m => 2002 - m.steps
  | _ => 0
theorem specNext_ac {own own2 : Bool} {p : List Ins} {rs : List Rpl} {s s2 : Value} {F F2 : List Nat} {H : Heap} (hs : CodeR own H p [s] F) (hr : RplsR own2 H rs [s2] F2) :
    AC Tryz.prog ng 117 [.agg #[s], s2] H fun v S' => v = .agg (next p rs).c.toArray ∧ S' = H := by
  obtain ⟨a, z, rfl⟩ := hs.form
  obtain ⟨a2, z2, rfl⟩ := hr.form
  have hbnd := hr.bound
  refine .flat (AC.go [] Tryz.func117 rfl Tryz.ntmps117 rfl ⟨mixed, by kernel_rfl⟩ ?_)
  simp +contextual (dsimp := false)
  refine CallK.fl ⟨_, Tryz.func105, rfl, rfl⟩ (specValid_ac (Rp.ext hs (Ext.app _ _))) ?_
  cases hv : validP p with
  | false =>
    simp +contextual (dsimp := false)
    simp [next, nextOk, hv, Trn.c]
  | true =>
    by_cases hn : 200 < rs.length
    · have hn' : (200 : Int) < rs.length := by omega
      simp +contextual (dsimp := false) [hn']
      simp [next, nextOk, hv, Trn.c, show ¬ rs.length ≤ 200 by omega]
    · have hn' : ¬ (200 : Int) < rs.length := by omega
      simp +contextual (dsimp := false) [hn']
      obtain ⟨H0, hH0⟩ : ∃ H0, H0 = H ++ [(⟨.cells #[.slice a p.length z] 79 (0, 0), true, true⟩ : Blk), ⟨.cells #[.bool false, .int .i64 0, .string ⟨⟨[]⟩⟩, .bool false, .string ⟨⟨[]⟩⟩, .int .i64 0] 182 (0, 0), true, true⟩] := ⟨_, rfl⟩
      have hx0 : Ext H H0 := by rw [hH0]; exact Ext.app _ _
      have hl0 : H0.length = H.length + 2 := by rw [hH0]; simp
      have hp0 : H0[H.length]? = some ⟨.cells #[.slice a p.length z] 79 (0, 0), true, true⟩ := by rw [hH0]; simp
      have ht0 : H0[H.length + 1]? = some ⟨.cells #[.bool false, .int .i64 0, .string ⟨⟨[]⟩⟩, .bool false, .string ⟨⟨[]⟩⟩, .int .i64 0] 182 (0, 0), true, true⟩ := by rw [hH0]; simp
      rw [← hH0]
      clear hH0
      have hset : ∀ b : Blk, (H0.set (H.length + 1) b)[H.length + 1]? = some b := fun b => List.getElem?_set_self (by omega)
      have hexset : ∀ b : Blk, Ext H (H0.set (H.length + 1) b) := fun b j hj => by rw [List.getElem?_set_ne (by omega)]; exact hx0 j hj
      refine LoopA.upc (σ := Nat) [1, 2, 4, 5] (fun i => [(5, int i)]) (fun i => i ≤ rs.length ∧ ∀ y ∈ rs.take i, replyOk y = true) (fun i => rs.length - i) 0 rfl (by simp) ?_
      rintro i ⟨hi, hall⟩
      simp +contextual (dsimp := false)
      refine ifA_dec (fun h3 => ?_) (fun h3 => ?_)
      · obtain ⟨id, o, c, e, f, ow, cs, Fi, E⟩ := SlR.get (Rp.ext hr hx0) i h3
        obtain ⟨rfl, rfl, hok⟩ := E.rep
        have hc1 := E.cell 1 (by omega)
        have hc2 := E.cell 2 (by omega)
        simp only [Rpl.c] at hc1 hc2
        have hbad : replyOk rs[i] = false → (next p rs).c = Trn.c ⟨false, 9, [], false, [], 0⟩ := fun hb => by
          have : nextOk p rs = false := by
            unfold nextOk
            rw [Bool.and_eq_false_iff]
            exact .inr (List.all_eq_false.2 ⟨rs[i], List.getElem_mem h3, by simp [hb]⟩)
          simp [next, this]
        simp +contextual (dsimp := false) [E.idx, E.goB, E.le, E.lt, E.ext, Rpl.c, hc1, hc2, goB_of ht0, ht0, hset, wrap_succ (show i < 9223372036854775807 by omega)]
        refine ifA_dec (fun h4 => ?_) (fun h4 => ?_)
        · exact ⟨by rw [hbad (by simp [replyOk]; omega)]; rfl, hexset _⟩
        · refine ifA_dec (fun h5 => ?_) (fun h5 => ?_)
          · exact ⟨by rw [hbad (by simp [replyOk]; omega)]; rfl, hexset _⟩
          · refine ifA_dec (fun h6 => ?_) (fun h6 => ?_)
            · exact ⟨by rw [hbad (by simp [replyOk]; omega)]; rfl, hexset _⟩
            · refine LoopN.of (i + 1) rfl ⟨h3, fun y hy => ?_⟩ (by omega)
              rw [List.take_succ_eq_append_getElem h3] at hy
              rcases List.mem_append.1 hy with hy | hy
              · exact hall y hy
              · obtain rfl : y = rs[i] := by simpa using hy
                simp [replyOk]
                omega
      · rw [List.take_of_length_le (by omega)] at hall
        have hnk : nextOk p rs = true := by simp [nextOk, hv, show rs.length ≤ 200 by omega]; exact hall
        have hnx : next p rs = turnOf (nextO p rs) := by simp [next, hnk]
        have hl1 : (H0 ++ [(⟨.cells (runC 0 (.slice none 0 0) 0 0 false 0 [] false [] false) 247 (0, 0), true, true⟩ : Blk)]).length = H0.length + 1 := by simp
        refine LoopA.up (σ := Out × Heap) [1, 2, 4, 6] (fun i => []) (fun i => i.2)
          (fun x => H0.length + 1 ≤ x.2.length ∧ (∀ j, j < H0.length → x.2[j]? = H0[j]?) ∧ BlkR 247 H0 x.2 H0.length p rs x.1) (fun x => outM x.1) (.go Am.start, _) rfl
          ⟨by simp, fun j hj => List.getElem?_append_left hj, .slice none 0 0, [], by simp [Am.start], SlR.nil, Fresh.nil _, start_ok, nextO_specF.symm⟩ ?_
        rintro ⟨o, hq⟩ ⟨hlq, hkq, hB⟩
        dsimp only at hlq hkq hB
        have hxq : Ext H hq := fun j hj => (hkq j (by omega)).trans (hx0 j hj)
        have htq := (hkq (H.length + 1) (by omega)).trans ht0
        have hpq := (hkq H.length (by omega)).trans hp0
        have hsetq : ∀ b : Blk, (hq.set (H.length + 1) b)[H.length + 1]? = some b := fun b => List.getElem?_set_self (by omega)
        have hexq : ∀ b : Blk, Ext H (hq.set (H.length + 1) b) := fun b j hj => by rw [List.getElem?_set_ne (by omega)]; exact hxq j hj
        cases o with
        | go m =>
          obtain ⟨sv, FB, hb, hst, hfB, hkm, hsp⟩ := hB
          obtain ⟨a3, z3, rfl⟩ := hst.form
          have hms := hkm.steps
          simp +contextual (dsimp := false) [goB_of hb, hb, goB_of hpq, hpq]
          refine CallK.of ⟨_, Tryz.func171, rfl, rfl⟩ (l1Step_ac hst (Rp.ext hs hxq) (Rp.ext hr hxq) hv hkm) ?_
          rintro v S' ⟨he, hR⟩
          have hlS := he.le
          have hb' := (he _ (by omega)).trans hb
          have hset' : ∀ b : Blk, (S'.set H0.length b)[H0.length]? = some b := fun b => List.getElem?_set_self (by omega)
          rw [specF_step p rs hms] at hsp
          have hkS : ∀ (b : Blk) (j : Nat), j < H0.length → (S'.set H0.length b)[j]? = H0[j]? := fun b j hj => by
            rw [List.getElem?_set_ne (by omega)]
            exact (he j (by omega)).trans (hkq j hj)
          cases ho : stepS rs (mstep p m) with
          | go m' =>
            rw [ho] at hR hsp
            obtain ⟨sv', F', rfl, r1, r2⟩ := hR
            obtain ⟨a4, z4, rfl⟩ := r1.form
            obtain ⟨k1, k2⟩ := stepS_ok hv hall hkm ho
            simp +contextual (dsimp := false) [goB_of hb', hb']
            refine LoopN.of (.go m', _) rfl ⟨by simp; omega, hkS _, _, F', hset' _, Rp.fr r1 fun j hj => List.getElem?_set_ne (by have := r2.1 j hj; omega), r2.weak (by omega), k1, hsp⟩ (by simp only [outM]; omega)
          | fin c t n =>
            rw [ho] at hR hsp
            obtain ⟨at_, a4, l4, z4, lk4, rfl⟩ := hR
            simp +contextual (dsimp := false) [goB_of hb', hb']
            refine LoopN.of (.fin c t n, _) rfl ⟨by simp; omega, hkS _, _, _, _, _, _, hset' _, hsp.symm⟩ (by simp only [outM]; omega)
          | look aa nm m' =>
            rw [ho] at hR hsp
            obtain ⟨at_, a4, l4, z4, lk4, rfl⟩ := hR
            simp +contextual (dsimp := false) [goB_of hb', hb']
            refine LoopN.of (.look aa nm m', _) rfl ⟨by simp; omega, hkS _, _, _, _, _, _, hset' _, hsp.symm⟩ (by simp only [outM]; omega)
        | fin c t n =>
          obtain ⟨at_, a4, l4, z4, lk4, hb, hno⟩ := hB
          simp +contextual (dsimp := false) [goB_of hb, hb, goB_of htq, htq, hsetq]
          exact ⟨by rw [hnx, hno]; rfl, hexq _⟩
        | look aa nm m' =>
          obtain ⟨at_, a4, l4, z4, lk4, hb, hno⟩ := hB
          simp +contextual (dsimp := false) [goB_of hb, hb, goB_of htq, htq, hsetq]
          exact ⟨by rw [hnx, hno]; rfl, hexq _⟩
end Go.Proofs.YtephpieeibcihaaGreatDoor
