import Derived.Test.YtephpieeibcihaaGreatDoorF2
import Derived.Laws.StructEq
import Derived.Test.YtephpieeibcihaaGreatDoorFow
import Derived.Test.YtephpieeibcihaaGreatDoorChk
import Derived.Test.YtephpieeibcihaaGreatDoorSpec
import Derived.Test.YtephpieeibcihaaGreatDoorStr
/- Two instructions held against each other as the language does it. No condition. -/
set_option linter.unusedSimpArgs false
set_option linter.unusedVariables false
namespace Go.Am
open Go
variable {P : Program}
theorem pur_und {t : TypeId} {d : TypeDesc} (h : P.underlying t = some d) : pur P (underlying t) = some d := by
  simp only [underlying, program]
  show pur P (Sem.bind (.program .pure) _) = _
  simp only [Sem.bind, pur, h]
  rfl
theorem pur_prog : pur P program = some P := rfl
theorem pur_eqStruct {d : Nat} {t : TypeId} {fs : Array Field} {xs ys : Array Value} (ht : P.underlying t = some (.struct fs)) (hp : P.stoodInHeld t = false) :
    pur P (Op.equalIn (d + 1) t (.agg xs) (.agg ys)) = pur P (Op.eqFields d xs ys fs.toList) := by
  simp only [Op.equalIn, pur_bind, pur_und ht, Option.bind_some, pur_prog, hp, Bool.false_eq_true, if_false]
  rw [← Array.forIn_toList]
  generalize fs.toList = l
  induction l with
  | nil => rfl
  | cons f l ih =>
    simp only [List.forIn_cons, Op.eqFields, pur_bind]
    by_cases hn : f.name ≠ "_"
    · rw [if_pos hn, if_pos hn]
      simp only [pur_bind]
      cases pur P (part f.type xs f.offset) with
      | none => rfl
      | some a =>
        simp only [Option.bind_some]
        cases pur P (part f.type ys f.offset) with
        | none => rfl
        | some b =>
          simp only [Option.bind_some]
          cases pur P (Op.equalIn d f.type a b) with
          | none => rfl
          | some r =>
            cases r with
            | false => rfl
            | true =>
              simp only [Option.bind_some, Bool.not_true, Bool.false_eq_true, if_false]
              exact ih
    · rw [if_neg hn, if_neg hn]
      exact ih
theorem pur_eqInt {d : Nat} {t : TypeId} {k : IntKind} {a b : Int} (h : P.underlying t = some (.int k)) : pur P (Op.equalIn (d + 1) t (.int k a) (.int k b)) = some (a == b) := by
  simp only [Op.equalIn, pur_bind, pur_und h, Option.bind_some]
  rw [if_pos trivial]
  rfl
theorem pur_eqStr {d : Nat} {t : TypeId} {a b : ByteArray} (h : P.underlying t = some .string) : pur P (Op.equalIn (d + 1) t (.string a) (.string b)) = some (a == b) := by
  simp only [Op.equalIn, pur_bind, pur_und h, Option.bind_some]
  rfl
end Go.Am
namespace Go.Proofs.YtephpieeibcihaaGreatDoor
open Go Go.Am
set_option maxRecDepth 100000
theorem part_op (a n : Int) (s : ByteArray) : pur Tryz.prog (part 3 #[.int .i64 a, .string s, .int .i64 n] 0) = some (.int .i64 a) := by kernel_rfl
theorem part_n (a n : Int) (s : ByteArray) : pur Tryz.prog (part 3 #[.int .i64 a, .string s, .int .i64 n] 2) = some (.int .i64 n) := by kernel_rfl
theorem part_t (a n : Int) (s : ByteArray) : pur Tryz.prog (part 9 #[.int .i64 a, .string s, .int .i64 n] 1) = some (.string s) := by kernel_rfl
theorem ins_held : Tryz.prog.stoodInHeld 140 = false := by kernel_rfl
theorem ins_guard : Tryz.prog.eqGuardType Tryz.prog.depth 140 = false := by kernel_rfl
theorem ins_fields : ∃ f1 f2 f3 : Field, Tryz.prog.underlying 140 = some (.struct #[f1, f2, f3]) ∧ f1.name ≠ "_" ∧ f2.name ≠ "_" ∧ f3.name ≠ "_" ∧ f1.type = 3 ∧ f2.type = 9 ∧ f3.type = 3 ∧ f1.offset = 0 ∧ f2.offset = 1 ∧ f3.offset = 2 :=
  ⟨_, _, _, und140, by decide, by decide, by decide, rfl, rfl, rfl, rfl, rfl, rfl⟩
theorem pur_insEq (x y : Ins) (d : Nat) : pur Tryz.prog (Op.equalIn (d + 1 + 1) 140 (.agg x.c.toArray) (.agg y.c.toArray)) = some (decide (x = y)) := by
  obtain ⟨f1, f2, f3, hu, n1, n2, n3, t1, t2, t3, o1, o2, o3⟩ := ins_fields
  obtain ⟨xo, xt, xn⟩ := x
  obtain ⟨yo, yt, yn⟩ := y
  rw [pur_eqStruct hu ins_held]
  simp only [Op.eqFields, n1, n2, n3, t1, t2, t3, o1, o2, o3, pur_bind, ne_eq, not_false_eq_true, if_true, Ins.c]
  rw [show (#[Value.int .i64 xo, .string ⟨⟨xt⟩⟩, .int .i64 xn] : Array Value) = [Value.int .i64 xo, .string ⟨⟨xt⟩⟩, .int .i64 xn].toArray from rfl] at *
  have a1 := part_op xo xn ⟨⟨xt⟩⟩
  have a2 := part_t xo xn ⟨⟨xt⟩⟩
  have a3 := part_n xo xn ⟨⟨xt⟩⟩
  have b1 := part_op yo yn ⟨⟨yt⟩⟩
  have b2 := part_t yo yn ⟨⟨yt⟩⟩
  have b3 := part_n yo yn ⟨⟨yt⟩⟩
  simp only [a1, a2, a3, b1, b2, b3, Option.bind_some, pur_eqInt und3, pur_eqStr und9]
  by_cases h1 : xo = yo
  · subst h1
    simp only [beq_self_eq_true, Bool.not_true, Bool.false_eq_true, if_false, pur_bind, a2, b2, Option.bind_some, pur_eqStr und9]
    have hbs : ((⟨⟨xt⟩⟩ : ByteArray) == ⟨⟨yt⟩⟩) = decide (xt = yt) := by rw [beq_toListBytes, toList_mk, toList_mk, beq_list]
    rw [hbs]
    by_cases h2 : xt = yt
    · subst h2
      simp only [decide_true, Bool.not_true, Bool.false_eq_true, if_false, pur_bind, a3, b3, Option.bind_some, pur_eqInt und3]
      by_cases h3 : xn = yn
      · subst h3
        simp only [beq_self_eq_true, Bool.not_true, Bool.false_eq_true, if_false, decide_true]
        rfl
      · have e : (xn == yn) = false := by simp [h3]
        simp only [e, Bool.not_false, if_true]
        simp [h3, pur]
        rfl
    · simp only [h2, decide_false, Bool.not_false, if_true]
      simp [h2, pur]
      rfl
  · have e : (xo == yo) = false := by simp [h1]
    simp only [e, Bool.not_false, if_true]
    simp [h1, pur]
    rfl
theorem bin_insne (x y : Ins) {u v : Operand} : bin? Tryz.prog .neq 140 u v (.agg x.c.toArray) (.agg y.c.toArray) = some (.bool (!decide (x = y))) := by
  have hf : ∀ z : Ins, flat (.agg z.c.toArray) = true := fun z => by simp [flat, flat0, Ins.c]
  have hb : (do eqGuard .neq 140 u v (.agg x.c.toArray) (.agg y.c.toArray); binOp .neq 140 (.agg x.c.toArray) (.agg y.c.toArray) : Sem Value) = (eqGuard .neq 140 u v (.agg x.c.toArray) (.agg y.c.toArray) >>= fun _ => Op.equal 140 (.agg x.c.toArray) (.agg y.c.toArray) >>= fun b => pure (.bool (!b))) := rfl
  have hg : pur Tryz.prog (eqGuard .neq 140 u v (.agg x.c.toArray) (.agg y.c.toArray)) = some () := by
    simp only [eqGuard, Bool.not_true, Bool.false_eq_true, if_false, pur_bind, pur_prog, Option.bind_some, ins_guard, Bool.not_false, if_true]
    rfl
  unfold bin? purF
  rw [hf, hf, hb, pur_bind, hg]
  simp only [Bool.and_true, if_true, Option.bind_some, pur_bind]
  rw [show Op.equal 140 (.agg x.c.toArray) (.agg y.c.toArray) = Op.equalIn (9998 + 1 + 1) 140 (.agg x.c.toArray) (.agg y.c.toArray) from rfl, pur_insEq]
  rfl
end Go.Proofs.YtephpieeibcihaaGreatDoor

/- Auditing: what is computed. No condition. -/
set_option linter.unusedSimpArgs false
set_option linter.unusedVariables false
namespace Go.Am
open Go
/-- Does a space have under a deed's name what the deed tells? -/
def fitsD (sp : Spc) (d : Deed) : Bool :=
  if d.kind = 1 then decide (d.name ∈ sNames sp) && decide (souT sp d.name = d.text)
  else if d.kind = 3 then decide (d.name ∈ tNames sp) && decide (tgtA sp d.name = d.action)
  else !hasN sp d.name
def lookOkD (sp : Spc) (l : Lnk) : Bool := l.ask || decide (l.has = hasN sp l.name)
def lookAll (sp : Spc) (ls : List Lnk) : Bool := ls.all (lookOkD sp)
def auditD (ds : List Deed) (sp : Spc) (d : Deed) : Int := if fitsD sp d = false then 2 else if lookAll sp d.links = false then 3 else folD ds d
def auditI (ds : List Deed) (sp : Spc) : Option Nat → Int × Int
  | some i => (auditD ds sp (dAt ds i), i)
  | none => (0, 0)
def auditA (ds : List Deed) (sp : Spc) : Int × Int := if accOk ds = true ∧ checkSpace sp = 0 then auditI ds sp (firstI ds.length fun i => !decide (auditD ds sp (dAt ds i) = 0)) else (1, 0)
theorem bsP_idx {l : List (List UInt8)} (ha : asc l = true) {x : List UInt8} (hx : x ∈ l) : bsP l x = l.idxOf x := by
  have hb := bsF_iff ha x
  rw [decide_eq_true hx] at hb
  have hb := of_decide_eq_true hb
  have hi := List.idxOf_lt_length_iff.2 hx
  have h1 : l[bsP l x]'hb.1 = x := by
    have := hb.2
    rw [List.getD_eq_getElem?_getD, List.getElem?_eq_getElem hb.1] at this
    exact this
  have h2 := List.getElem_idxOf hi
  rcases Nat.lt_trichotomy (bsP l x) (l.idxOf x) with h | h | h
  · have := asc_lt ha _ _ hi h
    rw [h1, h2, ltS_irrefl] at this
    cases this
  · exact h
  · have := asc_lt ha _ _ hb.1 h
    rw [h1, h2, ltS_irrefl] at this
    cases this
end Go.Am

/- Auditing: what is computed; the walks. No condition. -/
set_option linter.unusedSimpArgs false
set_option linter.unusedVariables false
namespace Go.Proofs.YtephpieeibcihaaGreatDoor
open Go Go.Am Go.Proofs
set_option maxRecDepth 20000
variable {ng : Nat}
theorem equalIns_ac {o1 o2 : Bool} {l1 l2 : List Ins} {s1 s2 : Value} {F1 F2 : List Nat} {H : Heap} (hs1 : CodeR o1 H l1 [s1] F1) (hs2 : CodeR o2 H l2 [s2] F2) : AC Tryz.prog ng 175 [s1, s2] H fun v S' => v = .bool (decide (l1 = l2)) ∧ S' = H := by
  obtain ⟨a1, z1, rfl⟩ := hs1.form
  obtain ⟨a2, z2, rfl⟩ := hs2.form
  have hb1 := hs1.bound
  refine .flat (AC.go [] Tryz.func175 rfl Tryz.ntmps175 rfl ⟨mixed, by kernel_rfl⟩ ?_)
  by_cases hl : l1.length = l2.length
  · have hl' : (l1.length : Int) = (l2.length : Int) := by omega
    simp +contextual (dsimp := false) [hl, hl']
    refine LoopA.upc (σ := Nat) [0, 1, 12, 13] (fun i => [(13, int i)]) (fun i => i ≤ l2.length ∧ ∀ j (h1 : j < l1.length) (h2 : j < l2.length), j < i → l1[j] = l2[j]) (fun i => l2.length - i) 0 rfl (by simp) ?_
    rintro i ⟨hi, hv⟩
    simp +contextual (dsimp := false)
    refine ifA_dec (fun h3 => ?_) (fun h3 => ?_)
    · have h3' : i < l1.length := by omega
      obtain ⟨id, o, c, e, f, ow, cs, Fi, E⟩ := SlR.get hs1 i h3'
      obtain ⟨rfl, rfl, hok⟩ := E.rep
      obtain ⟨id', o', c', e', f', ow', cs', Fi', E'⟩ := SlR.get hs2 i h3
      obtain ⟨rfl, rfl, hok'⟩ := E'.rep
      have hx1 := E.idx
      have hx2 := E'.idx
      rw [hl] at hx1
      simp +contextual (dsimp := false) [hl, hx1, hx2, E.goB, E.le, E.lt, E.ext, E'.goB, E'.le, E'.lt, E'.ext, bin_insne, wrap_succ (show i < 9223372036854775807 by omega)]
      refine ifA_dec (fun h4 => ?_) (fun h4 => ?_)
      · exact LoopN.of (i + 1) rfl ⟨h3, fun j q1 q2 hlt => by
          rcases Nat.lt_or_ge j i with h | h
          · exact hv j q1 q2 h
          · obtain rfl : j = i := by omega
            exact h4⟩ (by omega)
      · first
          | (intro hc; apply h4; subst hc; rfl)
          | (simp; intro hc; apply h4; subst hc; rfl)
    · have : l1 = l2 := List.ext_getElem hl fun j q1 q2 => hv j q1 q2 (by omega)
      simp [this]
  · have hl' : ¬ (l1.length : Int) = (l2.length : Int) := by omega
    simp +contextual (dsimp := false) [hl, hl']
    intro hc
    exact hl (by rw [hc])
theorem l4Same_ac {o1 o2 : Bool} {l1 l2 : List Ins} {s1 s2 : Value} {F1 F2 : List Nat} {H : Heap} (hs1 : CodeR o1 H l1 [s1] F1) (hs2 : CodeR o2 H l2 [s2] F2) : AC Tryz.prog ng 113 [.agg #[s1], .agg #[s2]] H fun v S' => v = .bool (decide (l1 = l2)) ∧ S' = H := by
  obtain ⟨a1, z1, rfl⟩ := hs1.form
  obtain ⟨a2, z2, rfl⟩ := hs2.form
  have hb1 := hs1.bound
  refine .flat (AC.go [] Tryz.func113 rfl Tryz.ntmps113 rfl ⟨mixed, by kernel_rfl⟩ ?_)
  by_cases hl : l1.length = l2.length
  · have hl' : (l1.length : Int) = (l2.length : Int) := by omega
    simp +contextual (dsimp := false) [hl, hl']
    refine LoopA.upc (σ := Nat) [2, 3, 5] (fun i => [(5, int i)]) (fun i => i ≤ l2.length ∧ ∀ j (h1 : j < l1.length) (h2 : j < l2.length), j < i → l1[j] = l2[j]) (fun i => l2.length - i) 0 rfl (by simp) ?_
    rintro i ⟨hi, hv⟩
    simp +contextual (dsimp := false)
    refine ifA_dec (fun h3 => ?_) (fun h3 => ?_)
    · have h3' : i < l1.length := by omega
      obtain ⟨id, o, c, e, f, ow, cs, Fi, E⟩ := SlR.get hs1 i h3'
      obtain ⟨rfl, rfl, hok⟩ := E.rep
      obtain ⟨id', o', c', e', f', ow', cs', Fi', E'⟩ := SlR.get hs2 i h3
      obtain ⟨rfl, rfl, hok'⟩ := E'.rep
      have hx1 := E.idx
      have hx2 := E'.idx
      rw [hl] at hx1
      simp +contextual (dsimp := false) [hl, hx1, hx2, E.goB, E.le, E.lt, E.ext, E'.goB, E'.le, E'.lt, E'.ext, bin_insne, wrap_succ (show i < 9223372036854775807 by omega)]
      refine ifA_dec (fun h4 => ?_) (fun h4 => ?_)
      · exact LoopN.of (i + 1) rfl ⟨h3, fun j q1 q2 hlt => by
          rcases Nat.lt_or_ge j i with h | h
          · exact hv j q1 q2 h
          · obtain rfl : j = i := by omega
            exact h4⟩ (by omega)
      · first
          | (intro hc; apply h4; subst hc; rfl)
          | (simp; intro hc; apply h4; subst hc; rfl)
    · have : l1 = l2 := List.ext_getElem hl fun j q1 q2 => hv j q1 q2 (by omega)
      simp [this]
  · have hl' : ¬ (l1.length : Int) = (l2.length : Int) := by omega
    simp +contextual (dsimp := false) [hl, hl']
    intro hc
    exact hl (by rw [hc])
theorem there_ac {own : Bool} {x : Spc} {c : List Value} {F : List Nat} {H : Heap} (h : SpcR own H x c F) (hsp : checkSpace x = 0) (n : List UInt8) : AC Tryz.prog ng 122 [.agg c.toArray, str n] H fun v S' => v = .bool (hasN x n) ∧ S' = H := by
  obtain ⟨q1, q2, q3, q4, q5, q6⟩ := checkSpace_ok hsp
  have h' := h
  obtain ⟨s1, s2, F1, F2, rfl, hF, h1, h2⟩ := h
  obtain ⟨a1, z1, rfl⟩ := h1.form
  obtain ⟨a2, z2, rfl⟩ := h2.form
  refine .flat (AC.go [] Tryz.func122 rfl Tryz.ntmps122 rfl ⟨mixed, by kernel_rfl⟩ ?_)
  simp +contextual (dsimp := false)
  refine CallK.fl ⟨_, Tryz.func127, rfl, rfl⟩ (source_ac (Rp.ext h' (Ext.app _ _)) n) ?_
  simp +contextual (dsimp := false)
  refine CallK.fl ⟨_, Tryz.func119, rfl, rfl⟩ (target_ac (Rp.ext h' (Ext.app _ _)) n) ?_
  rw [bsF_iff q4, bsF_iff q5]
  simp +contextual (dsimp := false)
  unfold hasN
  by_cases c1 : n ∈ sNames x <;> by_cases c2 : n ∈ tNames x <;> simp [c1, c2]
theorem fits_ac {own own' : Bool} {x : Spc} {c : List Value} {F : List Nat} {H : Heap} (h : SpcR own H x c F) (hsp : checkSpace x = 0) {d : Deed} {cd : List Value} {Fd : List Nat} (hd : DeedR own' H d cd Fd) : AC Tryz.prog ng 121 [.agg cd.toArray, .agg c.toArray] H fun v S' => v = .bool (fitsD x d) ∧ S' = H := by
  obtain ⟨q1, q2, q3, q4, q5, q6⟩ := checkSpace_ok hsp
  have h' := h
  obtain ⟨s1, s2, F1, F2, rfl, hF, h1, h2⟩ := h
  obtain ⟨a1, z1, rfl⟩ := h1.form
  obtain ⟨a2, z2, rfl⟩ := h2.form
  obtain ⟨hk, s3, s4, G1, G2, rfl, rfl, hc1, hc2⟩ := hd
  obtain ⟨a3, z3, rfl⟩ := hc1.form
  obtain ⟨a4, z4, rfl⟩ := hc2.form
  refine .flat (AC.go [] Tryz.func121 rfl Tryz.ntmps121 rfl ⟨mixed, by kernel_rfl⟩ ?_)
  simp +contextual (dsimp := false)
  refine CallK.fl ⟨_, Tryz.func127, rfl, rfl⟩ (source_ac (Rp.ext h' (Ext.app _ _)) d.name) ?_
  simp +contextual (dsimp := false)
  refine CallK.fl ⟨_, Tryz.func119, rfl, rfl⟩ (target_ac (Rp.ext h' (Ext.app _ _)) d.name) ?_
  rw [bsF_iff q4, bsF_iff q5]
  by_cases k1 : d.kind = 1
  · by_cases m1 : d.name ∈ sNames x
    · obtain ⟨hi, hi1, hi2⟩ := souT_at m1
      rw [bsP_idx q4 m1]
      obtain ⟨id, o, cc, e, f, ow, cs, Fi, E⟩ := SlR.get h1 _ hi
      obtain ⟨rfl, rfl, hok⟩ := E.rep
      have hc1' := E.cell 1 (by omega)
      simp +contextual (dsimp := false) [fitsD, k1, m1, E.idx, E.goB, E.le, E.lt, E.ext, hc1', Sou.c, hi1]
    · simp +contextual (dsimp := false) [fitsD, k1, m1]
  · by_cases k3 : d.kind = 3
    · by_cases m1 : d.name ∈ tNames x
      · obtain ⟨hi, hi1, hi2⟩ := tgtA_at m1
        rw [bsP_idx q5 m1]
        obtain ⟨id, o, cc, e, f, ow, cs, Fi, E⟩ := SlR.get h2 _ hi
        obtain ⟨hok, s5, rfl, hc5⟩ := E.rep
        obtain ⟨a5, z5, rfl⟩ := hc5.form
        have hc1' := E.cell 1 (by omega)
        simp +contextual (dsimp := false) [k3, m1, E.idx, E.goB, E.le, E.lt, E.ext, hc1']
        refine CallK.fl ⟨_, Tryz.func175, rfl, rfl⟩ (equalIns_ac (Rp.ext hc5 (Ext.app _ _)) (Rp.ext hc1 (Ext.app _ _))) ?_
        simp +contextual (dsimp := false) [fitsD, k1, k3, m1, hi1]
      · simp +contextual (dsimp := false) [fitsD, k1, k3, m1]
    · simp +contextual (dsimp := false) [k1, k3]
      by_cases m1 : d.name ∈ sNames x <;> by_cases m2 : d.name ∈ tNames x <;> simp [fitsD, hasN, k1, k3, m1, m2]
theorem l4There_ac {own own' : Bool} {x : Spc} {c : List Value} {F : List Nat} {H : Heap} (h : SpcR own H x c F) {d : Deed} {cd : List Value} {Fd : List Nat} (hd : DeedR own' H d cd Fd) : AC Tryz.prog ng 75 [.agg cd.toArray, .agg c.toArray] H fun v S' => v = .bool (fitsD x d) ∧ S' = H := by
  have h' := h
  obtain ⟨s1, s2, F1, F2, rfl, hF, h1, h2⟩ := h
  obtain ⟨a1, z1, rfl⟩ := h1.form
  obtain ⟨a2, z2, rfl⟩ := h2.form
  obtain ⟨hk, s3, s4, G1, G2, rfl, rfl, hc1, hc2⟩ := hd
  obtain ⟨a3, z3, rfl⟩ := hc1.form
  obtain ⟨a4, z4, rfl⟩ := hc2.form
  refine .flat (AC.go [] Tryz.func75 rfl Tryz.ntmps75 rfl ⟨mixed, by kernel_rfl⟩ ?_)
  simp +contextual (dsimp := false)
  refine CallK.fl ⟨_, Tryz.func76, rfl, rfl⟩ (l2Source_ac (Rp.ext h' (Ext.app _ _)) d.name) ?_
  simp +contextual (dsimp := false)
  refine CallK.fl ⟨_, Tryz.func77, rfl, rfl⟩ (l2Target_ac (Rp.ext h' (Ext.app _ _)) d.name) ?_
  have g1 := findI_ge (sNames x) d.name
  have g2 := findI_ge (tNames x) d.name
  have n1 := findI_neg (sNames x) d.name
  have n2 := findI_neg (tNames x) d.name
  by_cases k1 : d.kind = 1
  · by_cases m1 : d.name ∈ sNames x
    · obtain ⟨hi, hi1, hi2⟩ := souT_at m1
      rw [show findI (sNames x) d.name = ((sNames x).idxOf d.name : Int) from if_pos m1]
      obtain ⟨id, o, cc, e, f, ow, cs, Fi, E⟩ := SlR.get h1 _ hi
      obtain ⟨rfl, rfl, hok⟩ := E.rep
      have hc1' := E.cell 1 (by omega)
      simp +contextual (dsimp := false) [fitsD, k1, m1, E.idx, E.goB, E.le, E.lt, E.ext, hc1', Sou.c, hi1]
    · simp +contextual (dsimp := false) [fitsD, k1, m1, g1]
  · by_cases k3 : d.kind = 3
    · by_cases m1 : d.name ∈ tNames x
      · obtain ⟨hi, hi1, hi2⟩ := tgtA_at m1
        rw [show findI (tNames x) d.name = ((tNames x).idxOf d.name : Int) from if_pos m1]
        obtain ⟨id, o, cc, e, f, ow, cs, Fi, E⟩ := SlR.get h2 _ hi
        obtain ⟨hok, s5, rfl, hc5⟩ := E.rep
        obtain ⟨a5, z5, rfl⟩ := hc5.form
        have hc1' := E.part 1 1 (by omega)
        simp +contextual (dsimp := false) [k3, m1, E.idx, E.goB, E.le, E.lt, E.ext, hc1']
        refine CallK.fl ⟨_, Tryz.func113, rfl, rfl⟩ (l4Same_ac (Rp.ext hc5 (Ext.app _ _)) (Rp.ext hc1 (Ext.app _ _))) ?_
        simp +contextual (dsimp := false) [fitsD, k1, k3, m1, hi1]
      · simp +contextual (dsimp := false) [fitsD, k1, k3, m1, g2]
    · simp +contextual (dsimp := false) [k1, k3, n1, n2]
      by_cases m1 : d.name ∈ sNames x <;> by_cases m2 : d.name ∈ tNames x <;> simp [fitsD, hasN, k1, k3, m1, m2]
theorem all_first {sp : Spc} {l : List Lnk} {k : Nat} (h : k < l.length) (hp : lookOkD sp l[k] = false) : lookAll sp l = false := List.all_eq_false.2 ⟨l[k], List.getElem_mem h, by simp [hp]⟩
theorem all_upto {sp : Spc} {l : List Lnk} (h : ∀ j (hj : j < l.length), lookOkD sp l[j] = true) : lookAll sp l = true := List.all_eq_true.2 fun x hx => by
  obtain ⟨i, hi, rfl⟩ := List.mem_iff_getElem.1 hx
  exact h i hi
set_option maxHeartbeats 1000000 in
theorem audit_ac {own own' : Bool} {ds : List Deed} {sd : Value} {FD : List Nat} {H : Heap} (hs : DeedsR own H ds [sd] FD) (hok : ∀ i, i < ds.length → deedOk ds i (dAt ds i) = true) (i : Nat) (hi : i < ds.length) {c : List Value} {F : List Nat} (hx : DeedR own H ds[i] c F)
    {x : Spc} {cs : List Value} {FS : List Nat} (h : SpcR own' H x cs FS) (hsp : checkSpace x = 0) (hP : P10 g10 H) (h2 : g10 < ng) :
    AC Tryz.prog ng 80 [.agg c.toArray, .agg #[sd], .agg cs.toArray] H fun v S' => v = int (auditD ds x ds[i]) ∧ S' = H := by
  have hx' := hx
  have h' := h
  obtain ⟨ad, zd, rfl⟩ := hs.form
  obtain ⟨hk, s1, s2, G1, G2, rfl, rfl, hc1, hc2⟩ := hx
  obtain ⟨a1, z1, rfl⟩ := hc1.form
  obtain ⟨a2, z2, rfl⟩ := hc2.form
  obtain ⟨s3, s4, F3, F4, rfl, hF, g1, g2⟩ := h
  obtain ⟨a3, z3, rfl⟩ := g1.form
  obtain ⟨a4, z4, rfl⟩ := g2.form
  have hlb := hc2.bound
  refine .flat (AC.go [(6, .take 0 <| .take 1 <| .take 2 <| .take 3 <| .take 4 <| .take 7 <| .take 5 <| .take 6 <| .take 8 <| .one 9 [5] <| .take 10 <| .take 11 <| .done)] Tryz.func80 rfl Tryz.ntmps80 rfl ⟨mixed, by kernel_rfl⟩ ?_)
  simp +contextual (dsimp := false)
  refine CallK.fl ⟨_, Tryz.func121, rfl, rfl⟩ (fits_ac (Rp.ext h' (Ext.app _ _)) hsp (Rp.ext hx' (Ext.app _ _))) ?_
  cases hf : fitsD x ds[i] with
  | false => simp +contextual (dsimp := false) [auditD, hf]
  | true =>
    simp +contextual (dsimp := false)
    obtain ⟨H0, hH0⟩ : ∃ H0, H0 = H ++ [(⟨.cells #[str ds[i].name, int ds[i].kind, int ds[i].code, str ds[i].text, .slice a1 ds[i].action.length z1, .slice a2 ds[i].links.length z2] 82 (0, 0), true, true⟩ : Blk), ⟨.cells #[.slice ad ds.length zd] 58 (0, 0), true, true⟩, ⟨.cells #[.slice a3 x.sources.length z3, .slice a4 x.targets.length z4] 44 (0, 0), true, true⟩] := ⟨_, rfl⟩
    have hx0 : Ext H H0 := by rw [hH0]; exact Ext.app _ _
    have hl0 : H0.length = H.length + 3 := by rw [hH0]; simp
    have b0 : H0[H.length]? = some ⟨.cells #[str ds[i].name, int ds[i].kind, int ds[i].code, str ds[i].text, .slice a1 ds[i].action.length z1, .slice a2 ds[i].links.length z2] 82 (0, 0), true, true⟩ := by rw [hH0]; simp
    have b1 : H0[H.length + 1]? = some ⟨.cells #[.slice ad ds.length zd] 58 (0, 0), true, true⟩ := by rw [hH0]; simp
    have b2 : H0[H.length + 2]? = some ⟨.cells #[.slice a3 x.sources.length z3, .slice a4 x.targets.length z4] 44 (0, 0), true, true⟩ := by rw [hH0]; simp
    rw [← hH0]
    refine LoopA.up (σ := Nat × Heap) [3, 4, 5, 14, 15, 16] (fun x => [(16, int x.1)]) (fun x => x.2)
      (fun y => y.1 ≤ ds[i].links.length ∧ Ext H0 y.2 ∧ ∀ j (hj : j < ds[i].links.length), j < y.1 → lookOkD x ds[i].links[j] = true) (fun y => ds[i].links.length - y.1) (0, _) rfl ⟨by simp, Ext.refl _, by simp⟩ ?_
    rintro ⟨k, hp⟩ ⟨gk, gx, gv⟩
    dsimp only at gk gx gv
    have hex : Ext H hp := hx0.trans gx
    have hle := gx.le
    have e0 := (gx H.length (by omega)).trans b0
    have e1 := (gx (H.length + 1) (by omega)).trans b1
    have e2 := (gx (H.length + 2) (by omega)).trans b2
    have e2T : ∀ T : Heap, (hp ++ T)[H.length + 2]? = _ := fun T => (List.getElem?_append_left (by omega)).trans e2
    simp +contextual (dsimp := false)
    refine ifA_dec (fun h3 => ?_) (fun h3 => ?_)
    · obtain ⟨id5, o5, c5, e5, f5, ow5, cs5, Fi5, E5⟩ := SlR.get (Rp.ext hc2 hex) k h3
      obtain ⟨rfl, rfl, hok5⟩ := E5.rep
      cases ha : ds[i].links[k].ask with
      | true =>
        simp +contextual (dsimp := false) [E5.idx, E5.goB, E5.le, E5.lt, E5.ext, Lnk.c, ha, wrap_succ (show k < 9223372036854775807 by omega)]
        exact LoopN.of (k + 1, _) rfl ⟨h3, gx.trans (Ext.app _ _), fun j hj hlt => by
          rcases Nat.lt_or_ge j k with h | h
          · exact gv j hj h
          · obtain rfl : j = k := by dsimp only at hlt; omega
            simp [lookOkD, ha]⟩ (by dsimp only; omega)
      | false =>
        simp +contextual (dsimp := false) [E5.idx, E5.goB, E5.le, E5.lt, E5.ext, Lnk.c, ha, e2T]
        refine CallK.fl ⟨_, Tryz.func122, rfl, rfl⟩ (there_ac (Rp.ext h' (hex.trans (Ext.app _ _))) hsp ds[i].links[k].name) ?_
        simp +contextual (dsimp := false) [bin_bneq und4, wrap_succ (show k < 9223372036854775807 by omega)]
        refine ifA_dec (fun h4 => ?_) (fun h4 => ?_)
        · exact LoopN.of (k + 1, _) rfl ⟨h3, gx.trans (Ext.app _ _), fun j hj hlt => by
            rcases Nat.lt_or_ge j k with h | h
            · exact gv j hj h
            · obtain rfl : j = k := by dsimp only at hlt; omega
              simp [lookOkD, ha, h4]⟩ (by dsimp only; omega)
        · have : auditD ds x ds[i] = 3 := by simp [auditD, hf, all_first (sp := x) h3 (by simp [lookOkD, ha, h4])]
          rw [this]
          exact ⟨rfl, hex.trans (Ext.app _ _)⟩
    · have : auditD ds x ds[i] = folD ds ds[i] := by simp [auditD, hf, all_upto (sp := x) fun j hj => gv j hj (by omega)]
      rw [this]
      simp +contextual (dsimp := false) [e0, e1]
      refine CallK.fl ⟨_, Tryz.func123, rfl, rfl⟩ (follows_ac (Rp.ext hs hex) hok i hi (Rp.ext hx' hex) (hP.ext hex) h2) ?_
      simp +contextual (dsimp := false)
      exact hex
theorem implAudit_ac {own own' : Bool} {ds : List Deed} {sd : Value} {FD : List Nat} {H : Heap} (hs : DeedsR own H ds [sd] FD) {x : Spc} {cs : List Value} {FS : List Nat} (h : SpcR own' H x cs FS) (hP : P10 g10 H) (h2 : g10 < ng) :
    AC Tryz.prog ng 35 [.agg #[sd], .agg cs.toArray] H fun v S' => v = .tuple #[int (auditA ds x).1, int (auditA ds x).2] ∧ S' = H := by
  have h' := h
  obtain ⟨ad, zd, rfl⟩ := hs.form
  obtain ⟨s3, s4, F3, F4, rfl, hF, g1, g2⟩ := h
  obtain ⟨a3, z3, rfl⟩ := g1.form
  obtain ⟨a4, z4, rfl⟩ := g2.form
  refine .flat (AC.go [] Tryz.func35 rfl Tryz.ntmps35 rfl ⟨mixed, by kernel_rfl⟩ ?_)
  simp +contextual (dsimp := false)
  refine CallK.fl ⟨_, Tryz.func49, rfl, rfl⟩ (accValid_ac (Rp.ext hs (Ext.app _ _))) ?_
  cases hok : accOk ds with
  | false => simp +contextual (dsimp := false) [auditA, hok]
  | true =>
    have hl := accOk_len' hok
    have hdk := accOk_deeds' hok
    simp +contextual (dsimp := false)
    refine CallK.fl ⟨_, Tryz.func79, rfl, rfl⟩ (implCheckSpace_ac (Rp.ext h' (Ext.app _ _))) ?_
    by_cases hsp : checkSpace x = 0
    · have hA : auditA ds x = auditI ds x (firstI ds.length fun i => !decide (auditD ds x (dAt ds i) = 0)) := by
        unfold auditA
        rw [if_pos ⟨hok, hsp⟩]
      rw [hA]
      simp +contextual (dsimp := false) [hsp]
      obtain ⟨H0, hH0⟩ : ∃ H0, H0 = H ++ [(⟨.cells #[.slice ad ds.length zd] 58 (0, 0), true, true⟩ : Blk), ⟨.cells #[.slice a3 x.sources.length z3, .slice a4 x.targets.length z4] 44 (0, 0), true, true⟩] := ⟨_, rfl⟩
      have hl0 : H0.length = H.length + 2 := by rw [hH0]; simp
      have hx0 : Ext H H0 := by rw [hH0]; exact Ext.app _ _
      have b0 : H0[H.length]? = some (⟨.cells #[.slice ad ds.length zd] 58 (0, 0), true, true⟩ : Blk) := by rw [hH0]; simp
      have b1 : H0[H.length + 1]? = some ⟨.cells #[.slice a3 x.sources.length z3, .slice a4 x.targets.length z4] 44 (0, 0), true, true⟩ := by rw [hH0]; simp
      rw [← hH0]
      refine LoopA.up (σ := Nat × Heap) [2, 3, 18, 19, 20] (fun i => [(20, int i.1)]) (fun i => i.2) (fun i => i.1 ≤ ds.length ∧ Ext H0 i.2 ∧ ∀ j, j < i.1 → auditD ds x (dAt ds j) = 0) (fun i => ds.length - i.1) (0, _) rfl ⟨by simp, Ext.refl _, by simp⟩ ?_
      rintro ⟨i, hp⟩ ⟨hi, he, hv⟩
      dsimp only at hi he hv
      have hex : Ext H hp := hx0.trans he
      have hle := he.le
      have e0T : ∀ T : Heap, (hp ++ T)[H.length]? = _ := fun T => (List.getElem?_append_left (by omega)).trans ((he _ (by omega)).trans b0)
      have e1T : ∀ T : Heap, (hp ++ T)[H.length + 1]? = _ := fun T => (List.getElem?_append_left (by omega)).trans ((he _ (by omega)).trans b1)
      simp +contextual (dsimp := false)
      refine ifA_dec (fun h3 => ?_) (fun h3 => ?_)
      · obtain ⟨id, o, c, e, f, ow, cs, Fi, E⟩ := SlR.get (Rp.ext hs hex) i h3
        have hrep := E.rep
        obtain ⟨hk, s1, s2, G1, G2, rfl, hFi, hc1, hc2⟩ := E.rep
        obtain ⟨a1, z1, rfl⟩ := hc1.form
        obtain ⟨a2, z2, rfl⟩ := hc2.form
        simp +contextual (dsimp := false) [E.idx, E.goB, E.le, E.lt, E.ext, e0T, e1T]
        refine CallK.fl ⟨_, Tryz.func80, rfl, rfl⟩ (audit_ac (Rp.ext hs (hex.trans (Ext.app _ _))) hdk i h3 (Rp.ext hrep (Ext.app _ _)) (Rp.ext h' (hex.trans (Ext.app _ _))) hsp (hP.ext (hex.trans (Ext.app _ _))) h2) ?_
        simp +contextual (dsimp := false) [wrap_succ (show i < 9223372036854775807 by omega)]
        refine ifA_dec (fun h5 => ?_) (fun h5 => ?_)
        · exact LoopN.of (i + 1, _) rfl ⟨h3, he.trans (Ext.app _ _), fun j hj => by
            rcases Nat.lt_or_ge j i with h | h
            · exact hv j h
            · obtain rfl : j = i := by dsimp only at hj; omega
              rw [dAt_lt h3]; exact h5⟩ (by dsimp only; omega)
        · rw [firstI_hit h3 (by simp [dAt_lt h3, h5]) (fun j hj => by simp [hv j hj])]
          simp [auditI, dAt_lt h3, hex]
      · rw [firstI_none fun j hj => by simp [hv j (by omega)]]
        simp [auditI, hex]
    · simp +contextual (dsimp := false) [auditA, hsp]
set_option maxHeartbeats 1000000 in
theorem specAudit_ac {own own' : Bool} {ds : List Deed} {sd : Value} {FD : List Nat} {H : Heap} (hs : DeedsR own H ds [sd] FD) {x : Spc} {cs : List Value} {FS : List Nat} (h : SpcR own' H x cs FS) :
    AC Tryz.prog ng 34 [.agg #[sd], .agg cs.toArray] H fun v S' => v = .tuple #[int (auditA ds x).1, int (auditA ds x).2] ∧ S' = H := by
  have h' := h
  obtain ⟨ad, zd, rfl⟩ := hs.form
  obtain ⟨s3, s4, F3, F4, rfl, hF, g1, g2⟩ := h
  obtain ⟨a3, z3, rfl⟩ := g1.form
  obtain ⟨a4, z4, rfl⟩ := g2.form
  refine .flat (AC.go [(13, .take 0 <| .take 1 <| .take 2 <| .take 3 <| .take 4 <| .take 7 <| .take 5 <| .take 6 <| .take 8 <| .one 9 [5] <| .take 10 <| .take 11 <| .take 13 <| .take 12 <| .take 14 <| .one 15 [5] <| .take 16 <| .take 17 <| .take 18 <| .take 19 <| .done)] Tryz.func34 rfl Tryz.ntmps34 rfl ⟨mixed, by kernel_rfl⟩ ?_)
  simp +contextual (dsimp := false)
  refine CallK.fl ⟨_, Tryz.func46, rfl, rfl⟩ (l3Ok_ac (Rp.ext hs (Ext.app _ _))) ?_
  cases hok : accOk ds with
  | false => simp +contextual (dsimp := false) [auditA, hok]
  | true =>
    have hl := accOk_len' hok
    have hdk := accOk_deeds' hok
    simp +contextual (dsimp := false)
    refine CallK.fl ⟨_, Tryz.func57, rfl, rfl⟩ (specCheckSpace_ac (Rp.ext h' (Ext.app _ _))) ?_
    by_cases hsp : checkSpace x = 0
    · have hA : auditA ds x = auditI ds x (firstI ds.length fun i => !decide (auditD ds x (dAt ds i) = 0)) := by
        unfold auditA
        rw [if_pos ⟨hok, hsp⟩]
      rw [hA]
      simp +contextual (dsimp := false) [hsp]
      obtain ⟨H0, hH0⟩ : ∃ H0, H0 = H ++ [(⟨.cells #[.slice ad ds.length zd] 58 (0, 0), true, true⟩ : Blk), ⟨.cells #[.slice a3 x.sources.length z3, .slice a4 x.targets.length z4] 44 (0, 0), true, true⟩] := ⟨_, rfl⟩
      have hl0 : H0.length = H.length + 2 := by rw [hH0]; simp
      have hx0 : Ext H H0 := by rw [hH0]; exact Ext.app _ _
      have b0 : H0[H.length]? = some (⟨.cells #[.slice ad ds.length zd] 58 (0, 0), true, true⟩ : Blk) := by rw [hH0]; simp
      have b1 : H0[H.length + 1]? = some ⟨.cells #[.slice a3 x.sources.length z3, .slice a4 x.targets.length z4] 44 (0, 0), true, true⟩ := by rw [hH0]; simp
      rw [← hH0]
      refine LoopA.up (σ := Nat × Heap) [2, 3, 6] (fun i => [(6, int i.1)]) (fun i => i.2) (fun i => i.1 ≤ ds.length ∧ Ext H0 i.2 ∧ ∀ j, j < i.1 → auditD ds x (dAt ds j) = 0) (fun i => ds.length - i.1) (0, _) rfl ⟨by simp, Ext.refl _, by simp⟩ ?_
      rintro ⟨i, hp⟩ ⟨hi, he, hv⟩
      dsimp only at hi he hv
      have hex : Ext H hp := hx0.trans he
      have hle := he.le
      have e0 := (he H.length (by omega)).trans b0
      have e0T : ∀ T : Heap, (hp ++ T)[H.length]? = _ := fun T => (List.getElem?_append_left (by omega)).trans e0
      have e1T : ∀ T : Heap, (hp ++ T)[H.length + 1]? = _ := fun T => (List.getElem?_append_left (by omega)).trans ((he _ (by omega)).trans b1)
      simp +contextual (dsimp := false) [e0]
      refine ifA_dec (fun h3 => ?_) (fun h3 => ?_)
      · obtain ⟨id, o, c, e, f, ow, cs, Fi, E⟩ := SlR.get (Rp.ext hs hex) i h3
        have hrep := E.rep
        obtain ⟨hk, s1, s2, G1, G2, rfl, hFi, hc1, hc2⟩ := E.rep
        obtain ⟨a1, z1, rfl⟩ := hc1.form
        obtain ⟨a2, z2, rfl⟩ := hc2.form
        have hlb := hc2.bound
        simp +contextual (dsimp := false) [e0, E.idx, E.goB, E.le, E.lt, E.ext, e0T, e1T]
        refine CallK.fl ⟨_, Tryz.func75, rfl, rfl⟩ (l4There_ac (Rp.ext h' (hex.trans (Ext.app _ _))) (Rp.ext hrep (Ext.app _ _))) ?_
        have hstop : ∀ c, auditD ds x ds[i] = c → c ≠ 0 → auditI ds x (firstI ds.length fun i => !decide (auditD ds x (dAt ds i) = 0)) = (c, (i : Int)) := by
          rintro c rfl hc
          rw [firstI_hit h3 (by simp [dAt_lt h3, hc]) (fun j hj => by simp [hv j hj])]
          simp [auditI, dAt_lt h3]
        cases hf : fitsD x ds[i] with
        | false =>
          have := hstop 2 (by simp [auditD, hf]) (by decide)
          rw [this]
          simp +contextual (dsimp := false)
          exact hex.trans (Ext.app _ _)
        | true =>
          simp +contextual (dsimp := false)
          obtain ⟨H5, hH5⟩ : ∃ H5, H5 = hp ++ [(⟨.cells #[str ds[i].name, int ds[i].kind, int ds[i].code, str ds[i].text, .slice a1 ds[i].action.length z1, .slice a2 ds[i].links.length z2] 82 (0, 0), true, true⟩ : Blk)] := ⟨_, rfl⟩
          have hx5 : Ext hp H5 := by rw [hH5]; exact Ext.app _ _
          have hl5 : H5.length = hp.length + 1 := by rw [hH5]; simp
          have b5 : H5[hp.length]? = some ⟨.cells #[str ds[i].name, int ds[i].kind, int ds[i].code, str ds[i].text, .slice a1 ds[i].action.length z1, .slice a2 ds[i].links.length z2] 82 (0, 0), true, true⟩ := by rw [hH5]; simp
          have e5 : ∀ j b, hp[j]? = some b → H5[j]? = some b := fun j b hb => (hx5 j (List.getElem?_eq_some_iff.1 hb).1).trans hb
          have e05 := e5 _ _ e0
          have e15 := e5 _ _ ((he _ (by omega)).trans b1)
          rw [← hH5]
          refine LoopA.up (σ := Nat × Heap) [2, 3, 6, 7, 8] (fun x => [(8, int x.1)]) (fun x => x.2)
            (fun y => y.1 ≤ ds[i].links.length ∧ Ext H5 y.2 ∧ ∀ j (hj : j < ds[i].links.length), j < y.1 → lookOkD x ds[i].links[j] = true) (fun y => ds[i].links.length - y.1) (0, _) rfl ⟨by simp, Ext.refl _, by simp⟩ ?_
          rintro ⟨k, hq⟩ ⟨gk, gx, gv⟩
          dsimp only at gk gx gv
          have heq : Ext H hq := hex.trans (hx5.trans gx)
          have hlq := gx.le
          have f0 := (gx _ (by omega)).trans e05
          have f1 := (gx _ (by omega)).trans e15
          have f2 := (gx _ (by omega)).trans b5
          have f1T : ∀ T : Heap, (hq ++ T)[H.length + 1]? = _ := fun T => (List.getElem?_append_left (by omega)).trans f1
          simp +contextual (dsimp := false) [f2]
          refine ifA_dec (fun h6 => ?_) (fun h6 => ?_)
          · obtain ⟨id5, o5, c5, e5, f5, ow5, cs5, Fi5, E5⟩ := SlR.get (Rp.ext hc2 (hx5.trans gx)) k h6
            obtain ⟨rfl, rfl, hok5⟩ := E5.rep
            cases ha : ds[i].links[k].ask with
            | true =>
              simp +contextual (dsimp := false) [f2, E5.idx, E5.goB, E5.le, E5.lt, E5.ext, Lnk.c, ha, wrap_succ (show k < 9223372036854775807 by omega)]
              exact LoopN.of (k + 1, _) rfl ⟨h6, gx.trans (Ext.app _ _), fun j hj hlt => by
                rcases Nat.lt_or_ge j k with h | h
                · exact gv j hj h
                · obtain rfl : j = k := by dsimp only at hlt; omega
                  simp [lookOkD, ha]⟩ (by dsimp only; omega)
            | false =>
              simp +contextual (dsimp := false) [f2, E5.idx, E5.goB, E5.le, E5.lt, E5.ext, Lnk.c, ha, f1T]
              refine CallK.fl ⟨_, Tryz.func76, rfl, rfl⟩ (l2Source_ac (Rp.ext h' (heq.trans (Ext.app _ _))) ds[i].links[k].name) ?_
              have q1 := findI_ge (sNames x) ds[i].links[k].name
              have q2 := findI_ge (tNames x) ds[i].links[k].name
              by_cases m1 : ds[i].links[k].name ∈ sNames x
              · have q1' : 0 ≤ findI (sNames x) ds[i].links[k].name := by rw [q1]; exact m1
                simp +contextual (dsimp := false) [q1', bin_bneq und4, wrap_succ (show k < 9223372036854775807 by omega)]
                have m2 : True := trivial
                refine ifA_intro (fun h7 => ?_) (fun h7 => ?_)
                · exact LoopN.of (k + 1, _) rfl ⟨h6, gx.trans (Ext.app _ _), fun j hj hlt => by
                    rcases Nat.lt_or_ge j k with h | h
                    · exact gv j hj h
                    · obtain rfl : j = k := by dsimp only at hlt; omega
                      simp [lookOkD, ha, h7, hasN, m1, m2]⟩ (by dsimp only; omega)
                · rw [hstop 3 (by simp [auditD, hf, all_first (sp := x) h6 (by simp [lookOkD, ha, h7, hasN, m1, m2])]) (by decide)]
                  exact ⟨⟨rfl, rfl⟩, heq.trans (Ext.app _ _)⟩
              · have q1' : ¬ 0 ≤ findI (sNames x) ds[i].links[k].name := by rw [q1]; exact m1
                simp +contextual (dsimp := false) [q1', f1T]
                refine CallK.fl ⟨_, Tryz.func77, rfl, rfl⟩ (l2Target_ac (Rp.ext h' (heq.trans (Ext.app _ _))) ds[i].links[k].name) ?_
                by_cases m2 : ds[i].links[k].name ∈ tNames x
                · have q2' : 0 ≤ findI (tNames x) ds[i].links[k].name := by rw [q2]; exact m2
                  simp +contextual (dsimp := false) [q2', bin_bneq und4, wrap_succ (show k < 9223372036854775807 by omega)]
                  refine ifA_intro (fun h7 => ?_) (fun h7 => ?_)
                  · exact LoopN.of (k + 1, _) rfl ⟨h6, gx.trans (Ext.app _ _), fun j hj hlt => by
                      rcases Nat.lt_or_ge j k with h | h
                      · exact gv j hj h
                      · obtain rfl : j = k := by dsimp only at hlt; omega
                        simp [lookOkD, ha, h7, hasN, m1, m2]⟩ (by dsimp only; omega)
                  · rw [hstop 3 (by simp [auditD, hf, all_first (sp := x) h6 (by simp [lookOkD, ha, h7, hasN, m1, m2])]) (by decide)]
                    exact ⟨⟨rfl, rfl⟩, heq.trans (Ext.app _ _)⟩
                · have q2' : ¬ 0 ≤ findI (tNames x) ds[i].links[k].name := by rw [q2]; exact m2
                  simp +contextual (dsimp := false) [q2', bin_bneq und4, wrap_succ (show k < 9223372036854775807 by omega)]
                  refine ifA_intro (fun h7 => ?_) (fun h7 => ?_)
                  · rw [hstop 3 (by simp [auditD, hf, all_first (sp := x) h6 (by simp [lookOkD, ha, h7, hasN, m1, m2])]) (by decide)]
                    exact ⟨⟨rfl, rfl⟩, heq.trans (Ext.app _ _)⟩
                  · exact LoopN.of (k + 1, _) rfl ⟨h6, gx.trans (Ext.app _ _), fun j hj hlt => by
                      rcases Nat.lt_or_ge j k with h | h
                      · exact gv j hj h
                      · obtain rfl : j = k := by dsimp only at hlt; omega
                        simp [lookOkD, ha, h7, hasN, m1, m2]⟩ (by dsimp only; omega)
          · have hall := all_upto fun j hj => gv j hj (by omega)
            have haud : auditD ds x ds[i] = folD ds ds[i] := by simp [auditD, hf, hall]
            by_cases h7 : ds[i].kind = 3
            · simp +contextual (dsimp := false) [f2, f0, h7]
              refine CallK.fl ⟨_, Tryz.func78, rfl, rfl⟩ (l4Run_ac (Rp.ext hs heq) hdk i h3 h7) ?_
              simp +contextual (dsimp := false) [wrap_succ (show i < 9223372036854775807 by omega)]
              refine ifA_dec (fun h8 => ?_) (fun h8 => ?_)
              · exact LoopN.of (i + 1, _) rfl ⟨h3, he.trans (hx5.trans gx), fun j hj => by
                  rcases Nat.lt_or_ge j i with h | h
                  · exact hv j h
                  · obtain rfl : j = i := by dsimp only at hj; omega
                    rw [dAt_lt h3, haud]; exact h8⟩ (by dsimp only; omega)
              · have := hstop _ haud h8
                rw [this]
                simp [heq]
            · simp +contextual (dsimp := false) [f2, h7, wrap_succ (show i < 9223372036854775807 by omega)]
              exact LoopN.of (i + 1, _) rfl ⟨h3, he.trans (hx5.trans gx), fun j hj => by
                rcases Nat.lt_or_ge j i with h | h
                · exact hv j h
                · obtain rfl : j = i := by dsimp only at hj; omega
                  rw [dAt_lt h3, haud]; simp [folD, h7]⟩ (by dsimp only; omega)
      · rw [firstI_none fun j hj => by simp [hv j (by omega)]]
        simp [auditI, hex]
    · simp +contextual (dsimp := false) [auditA, hsp]
end Go.Proofs.YtephpieeibcihaaGreatDoor

/- The places of a list of accounts at which something holds. No condition. -/
set_option linter.unusedSimpArgs false
set_option linter.unusedVariables false
namespace Go.Am
open Go
/-- The places, up to n, at which something holds. -/
def whereB (p : Nat → Bool) (n : Nat) : List Int := ((List.range n).filter p).map fun (i : Nat) => (i : Int)
theorem whereB_s (p : Nat → Bool) (n : Nat) : whereB p (n + 1) = whereB p n ++ (if p n then [(n : Int)] else []) := by
  unfold whereB
  rw [List.range_succ, List.filter_append, List.map_append]
  congr 1
  cases h : p n <;> simp [h]
theorem whereB_len (p : Nat → Bool) (n : Nat) : (whereB p n).length ≤ n := by
  unfold whereB
  rw [List.length_map]
  exact Nat.le_trans (List.length_filter_le _ _) (by simp)
def accAt (l : List (List Deed)) (i : Nat) : List Deed := l.getD i []
theorem accAt_lt {l : List (List Deed)} {i : Nat} (h : i < l.length) : accAt l i = l[i] := by simp [accAt, List.getD, h]
end Go.Am
namespace Go.Proofs.YtephpieeibcihaaGreatDoor
open Go Go.Am Go.Proofs
set_option maxRecDepth 20000
variable {ng : Nat}
theorem which_ac {own : Bool} {l : List (List Deed)} {s : Value} {F : List Nat} {H : Heap} (hs : AccsR own H l [s] F) {f : FuncId} {ys : List Value} (ho : CallOk Tryz.prog f) (p : Nat → Bool) (hcall : ∀ H', Ext H H' → ∀ i (hi : i < l.length) sd FD, DeedsR own H' l[i] [sd] FD → AC Tryz.prog ng f (.agg #[sd] :: ys) H' fun v S' => v = .bool (p i) ∧ S' = H') :
    AC Tryz.prog ng 94 [s, .func (.func f) #[] ys.toArray] H fun v S' => ∃ F', Ext H S' ∧ IntsR true S' (if 50 < l.length then [] else whereB p l.length) [v] F' ∧ Fresh H.length F' := by
  obtain ⟨a, z, rfl⟩ := hs.form
  refine AC.go [] Tryz.func94 rfl Tryz.ntmps94 rfl ⟨mixed, by kernel_rfl⟩ ?_
  by_cases k1 : 50 < l.length
  · have k1' : (50 : Int) < l.length := by omega
    rw [if_pos k1]
    simp +contextual (dsimp := false) [k1']
    exact ⟨[], SlR.nil, Fresh.nil _⟩
  have k1' : ¬ (50 : Int) < l.length := by omega
  rw [if_neg k1]
  simp +contextual (dsimp := false) [k1']
  refine LoopA.up (σ := Nat × Heap × Value × List Nat) [1, 5, 11, 12, 13] (fun x => [(5, x.2.2.1), (13, int x.1)]) (fun x => x.2.1)
    (fun y => y.1 ≤ l.length ∧ Ext H y.2.1 ∧ IntsR true y.2.1 (whereB p y.1) [y.2.2.1] y.2.2.2 ∧ Fresh H.length y.2.2.2) (fun y => l.length - y.1) (0, _, .slice none 0 0, []) rfl
    ⟨by simp, Ext.refl _, SlR.nil, Fresh.nil _⟩ ?_
  rintro ⟨i, hp, sv, FB⟩ ⟨gi, gx, gr, gf⟩
  dsimp only at gi gx gr gf
  have hle := gx.le
  have hwl := whereB_len p i
  have hgr := gr
  obtain ⟨ar, zr, rfl⟩ := gr.form
  simp +contextual (dsimp := false)
  refine ifA_dec (fun h3 => ?_) (fun h3 => ?_)
  · obtain ⟨id, o, cc, e, f1, ow, cs, Fi, E⟩ := SlR.get (Rp.ext hs gx) i h3
    have hrep := E.rep
    obtain ⟨s1, rfl⟩ := List.length_eq_one_iff.1 (Rp.len hrep)
    obtain ⟨a1, z1, rfl⟩ := hrep.form
    simp +contextual (dsimp := false) [E.idx, E.goB, E.lt, E.le, E.ext]
    refine CallK.fl ho (hcall _ (gx.trans (Ext.app _ _)) i h3 _ _ (Rp.ext hrep (Ext.app _ _))) ?_
    have hws := whereB_s p i
    cases hpi : p i with
    | false =>
      rw [hpi] at hws
      simp +contextual (dsimp := false) [wrap_succ (show i < 9223372036854775807 by omega)]
      refine LoopN.of (i + 1, _, _, FB) rfl ⟨h3, gx.trans (Ext.app _ _), ?_, gf⟩ (by dsimp only; omega)
      dsimp only
      rw [hws]
      simpa using Rp.ext hgr (Ext.app _ _)
    | true =>
      rw [hpi] at hws
      simp only [if_true] at hws
      simp +contextual (dsimp := false) [wrap_succ (show i < 9223372036854775807 by omega)]
      refine AppK.one (R := intR') (ex := 3) (fx := (0, 0)) (ox := true) (base := H.length) (x := (i : Int)) (cx := [int i]) (Fx := []) slt71 und71 (Rp.ext hgr (Ext.app _ _)) gf (by simp) ⟨rfl, rfl, by omega, by omega⟩ (Fresh.nil _) (by simp) (by simp; omega) (by omega) (by decide) ?_
      intro s2 H2 F2 q1 q2 q3 q4 q5
      simp only [List.length_append, List.length_cons, List.length_nil] at q3 q4
      simp +contextual (dsimp := false) [wrap_succ (show i < 9223372036854775807 by omega)]
      refine LoopN.of (i + 1, H2, s2, F2) rfl ⟨h3, fun j hj => (q4 j (by omega) (fun hm => by have := gf.1 j hm; omega)).trans ((List.getElem?_append_left (by omega)).trans (gx j hj)), ?_, q2⟩ (by dsimp only; omega)
      dsimp only
      rw [hws]
      exact q1
  · obtain rfl : i = l.length := by omega
    exact ⟨gx, FB, hgr, gf⟩
end Go.Proofs.YtephpieeibcihaaGreatDoor

/- Stale. No condition. -/
set_option linter.unusedSimpArgs false
set_option linter.unusedVariables false
namespace Go.Am
open Go
def staleB (l : List (List Deed)) (sp : Spc) (i : Nat) : Bool := !decide ((auditA (accAt l i) sp).1 = 0)
def staleL (l : List (List Deed)) (sp : Spc) : List Int := if 50 < l.length ∨ checkSpace sp ≠ 0 then [] else whereB (staleB l sp) l.length
theorem staleL_len (l : List (List Deed)) (sp : Spc) : (staleL l sp).length ≤ 50 := by
  unfold staleL
  split
  · simp
  · rename_i h
    have := whereB_len (staleB l sp) l.length
    omega
end Go.Am
namespace Go.Proofs.YtephpieeibcihaaGreatDoor
open Go Go.Am Go.Proofs
set_option maxRecDepth 20000
variable {ng : Nat}
theorem specStale_ac {own own' : Bool} {l : List (List Deed)} {s : Value} {F : List Nat} {H : Heap} (hs : AccsR own H l [s] F) {x : Spc} {c : List Value} {FS : List Nat} (h : SpcR own' H x c FS) :
    AC Tryz.prog ng 41 [s, .agg c.toArray] H fun v S' => ∃ F', Ext H S' ∧ IntsR true S' (staleL l x) [v] F' ∧ Fresh H.length F' := by
  obtain ⟨a, z, rfl⟩ := hs.form
  have h' := h
  obtain ⟨s3, s4, F3, F4, rfl, hF, g1, g2⟩ := h
  obtain ⟨a3, z3, rfl⟩ := g1.form
  obtain ⟨a4, z4, rfl⟩ := g2.form
  refine AC.go [] Tryz.func41 rfl Tryz.ntmps41 rfl ⟨mixed, by kernel_rfl⟩ ?_
  unfold staleL
  by_cases k1 : 50 < l.length
  · have k1' : (50 : Int) < l.length := by omega
    rw [if_pos (.inl k1)]
    simp +contextual (dsimp := false) [k1']
    exact ⟨[H.length + 1], SlR.mt (e := 3) (f := (0, 0)) (by simp), Fresh.one (by omega)⟩
  have k1' : ¬ (50 : Int) < l.length := by omega
  simp +contextual (dsimp := false) [k1']
  refine CallK.fl ⟨_, Tryz.func57, rfl, rfl⟩ (specCheckSpace_ac (Rp.ext h' (Ext.app _ _))) ?_
  by_cases k2 : checkSpace x = 0
  · rw [if_neg (by rintro (h | h); exact k1 h; exact h k2)]
    simp +contextual (dsimp := false) [k2]
    refine LoopA.up (σ := Nat × Heap × Value × List Nat) [0, 3, 5, 6] (fun x => [(5, x.2.2.1), (6, int x.1)]) (fun x => x.2.1)
      (fun y => y.1 ≤ l.length ∧ H.length + 1 ≤ y.2.1.length ∧ (∀ j, j < H.length + 1 → y.2.1[j]? = (H ++ [(⟨.cells #[.slice a3 x.sources.length z3, .slice a4 x.targets.length z4] 44 (0, 0), true, true⟩ : Blk)])[j]?) ∧ IntsR true y.2.1 (whereB (staleB l x) y.1) [y.2.2.1] y.2.2.2 ∧ Fresh (H.length + 1) y.2.2.2) (fun y => l.length - y.1) (0, _, _, [H.length + 1]) rfl
      ⟨by simp, by simp, fun j hj => ?_, SlR.mt (e := 3) (f := (0, 0)) (by simp), Fresh.one (Nat.le_refl _)⟩ ?_
    · rw [List.getElem?_append, List.getElem?_append]
      split
      · rfl
      · rw [show j - H.length = 0 by omega]; rfl
    rintro ⟨i, hp, sv, FB⟩ ⟨gi, gl, gx, gr, gf⟩
    dsimp only at gi gl gx gr gf
    have hex : Ext H hp := fun j hj => (gx j (by omega)).trans (get_ext hj)
    have e0 : hp[H.length]? = some (⟨.cells #[.slice a3 x.sources.length z3, .slice a4 x.targets.length z4] 44 (0, 0), true, true⟩ : Blk) := (gx _ (by omega)).trans (by simp)
    have hwl := whereB_len (staleB l x) i
    have hgr := gr
    obtain ⟨ar, zr, rfl⟩ := gr.form
    simp +contextual (dsimp := false)
    refine ifA_dec (fun h3 => ?_) (fun h3 => ?_)
    · obtain ⟨id, o, cc, e, f, ow, cs, Fi, E⟩ := SlR.get (Rp.ext hs hex) i h3
      have hrep := E.rep
      obtain ⟨s1, rfl⟩ := List.length_eq_one_iff.1 (Rp.len hrep)
      obtain ⟨a1, z1, rfl⟩ := hrep.form
      simp +contextual (dsimp := false) [E.idx, E.goB, E.lt, E.le, E.ext, e0]
      refine CallK.fl ⟨_, Tryz.func34, rfl, rfl⟩ (specAudit_ac hrep (Rp.ext h' hex)) ?_
      have hws := whereB_s (staleB l x) i
      have hsb : staleB l x i = !decide ((auditA l[i] x).1 = 0) := by unfold staleB; rw [accAt_lt h3]
      simp +contextual (dsimp := false) [wrap_succ (show i < 9223372036854775807 by omega)]
      refine ifA_dec (fun h4 => ?_) (fun h4 => ?_)
      · rw [hsb, h4] at hws
        refine LoopN.of (i + 1, hp, _, FB) rfl ⟨h3, gl, gx, ?_, gf⟩ (by dsimp only; omega)
        dsimp only
        rw [hws]
        simpa using hgr
      · rw [hsb] at hws
        simp only [h4, decide_false, Bool.not_false, if_true] at hws
        refine AppK.one (R := intR') (ex := 3) (fx := (0, 0)) (ox := true) (base := H.length + 1) (x := (i : Int)) (cx := [int i]) (Fx := []) slt71 und71 (Rp.ext hgr (Ext.app _ _)) gf (by simp) ⟨rfl, rfl, by omega, by omega⟩ (Fresh.nil _) (by simp) (by simp; omega) (by omega) (by decide) ?_
        intro s2 H2 F2 q1 q2 q3 q4 q5
        simp only [List.length_append, List.length_cons, List.length_nil] at q3 q4
        simp +contextual (dsimp := false) [wrap_succ (show i < 9223372036854775807 by omega)]
        refine LoopN.of (i + 1, H2, s2, F2) rfl ⟨h3, by dsimp only; omega, fun j hj => (q4 j (by omega) (fun hm => by have := gf.1 j hm; omega)).trans ((List.getElem?_append_left (by omega)).trans (gx j hj)), ?_, q2⟩ (by dsimp only; omega)
        dsimp only
        rw [hws]
        exact q1
    · obtain rfl : i = l.length := by omega
      exact ⟨hex, FB, hgr, gf.weak (by omega)⟩
  · rw [if_pos (.inr k2)]
    simp +contextual (dsimp := false) [k2]
    exact ⟨[H.length + 1], SlR.mt (e := 3) (f := (0, 0)) (by simp), Fresh.one (by omega)⟩
theorem staleF_ac {own own' : Bool} {ds : List Deed} {sd : Value} {FD : List Nat} {H : Heap} (hs : DeedsR own H ds [sd] FD) {x : Spc} {c : List Value} {FS : List Nat} (h : SpcR own' H x c FS) {k : Nat} (hk : H[k]? = some ⟨.cells c.toArray 44 (0, 0), true, true⟩) (hP : P10 g10 H) (h2 : g10 < ng) :
    AC Tryz.prog ng 95 [.agg #[sd], .pointer (some ⟨k, 0, none⟩)] H fun v S' => v = .bool (!decide ((auditA ds x).1 = 0)) ∧ S' = H := by
  obtain ⟨ad, zd, rfl⟩ := hs.form
  have h' := h
  obtain ⟨s3, s4, F3, F4, rfl, hF, g1, g2⟩ := h
  obtain ⟨a3, z3, rfl⟩ := g1.form
  obtain ⟨a4, z4, rfl⟩ := g2.form
  have hkl := (List.getElem?_eq_some_iff.1 hk).1
  have hkT : ∀ T : Heap, (H ++ T)[k]? = _ := fun T => (List.getElem?_append_left hkl).trans hk
  refine .flat (AC.go [] Tryz.func95 rfl Tryz.ntmps95 rfl ⟨mixed, by kernel_rfl⟩ ?_)
  simp +contextual (dsimp := false) [hkT]
  refine CallK.fl ⟨_, Tryz.func35, rfl, rfl⟩ (implAudit_ac (Rp.ext hs (Ext.app _ _)) (Rp.ext h' (Ext.app _ _)) (hP.ext (Ext.app _ _)) h2) ?_
  simp +contextual (dsimp := false)
theorem implStale_ac {own own' : Bool} {l : List (List Deed)} {s : Value} {F : List Nat} {H : Heap} (hs : AccsR own H l [s] F) {x : Spc} {c : List Value} {FS : List Nat} (h : SpcR own' H x c FS) (hP : P10 g10 H) (h2 : g10 < ng) :
    AC Tryz.prog ng 42 [s, .agg c.toArray] H fun v S' => ∃ F', Ext H S' ∧ IntsR true S' (staleL l x) [v] F' ∧ Fresh H.length F' := by
  obtain ⟨a, z, rfl⟩ := hs.form
  have h' := h
  obtain ⟨s3, s4, F3, F4, rfl, hF, g1, g2⟩ := h
  obtain ⟨a3, z3, rfl⟩ := g1.form
  obtain ⟨a4, z4, rfl⟩ := g2.form
  refine AC.go [] Tryz.func42 rfl Tryz.ntmps42 rfl ⟨mixed, by kernel_rfl⟩ ?_
  unfold staleL
  simp +contextual (dsimp := false)
  refine CallK.fl ⟨_, Tryz.func79, rfl, rfl⟩ (implCheckSpace_ac (Rp.ext h' (Ext.app _ _))) ?_
  by_cases k2 : checkSpace x = 0
  · simp +contextual (dsimp := false) [k2]
    refine CallK.of ⟨_, Tryz.func94, rfl, rfl⟩ (which_ac (p := staleB l x) (f := 95) (ys := [.pointer (some ⟨H.length, 0, none⟩)]) (Rp.ext hs (Ext.app _ _)) ⟨_, Tryz.func95, rfl, rfl⟩ ?_) ?_
    · intro H' he i hi sd FD hd
      rw [show staleB l x i = !decide ((auditA l[i] x).1 = 0) by unfold staleB; rw [accAt_lt hi]]
      exact staleF_ac hd (Rp.ext h' ((Ext.app _ _).trans he)) ((he _ (by simp)).trans (by simp)) (hP.ext ((Ext.app _ _).trans he)) h2
    · rintro v S' ⟨F', he, hr, hf⟩
      simp +contextual (dsimp := false)
      refine ⟨(Ext.app _ _).trans he, F', ?_, hf.weak (by simp)⟩
      simpa [k2] using hr
  · rw [if_pos (.inr k2)]
    simp +contextual (dsimp := false) [k2]
    exact ⟨[], SlR.nil, Fresh.nil _⟩
end Go.Proofs.YtephpieeibcihaaGreatDoor
