/- Two instructions held against each other as the language does it. No condition. -/
import Derived.Test.YtbigpkfdeaigeaaDoorF1
import Derived.Laws.StructEq
set_option linter.unusedSimpArgs false
set_option linter.unusedVariables false
namespace Go.Am
open Go
variable {P : Program}
theorem pur_und {t : TypeId} {d : TypeDesc} (h : P.underlying t = some d) : pur P (underlying t) = some d := by
  simp only [underlying, program]
  show pur P (Sem.bind (.program .pure) _) = _
  simp only [Sem.bind, pur, h]
  rfl
theorem pur_prog : pur P program = some P := rfl
theorem pur_eqStruct {d : Nat} {t : TypeId} {fs : Array Field} {xs ys : Array Value} (ht : P.underlying t = some (.struct fs)) (hp : P.stoodInHeld t = false) :
    pur P (Op.equalIn (d + 1) t (.agg xs) (.agg ys)) = pur P (Op.eqFields d xs ys fs.toList) := by
  simp only [Op.equalIn, pur_bind, pur_und ht, Option.bind_some, pur_prog, hp, Bool.false_eq_true, if_false]
  rw [← Array.forIn_toList]
  generalize fs.toList = l
  induction l with
  | nil => rfl
  | cons f l ih =>
    simp only [List.forIn_cons, Op.eqFields, pur_bind]
    by_cases hn : f.name ≠ "_"
    · rw [if_pos hn, if_pos hn]
      simp only [pur_bind]
      cases pur P (part f.type xs f.offset) with
      | none => rfl
      | some a =>
        simp only [Option.bind_some]
        cases pur P (part f.type ys f.offset) with
        | none => rfl
        | some b =>
          simp only [Option.bind_some]
          cases pur P (Op.equalIn d f.type a b) with
          | none => rfl
          | some r =>
            cases r with
            | false => rfl
            | true =>
              simp only [Option.bind_some, Bool.not_true, Bool.false_eq_true, if_false]
              exact ih
    · rw [if_neg hn, if_neg hn]
      exact ih
theorem pur_eqInt {d : Nat} {t : TypeId} {k : IntKind} {a b : Int} (h : P.underlying t = some (.int k)) : pur P (Op.equalIn (d + 1) t (.int k a) (.int k b)) = some (a == b) := by
  simp only [Op.equalIn, pur_bind, pur_und h, Option.bind_some]
  rw [if_pos trivial]
  rfl
theorem pur_eqStr {d : Nat} {t : TypeId} {a b : ByteArray} (h : P.underlying t = some .string) : pur P (Op.equalIn (d + 1) t (.string a) (.string b)) = some (a == b) := by
  simp only [Op.equalIn, pur_bind, pur_und h, Option.bind_some]
  rfl
end Go.Am
namespace Go.Proofs.YtbigpkfdeaigeaaDoor
open Go Go.Am
set_option maxRecDepth 100000
theorem part_op (a n : Int) (s : ByteArray) : pur Tryd.prog (part 3 #[.int .i64 a, .string s, .int .i64 n] 0) = some (.int .i64 a) := by kernel_rfl
theorem part_n (a n : Int) (s : ByteArray) : pur Tryd.prog (part 3 #[.int .i64 a, .string s, .int .i64 n] 2) = some (.int .i64 n) := by kernel_rfl
theorem part_t (a n : Int) (s : ByteArray) : pur Tryd.prog (part 9 #[.int .i64 a, .string s, .int .i64 n] 1) = some (.string s) := by kernel_rfl
theorem ins_held : Tryd.prog.stoodInHeld 58 = false := by kernel_rfl
theorem ins_guard : Tryd.prog.eqGuardType Tryd.prog.depth 58 = false := by kernel_rfl
theorem ins_fields : ∃ f1 f2 f3 : Field, Tryd.prog.underlying 58 = some (.struct #[f1, f2, f3]) ∧ f1.name ≠ "_" ∧ f2.name ≠ "_" ∧ f3.name ≠ "_" ∧ f1.type = 3 ∧ f2.type = 9 ∧ f3.type = 3 ∧ f1.offset = 0 ∧ f2.offset = 1 ∧ f3.offset = 2 :=
  ⟨_, _, _, und58, by decide, by decide, by decide, rfl, rfl, rfl, rfl, rfl, rfl⟩
theorem pur_insEq (x y : Ins) (d : Nat) : pur Tryd.prog (Op.equalIn (d + 1 + 1) 58 (.agg x.c.toArray) (.agg y.c.toArray)) = some (decide (x = y)) := by
  obtain ⟨f1, f2, f3, hu, n1, n2, n3, t1, t2, t3, o1, o2, o3⟩ := ins_fields
  obtain ⟨xo, xt, xn⟩ := x
  obtain ⟨yo, yt, yn⟩ := y
  rw [pur_eqStruct hu ins_held]
  simp only [Op.eqFields, n1, n2, n3, t1, t2, t3, o1, o2, o3, pur_bind, ne_eq, not_false_eq_true, if_true, Ins.c]
  rw [show (#[Value.int .i64 xo, .string ⟨⟨xt⟩⟩, .int .i64 xn] : Array Value) = [Value.int .i64 xo, .string ⟨⟨xt⟩⟩, .int .i64 xn].toArray from rfl] at *
  have a1 := part_op xo xn ⟨⟨xt⟩⟩
  have a2 := part_t xo xn ⟨⟨xt⟩⟩
  have a3 := part_n xo xn ⟨⟨xt⟩⟩
  have b1 := part_op yo yn ⟨⟨yt⟩⟩
  have b2 := part_t yo yn ⟨⟨yt⟩⟩
  have b3 := part_n yo yn ⟨⟨yt⟩⟩
  simp only [a1, a2, a3, b1, b2, b3, Option.bind_some, pur_eqInt und3, pur_eqStr und9]
  by_cases h1 : xo = yo
  · subst h1
    simp only [beq_self_eq_true, Bool.not_true, Bool.false_eq_true, if_false, pur_bind, a2, b2, Option.bind_some, pur_eqStr und9]
    have hbs : ((⟨⟨xt⟩⟩ : ByteArray) == ⟨⟨yt⟩⟩) = decide (xt = yt) := by rw [beq_toListBytes, toList_mk, toList_mk, beq_list]
    rw [hbs]
    by_cases h2 : xt = yt
    · subst h2
      simp only [decide_true, Bool.not_true, Bool.false_eq_true, if_false, pur_bind, a3, b3, Option.bind_some, pur_eqInt und3]
      by_cases h3 : xn = yn
      · subst h3
        simp only [beq_self_eq_true, Bool.not_true, Bool.false_eq_true, if_false, decide_true]
        rfl
      · have e : (xn == yn) = false := by simp [h3]
        simp only [e, Bool.not_false, if_true]
        simp [h3, pur]
        rfl
    · simp only [h2, decide_false, Bool.not_false, if_true]
      simp [h2, pur]
      rfl
  · have e : (xo == yo) = false := by simp [h1]
    simp only [e, Bool.not_false, if_true]
    simp [h1, pur]
    rfl
theorem bin_insne (x y : Ins) {u v : Operand} : bin? Tryd.prog .neq 58 u v (.agg x.c.toArray) (.agg y.c.toArray) = some (.bool (!decide (x = y))) := by
  have hf : ∀ z : Ins, flat (.agg z.c.toArray) = true := fun z => by simp [flat, flat0, Ins.c]
  have hb : (do eqGuard .neq 58 u v (.agg x.c.toArray) (.agg y.c.toArray); binOp .neq 58 (.agg x.c.toArray) (.agg y.c.toArray) : Sem Value) = (eqGuard .neq 58 u v (.agg x.c.toArray) (.agg y.c.toArray) >>= fun _ => Op.equal 58 (.agg x.c.toArray) (.agg y.c.toArray) >>= fun b => pure (.bool (!b))) := rfl
  have hg : pur Tryd.prog (eqGuard .neq 58 u v (.agg x.c.toArray) (.agg y.c.toArray)) = some () := by
    simp only [eqGuard, Bool.not_true, Bool.false_eq_true, if_false, pur_bind, pur_prog, Option.bind_some, ins_guard, Bool.not_false, if_true]
    rfl
  unfold bin? purF
  rw [hf, hf, hb, pur_bind, hg]
  simp only [Bool.and_true, if_true, Option.bind_some, pur_bind]
  rw [show Op.equal 58 (.agg x.c.toArray) (.agg y.c.toArray) = Op.equalIn (9998 + 1 + 1) 58 (.agg x.c.toArray) (.agg y.c.toArray) from rfl, pur_insEq]
  rfl
end Go.Proofs.YtbigpkfdeaigeaaDoor
