import Derived.Test.YtbigpkfdeaigeaaGreatDoorByt
import Derived.Test.YtbigpkfdeaigeaaGreatDoorDepL
import Derived.Test.YtbigpkfdeaigeaaGreatDoorAcc
import Derived.Test.YtbigpkfdeaigeaaGreatDoorSrc
import Derived.Test.YtbigpkfdeaigeaaGreatDoorF2
import Derived.Laws.StructEq
import Derived.Test.YtbigpkfdeaigeaaGreatDoorDat2
/- Reading lines of instructions: a line is that of one instruction at most. No condition. -/
set_option linter.unusedSimpArgs false
set_option linter.unusedVariables false
namespace Go.Am
open Go
def hexV (b : UInt8) : Nat := if b.toNat ≤ 57 then b.toNat - 48 else b.toNat - 87
theorem hexV_D {n : Nat} (h : n < 16) : hexV (hexD n) = n := by
  have : ∀ n : Fin 16, hexV (hexD n.val) = n.val := by decide
  exact this ⟨n, h⟩
/-- What stands in quotes, read. -/
def unqB : List UInt8 → List UInt8
  | [] => []
  | b :: r => if b = 92 then (match r with
    | a :: c :: r' => UInt8.ofNat (16 * hexV a + hexV c) :: unqB r'
    | r => b :: unqB r) else b :: unqB r
theorem unqB_q (b : UInt8) (r : List UInt8) : unqB (qByte b ++ r) = b :: unqB r := by
  unfold qByte
  cases hp : plainB b with
  | true =>
    have h92 : b ≠ 92 := by rintro rfl; simp [plainB] at hp
    rw [if_pos rfl, List.singleton_append]
    rcases r with _ | ⟨a, _ | ⟨c, r⟩⟩ <;> simp [unqB, h92]
  | false =>
    rw [if_neg (by simp)]
    show unqB (92 :: hexD (b.toNat / 16) :: hexD (b.toNat % 16) :: r) = b :: unqB r
    have hb := b.toNat_lt
    rw [unqB, if_pos rfl]
    rw [hexV_D (by omega), hexV_D (by omega), show 16 * (b.toNat / 16) + b.toNat % 16 = b.toNat by omega]
    simp
theorem unqB_body (s : List UInt8) : unqB (qBody s) = s := by
  induction s with
  | nil => rfl
  | cons b s ih =>
    show unqB (qByte b ++ qBody s) = _
    rw [unqB_q, ih]
theorem quoteL_inj {s t : List UInt8} (h : quoteL s = quoteL t) : s = t := by
  unfold quoteL at h
  have h1 := (List.append_inj_left' (List.cons.inj h).2 rfl)
  rw [← unqB_body s, h1, unqB_body]
/-- A number's digits, read. -/
def valD (l : List UInt8) : Nat := l.foldl (fun a b => 10 * a + (b.toNat - 48)) 0
theorem valD_app (l : List UInt8) (b : UInt8) : valD (l ++ [b]) = 10 * valD l + (b.toNat - 48) := by simp [valD]
theorem dig_val (n : Nat) : (dig n).toNat - 48 = n % 10 := by
  have : ∀ k : Fin 10, (UInt8.ofNat (48 + k.val)).toNat - 48 = k.val := by decide
  exact this ⟨n % 10, by omega⟩
theorem valD_dec (n : Nat) : valD (decN n) = n := by
  induction n using Nat.strongRecOn with
  | _ n ih =>
    by_cases h : n < 10
    · rw [decN_small h]
      have := valD_app [] (dig n)
      rw [List.nil_append] at this
      rw [this, dig_val]
      simp [valD]
      omega
    · rw [decN_big h, valD_app, ih (n / 10) (by omega), dig_val]
      omega
theorem decN_inj {n m : Nat} (h : decN n = decN m) : n = m := by rw [← valD_dec n, h, valD_dec]
/-- The word ahead. -/
def headW (s : List UInt8) : List UInt8 := s.takeWhile fun b => b ≠ 32
def opOf (w : List UInt8) : Int := ((List.range 15).find? fun k => (wordOf ((k + 1 : Nat) : Int)).1 = w).elim 0 fun k => (k + 1 : Nat)
theorem opOf_word {op : Int} (h1 : 1 ≤ op) (h2 : op ≤ 15) : opOf (wordOf op).1 = op ∧ headW (wordOf op).1 = (wordOf op).1 ∧ ∀ r, headW ((wordOf op).1 ++ 32 :: r) = (wordOf op).1 := by
  obtain ⟨n, rfl⟩ : ∃ n : Nat, op = n := ⟨op.toNat, by omega⟩
  have h : n = 1 ∨ n = 2 ∨ n = 3 ∨ n = 4 ∨ n = 5 ∨ n = 6 ∨ n = 7 ∨ n = 8 ∨ n = 9 ∨ n = 10 ∨ n = 11 ∨ n = 12 ∨ n = 13 ∨ n = 14 ∨ n = 15 := by omega
  rcases h with rfl | rfl | rfl | rfl | rfl | rfl | rfl | rfl | rfl | rfl | rfl | rfl | rfl | rfl | rfl
  all_goals exact ⟨by decide, by decide, fun r => by simp [headW, wordOf]⟩
theorem headW_line {x : Ins} (h1 : 1 ≤ x.op) (h2 : x.op ≤ 15) : headW (lineL x) = (wordOf x.op).1 := by
  obtain ⟨-, h3, h4⟩ := opOf_word h1 h2
  unfold lineL
  split
  · exact h4 _
  · split
    · exact h4 _
    · exact h3
theorem kind_topN {op : Int} (h1 : 1 ≤ op) (h2 : op ≤ 15) : ((wordOf op).2 = 1 → op = 1) ∧ ((wordOf op).2 ≤ 1 → max 0 (topN op) = 0) := by
  obtain ⟨n, rfl⟩ : ∃ n : Nat, op = n := ⟨op.toNat, by omega⟩
  have h : n = 1 ∨ n = 2 ∨ n = 3 ∨ n = 4 ∨ n = 5 ∨ n = 6 ∨ n = 7 ∨ n = 8 ∨ n = 9 ∨ n = 10 ∨ n = 11 ∨ n = 12 ∨ n = 13 ∨ n = 14 ∨ n = 15 := by omega
  rcases h with rfl | rfl | rfl | rfl | rfl | rfl | rfl | rfl | rfl | rfl | rfl | rfl | rfl | rfl | rfl
  all_goals exact ⟨by decide, by decide⟩
theorem lineL_inj {x y : Ins} (hx : x.valid = true) (hy : y.valid = true) (h : lineL x = lineL y) : x = y := by
  simp only [Ins.valid, Bool.and_eq_true, decide_eq_true_eq, Bool.or_eq_true, List.isEmpty_iff] at hx hy
  obtain ⟨⟨⟨⟨⟨a1, a2⟩, a3⟩, a4⟩, a5⟩, a6⟩ := hx
  obtain ⟨⟨⟨⟨⟨b1, b2⟩, b3⟩, b4⟩, b5⟩, b6⟩ := hy
  have hop : x.op = y.op := by
    rw [← (opOf_word a1 a2).1, ← headW_line a1 a2, h, headW_line b1 b2, (opOf_word b1 b2).1]
  obtain ⟨op, tx, xn⟩ := x
  obtain ⟨op', ty, yn⟩ := y
  dsimp only at hop a1 a2 a3 a4 a5 a6 b1 b2 b3 b4 b5 b6
  subst hop
  obtain ⟨k1, k2⟩ := kind_topN a1 a2
  unfold lineL at h
  dsimp only at h
  by_cases c1 : (wordOf op).2 = 1
  · rw [if_pos c1, if_pos c1] at h
    have h' := quoteL_inj (List.cons.inj (List.append_cancel_left h)).2
    have := k2 (by omega)
    have e : xn = yn := by omega
    rw [h', e]
  · rw [if_neg c1, if_neg c1] at h
    have ht : op ≠ 1 := by rintro rfl; exact c1 (by decide)
    have e1 : tx = [] := a4.resolve_left ht
    have e2 : ty = [] := b4.resolve_left ht
    by_cases c2 : 1 < (wordOf op).2
    · rw [if_pos c2, if_pos c2] at h
      have h' := decN_inj (List.cons.inj (List.append_cancel_left h)).2
      have e : xn = yn := by omega
      rw [e1, e2, e]
    · have := k2 (by omega)
      have e : xn = yn := by omega
      rw [e1, e2, e]
end Go.Am

/- What accounts tell of a name, and where they disagree. No condition. -/
namespace Go.Proofs.YtbigpkfdeaigeaaGreatDoor
open Go Go.Am Go.Proofs
set_option linter.unusedSimpArgs false
set_option linter.unusedVariables false

/-- What is told: 4 something, 5 not something. -/
structure Tel where
  kind : Int
  text : List UInt8
  act : List Ins
deriving DecidableEq
def telD (nm : List UInt8) (d : Deed) : List Tel := if d.name = nm then [⟨d.kind, if d.kind = 1 then d.text else [], d.action⟩] else []
def telL (nm : List UInt8) (l : Lnk) : List Tel := if l.name = nm ∧ l.ask = false then [⟨if l.has then 4 else 5, [], []⟩] else []
def tels (nm : List UInt8) (ds : List Deed) : List Tel := ds.flatMap fun d => telD nm d ++ d.links.flatMap (telL nm)
def thereT (x : Tel) : Bool := decide (x.kind = 1) || decide (x.kind = 3) || decide (x.kind = 4)
def agreeT (x y : Tel) : Bool :=
  if thereT x ≠ thereT y then false else if 3 < x.kind ∨ 3 < y.kind ∨ thereT x = false then true else
    decide (x.kind = y.kind) && decide (x.text = y.text) && decide (x.act = y.act)
def odds (a b : List Deed) (nm : List UInt8) : Bool := (tels nm a).any fun x => (tels nm b).any fun y => !agreeT x y
def whyOf (a b : List Deed) : List (List UInt8) := if accOk a = true ∧ accOk b = true then setOf ((namesOf a).filter (odds a b)) else []
theorem telD_len (nm : List UInt8) (d : Deed) : (telD nm d).length ≤ 1 := by unfold telD; split <;> simp
theorem telL_len (nm : List UInt8) (l : Lnk) : (telL nm l).length ≤ 1 := by unfold telL; split <;> simp
theorem tels_s {nm : List UInt8} {ds : List Deed} {i : Nat} (h : i < ds.length) : tels nm (ds.take (i + 1)) = tels nm (ds.take i) ++ (telD nm ds[i] ++ ds[i].links.flatMap (telL nm)) := by
  unfold tels
  rw [List.take_succ_eq_append_getElem h, List.flatMap_append]
  simp
theorem telL_s {nm : List UInt8} {ls : List Lnk} {i : Nat} (h : i < ls.length) : (ls.take (i + 1)).flatMap (telL nm) = (ls.take i).flatMap (telL nm) ++ telL nm ls[i] := by
  rw [List.take_succ_eq_append_getElem h, List.flatMap_append]
  simp
theorem flatL_len (nm : List UInt8) (ls : List Lnk) : (ls.flatMap (telL nm)).length ≤ ls.length := by
  induction ls with
  | nil => simp
  | cons l ls ih =>
    have := telL_len nm l
    simp only [List.flatMap_cons, List.length_append, List.length_cons]
    omega
theorem tels_len (nm : List UInt8) (ds : List Deed) : (tels nm ds).length ≤ (allNames ds).length := by
  induction ds with
  | nil => simp [tels]
  | cons d ds ih =>
    have h1 := telD_len nm d
    have h2 := flatL_len nm d.links
    unfold tels allNames at ih ⊢
    simp only [List.flatMap_cons, List.length_append, List.length_cons, List.length_map] at ih ⊢
    omega
end Go.Proofs.YtbigpkfdeaigeaaGreatDoor

/- Two instructions held against each other as the language does it. No condition. -/
set_option linter.unusedSimpArgs false
set_option linter.unusedVariables false
namespace Go.Am
open Go
variable {P : Program}
theorem pur_und {t : TypeId} {d : TypeDesc} (h : P.underlying t = some d) : pur P (underlying t) = some d := by
  simp only [underlying, program]
  show pur P (Sem.bind (.program .pure) _) = _
  simp only [Sem.bind, pur, h]
  rfl
theorem pur_prog : pur P program = some P := rfl
theorem pur_eqStruct {d : Nat} {t : TypeId} {fs : Array Field} {xs ys : Array Value} (ht : P.underlying t = some (.struct fs)) (hp : P.stoodInHeld t = false) :
    pur P (Op.equalIn (d + 1) t (.agg xs) (.agg ys)) = pur P (Op.eqFields d xs ys fs.toList) := by
  simp only [Op.equalIn, pur_bind, pur_und ht, Option.bind_some, pur_prog, hp, Bool.false_eq_true, if_false]
  rw [← Array.forIn_toList]
  generalize fs.toList = l
  induction l with
  | nil => rfl
  | cons f l ih =>
    simp only [List.forIn_cons, Op.eqFields, pur_bind]
    by_cases hn : f.name ≠ "_"
    · rw [if_pos hn, if_pos hn]
      simp only [pur_bind]
      cases pur P (part f.type xs f.offset) with
      | none => rfl
      | some a =>
        simp only [Option.bind_some]
        cases pur P (part f.type ys f.offset) with
        | none => rfl
        | some b =>
          simp only [Option.bind_some]
          cases pur P (Op.equalIn d f.type a b) with
          | none => rfl
          | some r =>
            cases r with
            | false => rfl
            | true =>
              simp only [Option.bind_some, Bool.not_true, Bool.false_eq_true, if_false]
              exact ih
    · rw [if_neg hn, if_neg hn]
      exact ih
theorem pur_eqInt {d : Nat} {t : TypeId} {k : IntKind} {a b : Int} (h : P.underlying t = some (.int k)) : pur P (Op.equalIn (d + 1) t (.int k a) (.int k b)) = some (a == b) := by
  simp only [Op.equalIn, pur_bind, pur_und h, Option.bind_some]
  rw [if_pos trivial]
  rfl
theorem pur_eqStr {d : Nat} {t : TypeId} {a b : ByteArray} (h : P.underlying t = some .string) : pur P (Op.equalIn (d + 1) t (.string a) (.string b)) = some (a == b) := by
  simp only [Op.equalIn, pur_bind, pur_und h, Option.bind_some]
  rfl
end Go.Am
namespace Go.Proofs.YtbigpkfdeaigeaaGreatDoor
open Go Go.Am
set_option maxRecDepth 100000
theorem part_op (a n : Int) (s : ByteArray) : pur Tryz.prog (part 3 #[.int .i64 a, .string s, .int .i64 n] 0) = some (.int .i64 a) := by kernel_rfl
theorem part_n (a n : Int) (s : ByteArray) : pur Tryz.prog (part 3 #[.int .i64 a, .string s, .int .i64 n] 2) = some (.int .i64 n) := by kernel_rfl
theorem part_t (a n : Int) (s : ByteArray) : pur Tryz.prog (part 9 #[.int .i64 a, .string s, .int .i64 n] 1) = some (.string s) := by kernel_rfl
theorem ins_held : Tryz.prog.stoodInHeld 177 = false := by kernel_rfl
theorem ins_guard : Tryz.prog.eqGuardType Tryz.prog.depth 177 = false := by kernel_rfl
theorem ins_fields : ∃ f1 f2 f3 : Field, Tryz.prog.underlying 177 = some (.struct #[f1, f2, f3]) ∧ f1.name ≠ "_" ∧ f2.name ≠ "_" ∧ f3.name ≠ "_" ∧ f1.type = 3 ∧ f2.type = 9 ∧ f3.type = 3 ∧ f1.offset = 0 ∧ f2.offset = 1 ∧ f3.offset = 2 :=
  ⟨_, _, _, und177, by decide, by decide, by decide, rfl, rfl, rfl, rfl, rfl, rfl⟩
theorem pur_insEq (x y : Ins) (d : Nat) : pur Tryz.prog (Op.equalIn (d + 1 + 1) 177 (.agg x.c.toArray) (.agg y.c.toArray)) = some (decide (x = y)) := by
  obtain ⟨f1, f2, f3, hu, n1, n2, n3, t1, t2, t3, o1, o2, o3⟩ := ins_fields
  obtain ⟨xo, xt, xn⟩ := x
  obtain ⟨yo, yt, yn⟩ := y
  rw [pur_eqStruct hu ins_held]
  simp only [Op.eqFields, n1, n2, n3, t1, t2, t3, o1, o2, o3, pur_bind, ne_eq, not_false_eq_true, if_true, Ins.c]
  rw [show (#[Value.int .i64 xo, .string ⟨⟨xt⟩⟩, .int .i64 xn] : Array Value) = [Value.int .i64 xo, .string ⟨⟨xt⟩⟩, .int .i64 xn].toArray from rfl] at *
  have a1 := part_op xo xn ⟨⟨xt⟩⟩
  have a2 := part_t xo xn ⟨⟨xt⟩⟩
  have a3 := part_n xo xn ⟨⟨xt⟩⟩
  have b1 := part_op yo yn ⟨⟨yt⟩⟩
  have b2 := part_t yo yn ⟨⟨yt⟩⟩
  have b3 := part_n yo yn ⟨⟨yt⟩⟩
  simp only [a1, a2, a3, b1, b2, b3, Option.bind_some, pur_eqInt und3, pur_eqStr und9]
  by_cases h1 : xo = yo
  · subst h1
    simp only [beq_self_eq_true, Bool.not_true, Bool.false_eq_true, if_false, pur_bind, a2, b2, Option.bind_some, pur_eqStr und9]
    have hbs : ((⟨⟨xt⟩⟩ : ByteArray) == ⟨⟨yt⟩⟩) = decide (xt = yt) := by rw [beq_toListBytes, toList_mk, toList_mk, beq_list]
    rw [hbs]
    by_cases h2 : xt = yt
    · subst h2
      simp only [decide_true, Bool.not_true, Bool.false_eq_true, if_false, pur_bind, a3, b3, Option.bind_some, pur_eqInt und3]
      by_cases h3 : xn = yn
      · subst h3
        simp only [beq_self_eq_true, Bool.not_true, Bool.false_eq_true, if_false, decide_true]
        rfl
      · have e : (xn == yn) = false := by simp [h3]
        simp only [e, Bool.not_false, if_true]
        simp [h3, pur]
        rfl
    · simp only [h2, decide_false, Bool.not_false, if_true]
      simp [h2, pur]
      rfl
  · have e : (xo == yo) = false := by simp [h1]
    simp only [e, Bool.not_false, if_true]
    simp [h1, pur]
    rfl
theorem bin_insne (x y : Ins) {u v : Operand} : bin? Tryz.prog .neq 177 u v (.agg x.c.toArray) (.agg y.c.toArray) = some (.bool (!decide (x = y))) := by
  have hf : ∀ z : Ins, flat (.agg z.c.toArray) = true := fun z => by simp [flat, flat0, Ins.c]
  have hb : (do eqGuard .neq 177 u v (.agg x.c.toArray) (.agg y.c.toArray); binOp .neq 177 (.agg x.c.toArray) (.agg y.c.toArray) : Sem Value) = (eqGuard .neq 177 u v (.agg x.c.toArray) (.agg y.c.toArray) >>= fun _ => Op.equal 177 (.agg x.c.toArray) (.agg y.c.toArray) >>= fun b => pure (.bool (!b))) := rfl
  have hg : pur Tryz.prog (eqGuard .neq 177 u v (.agg x.c.toArray) (.agg y.c.toArray)) = some () := by
    simp only [eqGuard, Bool.not_true, Bool.false_eq_true, if_false, pur_bind, pur_prog, Option.bind_some, ins_guard, Bool.not_false, if_true]
    rfl
  unfold bin? purF
  rw [hf, hf, hb, pur_bind, hg]
  simp only [Bool.and_true, if_true, Option.bind_some, pur_bind]
  rw [show Op.equal 177 (.agg x.c.toArray) (.agg y.c.toArray) = Op.equalIn (9998 + 1 + 1) 177 (.agg x.c.toArray) (.agg y.c.toArray) from rfl, pur_insEq]
  rfl
end Go.Proofs.YtbigpkfdeaigeaaGreatDoor

/- What impl tells of a name, and that it goes together as the document says. No condition. -/
set_option linter.unusedSimpArgs false
set_option linter.unusedVariables false
namespace Go.Proofs.YtbigpkfdeaigeaaGreatDoor
open Go Go.Am Go.Proofs
set_option maxRecDepth 20000
variable {ng : Nat}
/-- impl's telling: a kind and what. -/
structure Tlg where
  kind : Int
  what : List UInt8
deriving DecidableEq
def Tlg.c (x : Tlg) : List Value := [.int .i64 x.kind, .string ⟨⟨x.what⟩⟩]
def Tlg.ok (x : Tlg) : Prop := i64 x.kind ∧ okS x.what
def telI (x : Tel) : Tlg := ⟨if x.kind = 5 then 2 else x.kind, if x.kind = 1 then x.text else if x.kind = 3 then printP x.act else []⟩
def goesT (x y : Tlg) : Bool :=
  if x.kind = 4 then (if x.kind = 4 then !decide (y.kind = 2) else decide (y = x)) else if y.kind = 4 then !decide (x.kind = 2) else decide (x = y)
/-- Such as come of an accepted account. -/
def Tel.fit (x : Tel) : Prop := (x.kind = 1 ∨ x.kind = 2 ∨ x.kind = 3 ∨ x.kind = 4 ∨ x.kind = 5) ∧ (x.kind = 1 → x.act = []) ∧ (x.kind ≠ 1 → x.text = []) ∧ (x.kind = 3 → validP x.act = true)
theorem no10_q (b : UInt8) : (10 : UInt8) ∉ qByte b := by
  have h : ∀ n : Fin 256, (qByte (UInt8.ofNat n.val)).all (fun c => c != 10) = true := by decide
  have := h ⟨b.toNat, b.toNat_lt⟩
  simp only [UInt8.ofNat_toNat] at this
  intro hm
  have := List.all_eq_true.1 this _ hm
  simp at this
theorem no10_quote (s : List UInt8) : (10 : UInt8) ∉ quoteL s := by
  unfold quoteL qBody
  simp only [List.mem_cons, List.mem_append, List.mem_flatMap, List.mem_singleton, List.not_mem_nil, or_false, not_or, not_exists, not_and]
  exact ⟨by decide, fun b _ => no10_q b, by decide⟩
theorem no10_dec (n : Nat) : (10 : UInt8) ∉ decN n := by
  have hd : ∀ n : Nat, (10 : UInt8) ≠ dig n := fun n h => by
    have := congrArg UInt8.toNat h
    simp [dig] at this
    omega
  induction n using Nat.strongRecOn with
  | ind n ih =>
    rcases Nat.lt_or_ge n 10 with h | h
    · rw [decN_small h]
      simp only [List.mem_singleton]
      exact hd n
    · rw [decN_big (by omega)]
      simp only [List.mem_append, List.mem_singleton, not_or]
      exact ⟨ih (n / 10) (by omega), hd _⟩
theorem no10_word {op : Int} (h1 : 1 ≤ op) (h2 : op ≤ 15) : (10 : UInt8) ∉ (wordOf op).1 := by
  obtain ⟨n, rfl⟩ : ∃ n : Nat, op = n := ⟨op.toNat, by omega⟩
  have h : n = 1 ∨ n = 2 ∨ n = 3 ∨ n = 4 ∨ n = 5 ∨ n = 6 ∨ n = 7 ∨ n = 8 ∨ n = 9 ∨ n = 10 ∨ n = 11 ∨ n = 12 ∨ n = 13 ∨ n = 14 ∨ n = 15 := by omega
  rcases h with rfl | rfl | rfl | rfl | rfl | rfl | rfl | rfl | rfl | rfl | rfl | rfl | rfl | rfl | rfl
  all_goals decide
theorem no10_line {x : Ins} (hx : x.valid = true) : (10 : UInt8) ∉ lineL x := by
  simp only [Ins.valid, Bool.and_eq_true, decide_eq_true_eq] at hx
  have hw := no10_word hx.1.1.1.1.1 hx.1.1.1.1.2
  unfold lineL
  split
  · simp only [List.mem_append, List.mem_cons, not_or]
    exact ⟨hw, by decide, no10_quote _⟩
  · split
    · simp only [List.mem_append, List.mem_cons, not_or]
      exact ⟨hw, by decide, no10_dec _⟩
    · exact hw
theorem split10 : ∀ {a b A B : List UInt8}, (10 : UInt8) ∉ a → (10 : UInt8) ∉ b → a ++ 10 :: A = b ++ 10 :: B → a = b ∧ A = B
  | [], [], _, _, _, _, h => ⟨rfl, (List.cons.inj h).2⟩
  | [], c :: b, _, _, _, h2, h => by simp at h2 h; exact absurd h.1 (fun e => h2.1 e)
  | c :: a, [], _, _, h1, _, h => by simp at h1 h; exact absurd h.1.symm (fun e => h1.1 e)
  | c :: a, d :: b, _, _, h1, h2, h => by
    simp only [List.mem_cons, not_or] at h1 h2
    simp only [List.cons_append, List.cons.injEq] at h
    obtain ⟨e1, e2⟩ := split10 h1.2 h2.2 h.2
    exact ⟨by rw [h.1, e1], e2⟩
theorem printL_inj : ∀ {p q : List Ins}, (∀ x ∈ p, x.valid = true) → (∀ x ∈ q, x.valid = true) → printL p = printL q → p = q
  | [], [], _, _, _ => rfl
  | [], y :: q, _, _, h => by simp [printL] at h
  | x :: p, [], _, _, h => by simp [printL] at h
  | x :: p, y :: q, hp, hq, h => by
    have h' : lineL x ++ 10 :: printL p = lineL y ++ 10 :: printL q := by simpa [printL] using h
    obtain ⟨e1, e2⟩ := split10 (no10_line (hp x (by simp))) (no10_line (hq y (by simp))) h'
    rw [lineL_inj (hp x (by simp)) (hq y (by simp)) e1, printL_inj (fun z hz => hp z (by simp [hz])) (fun z hz => hq z (by simp [hz])) e2]
theorem printP_inj {p q : List Ins} (hp : validP p = true) (hq : validP q = true) (h : printP p = printP q) : p = q := by
  unfold printP at h
  rw [if_pos hp, if_pos hq] at h
  unfold validP at hp hq
  simp only [Bool.and_eq_true, List.all_eq_true] at hp hq
  exact printL_inj hp.2 hq.2 h
theorem goes_agree {x y : Tel} (hx : x.fit) (hy : y.fit) : goesT (telI x) (telI y) = agreeT x y := by
  obtain ⟨kx, tx, ax⟩ := x
  obtain ⟨ky, ty, ay⟩ := y
  obtain ⟨h1, h2, h3, h4⟩ := hx
  obtain ⟨g1, g2, g3, g4⟩ := hy
  dsimp only at h1 h2 h3 h4 g1 g2 g3 g4
  rcases h1 with rfl | rfl | rfl | rfl | rfl <;> rcases g1 with rfl | rfl | rfl | rfl | rfl <;> simp [goesT, telI, agreeT, thereT] at *
  · rw [h2, g2]
    simp
  · rw [h3, g3]
    by_cases h : ax = ay
    · simp [h]
    · have hp : ¬ printP ax = printP ay := fun e => h (printP_inj h4 g4 e)
      simp [h, hp]
theorem tels_fit {n : List UInt8} {ds : List Deed} (h : accOk ds = true) : ∀ x ∈ tels n ds, x.fit := by
  intro x hx
  unfold tels at hx
  obtain ⟨d, hd, hx⟩ := List.mem_flatMap.1 hx
  obtain ⟨i, hi, rfl⟩ := List.mem_iff_getElem.1 hd
  have hk := accOk_deeds h i hi
  rw [dAt_lt hi] at hk
  rcases List.mem_append.1 hx with hx | hx
  · unfold telD at hx
    split at hx
    · simp only [List.mem_singleton] at hx
      subst hx
      unfold deedOk at hk
      simp only [Bool.and_eq_true] at hk
      obtain ⟨-, hk⟩ := hk
      unfold Tel.fit
      dsimp only
      split at hk
      · rename_i h1
        simp only [plainD, Bool.and_eq_true, decide_eq_true_eq, List.length_eq_zero_iff] at hk
        simp [h1, hk]
      · split at hk
        · rename_i h1 h2
          simp [h2]
        · split at hk
          · rename_i h1 h2 h3
            simp only [Bool.and_eq_true] at hk
            simp [h3, hk]
          · cases hk
    · cases hx
  · obtain ⟨l, -, hx⟩ := List.mem_flatMap.1 hx
    unfold telL at hx
    split at hx
    · simp only [List.mem_singleton] at hx
      subst hx
      unfold Tel.fit
      cases l.has <;> simp
    · cases hx
theorem part_tk (a : Int) (s : ByteArray) : pur Tryz.prog (part 3 #[.int .i64 a, .string s] 0) = some (.int .i64 a) := by kernel_rfl
theorem part_tw (a : Int) (s : ByteArray) : pur Tryz.prog (part 9 #[.int .i64 a, .string s] 1) = some (.string s) := by kernel_rfl
theorem tlg_held : Tryz.prog.stoodInHeld 96 = false := by kernel_rfl
theorem tlg_guard : Tryz.prog.eqGuardType Tryz.prog.depth 96 = false := by kernel_rfl
theorem tlg_fields : ∃ f1 f2 : Field, Tryz.prog.underlying 96 = some (.struct #[f1, f2]) ∧ f1.name ≠ "_" ∧ f2.name ≠ "_" ∧ f1.type = 3 ∧ f2.type = 9 ∧ f1.offset = 0 ∧ f2.offset = 1 :=
  ⟨_, _, und96, by decide, by decide, rfl, rfl, rfl, rfl⟩
theorem pur_tlgEq (x y : Tlg) (d : Nat) : pur Tryz.prog (Op.equalIn (d + 1 + 1) 96 (.agg x.c.toArray) (.agg y.c.toArray)) = some (decide (x = y)) := by
  obtain ⟨f1, f2, hu, n1, n2, t1, t2, o1, o2⟩ := tlg_fields
  obtain ⟨xo, xt⟩ := x
  obtain ⟨yo, yt⟩ := y
  rw [pur_eqStruct hu tlg_held]
  simp only [Op.eqFields, n1, n2, t1, t2, o1, o2, pur_bind, ne_eq, not_false_eq_true, if_true, Tlg.c]
  rw [show (#[Value.int .i64 xo, .string ⟨⟨xt⟩⟩] : Array Value) = [Value.int .i64 xo, .string ⟨⟨xt⟩⟩].toArray from rfl] at *
  have a1 := part_tk xo ⟨⟨xt⟩⟩
  have a2 := part_tw xo ⟨⟨xt⟩⟩
  have b1 := part_tk yo ⟨⟨yt⟩⟩
  have b2 := part_tw yo ⟨⟨yt⟩⟩
  simp only [a1, a2, b1, b2, Option.bind_some, pur_eqInt und3, pur_eqStr und9]
  have hbs : ((⟨⟨xt⟩⟩ : ByteArray) == ⟨⟨yt⟩⟩) = decide (xt = yt) := by rw [beq_toListBytes, toList_mk, toList_mk, beq_list]
  by_cases h1 : xo = yo
  · subst h1
    simp only [beq_self_eq_true, Bool.not_true, Bool.false_eq_true, if_false, pur_bind, a2, b2, Option.bind_some, pur_eqStr und9]
    rw [hbs]
    by_cases h2 : xt = yt
    · subst h2
      simp only [decide_true, Bool.not_true, Bool.false_eq_true, if_false]
      rfl
    · simp only [h2, decide_false, Bool.not_false, if_true]
      simp [h2, pur]
      rfl
  · have e : (xo == yo) = false := by simp [h1]
    simp only [e, Bool.not_false, if_true]
    simp [h1, pur]
    rfl
theorem bin_tlgeq (x y : Tlg) {u v : Operand} : bin? Tryz.prog .eql 96 u v (.agg x.c.toArray) (.agg y.c.toArray) = some (.bool (decide (x = y))) := by
  have hf : ∀ z : Tlg, flat (.agg z.c.toArray) = true := fun z => by simp [flat, flat0, Tlg.c]
  have hb : (do eqGuard .eql 96 u v (.agg x.c.toArray) (.agg y.c.toArray); binOp .eql 96 (.agg x.c.toArray) (.agg y.c.toArray) : Sem Value) = (eqGuard .eql 96 u v (.agg x.c.toArray) (.agg y.c.toArray) >>= fun _ => Op.equal 96 (.agg x.c.toArray) (.agg y.c.toArray) >>= fun b => pure (.bool b)) := rfl
  have hg : pur Tryz.prog (eqGuard .eql 96 u v (.agg x.c.toArray) (.agg y.c.toArray)) = some () := by
    simp only [eqGuard, Bool.not_true, Bool.false_eq_true, if_false, pur_bind, pur_prog, Option.bind_some, tlg_guard, Bool.not_false, if_true]
    rfl
  unfold bin? purF
  rw [hf, hf, hb, pur_bind, hg]
  simp only [Bool.and_true, if_true, Option.bind_some, pur_bind]
  rw [show Op.equal 96 (.agg x.c.toArray) (.agg y.c.toArray) = Op.equalIn (9998 + 1 + 1) 96 (.agg x.c.toArray) (.agg y.c.toArray) from rfl, pur_tlgEq]
  rfl
theorem goes_ac {x y : Tlg} {H : Heap} : AC Tryz.prog ng 51 [.agg #[.int .i64 x.kind, .string ⟨⟨x.what⟩⟩], .agg #[.int .i64 y.kind, .string ⟨⟨y.what⟩⟩]] H fun v S' => v = .bool (goesT x y) ∧ S' = H := by
  have he := fun u v => bin_tlgeq x y (u := u) (v := v)
  simp only [Tlg.c] at he
  refine .flat (AC.go [] Tryz.func51 rfl Tryz.ntmps51 rfl ⟨mixed, by kernel_rfl⟩ ?_)
  simp +contextual (dsimp := false) [he]
  unfold goesT
  refine ifA_dec (fun h => ?_) (fun h => ?_)
  · simp [h]
  · refine ifA_dec (fun h2 => ?_) (fun h2 => ?_)
    · simp [h, h2]
    · simp [h, h2]
end Go.Proofs.YtbigpkfdeaigeaaGreatDoor
