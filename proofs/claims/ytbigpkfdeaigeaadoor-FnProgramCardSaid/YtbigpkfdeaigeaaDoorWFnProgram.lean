/- FnProgram: its walk. No condition. -/
import Derived.Test.YtbigpkfdeaigeaaDoorDrC
import Derived.Test.YtbigpkfdeaigeaaDoorWL
import Derived.Test.YtbigpkfdeaigeaaDoorNol
import Derived.Test.YtbigpkfdeaigeaaDoorParW
import Derived.Test.YtbigpkfdeaigeaaDoorLai
set_option linter.unusedSimpArgs false
set_option linter.unusedVariables false
namespace Go.Proofs.YtbigpkfdeaigeaaDoor
open Go Go.Am Go.Proofs
set_option maxRecDepth 20000
variable {ng : Nat}
theorem cutN_app : ∀ {a : List UInt8}, (10 : UInt8) ∉ a → ∀ s w, cutN (a ++ 10 :: s) w = (w ++ a) :: cutN s []
  | [], _, s, w => by simp [cutN]
  | b :: a, h, s, w => by
    simp only [List.mem_cons, not_or] at h
    rw [List.cons_append, cutN, if_neg (Ne.symm h.1), cutN_app h.2]
    simp
theorem cutN_end : ∀ {a : List UInt8}, (10 : UInt8) ∉ a → ∀ w, cutN a w = [w ++ a]
  | [], _, w => by simp [cutN]
  | b :: a, h, w => by
    simp only [List.mem_cons, not_or] at h
    rw [cutN, if_neg (Ne.symm h.1), cutN_end h.2]
    simp
theorem cutN_print : ∀ {q : List Ins} {e : List UInt8}, (∀ x ∈ q, x.valid = true) → (10 : UInt8) ∉ e → cutN (printL q ++ e) [] = q.map lineL ++ [e]
  | [], e, _, he => by
    rw [show printL [] ++ e = e from rfl, cutN_end he]
    rfl
  | x :: q, e, h, he => by
    have e1 : printL (x :: q) ++ e = lineL x ++ 10 :: (printL q ++ e) := by simp [printL]
    rw [e1, cutN_app (no10_line (h x (by simp))), cutN_print (fun y hy => h y (by simp [hy])) he]
    simp
theorem parse_q {q : List Ins} {e : List UInt8} (hq : ∀ x ∈ q, x.valid = true) : ∀ (f k : Nat) (acc : List Ins), k ≤ q.length → q.length - k < f →
    parseFrom (q.map lineL ++ [e]) f k acc = if e ≠ [] then ([], 2, (q.length : Int)) else if 200 < (acc ++ q.drop k).length then ([], 3, 0) else (acc ++ q.drop k, 0, 0)
  | 0, k, acc, hk, hf => by omega
  | f + 1, k, acc, hk, hf => by
    have hl : (q.map lineL ++ [e]).length = q.length + 1 := by simp
    have he : (q.map lineL ++ [e]).getD ((q.map lineL ++ [e]).length - 1) [] = e := by
      rw [hl]
      simp [List.getD]
    rw [parseFrom]
    by_cases h : k < q.length
    · rw [if_pos (by omega)]
      have hg : (q.map lineL ++ [e]).getD k [] = lineL q[k] := by
        rw [List.getD_eq_getElem?_getD, List.getElem?_append_left (by simp; omega)]
        simp [h]
      rw [hg, readL_some (hq _ (List.getElem_mem h)) rfl]
      dsimp only
      rw [parse_q hq f (k + 1) _ (by omega) (by omega)]
      have hd : acc ++ q.drop k = acc ++ [q[k]] ++ q.drop (k + 1) := by
        rw [List.append_assoc, List.singleton_append, List.getElem_cons_drop]
      rw [hd]
    · rw [if_neg (by omega), he]
      have hk' : k = q.length := by omega
      subst hk'
      rw [hl]
      simp only [List.drop_length, List.append_nil, Nat.add_sub_cancel]
theorem word_ne {op : Int} (h1 : 1 ≤ op) (h2 : op ≤ 15) : (wordOf op).1 ≠ [] := by
  obtain ⟨n, rfl⟩ : ∃ n : Nat, op = n := ⟨op.toNat, by omega⟩
  have h : n = 1 ∨ n = 2 ∨ n = 3 ∨ n = 4 ∨ n = 5 ∨ n = 6 ∨ n = 7 ∨ n = 8 ∨ n = 9 ∨ n = 10 ∨ n = 11 ∨ n = 12 ∨ n = 13 ∨ n = 14 ∨ n = 15 := by omega
  rcases h with rfl | rfl | rfl | rfl | rfl | rfl | rfl | rfl | rfl | rfl | rfl | rfl | rfl | rfl | rfl
  all_goals decide
theorem line_ne {x : Ins} (hx : x.valid = true) : lineL x ≠ [] := by
  simp only [Ins.valid, Bool.and_eq_true, decide_eq_true_eq] at hx
  have hw := word_ne hx.1.1.1.1.1 hx.1.1.1.1.2
  unfold lineL
  split
  · simp
  · split
    · simp
    · exact hw
theorem valid_split {p : List Ins} (h : validP p = true) : ∃ q x, p = q ++ [x] ∧ (∀ y ∈ q, y.valid = true) ∧ x.valid = true ∧ p.length ≤ 200 := by
  unfold validP at h
  simp only [Bool.and_eq_true, decide_eq_true_eq, List.all_eq_true] at h
  obtain ⟨⟨h1, h2⟩, h3⟩ := h
  have hne : p ≠ [] := fun hc => by subst hc; simp at h1
  refine ⟨p.dropLast, p.getLast hne, (List.dropLast_concat_getLast hne).symm, fun y hy => h3 y (List.dropLast_subset _ hy), h3 _ (List.getLast_mem hne), h2⟩
theorem parse_print {p : List Ins} (h : validP p = true) : parseP (printP p) = (p, 0, 0) := by
  have hv := h
  unfold validP at hv
  simp only [Bool.and_eq_true, decide_eq_true_eq, List.all_eq_true] at hv
  obtain ⟨⟨h1, h2⟩, h3⟩ := hv
  have hlen := printL_len h3
  have hne : printL p ≠ [] := fun hc => by
    obtain ⟨q, x, rfl, -, -, -⟩ := valid_split h
    simp [printL] at hc
  unfold parseP printP
  rw [if_pos h, if_neg (by rintro (hc | hc); exact hne hc; omega)]
  have hc := cutN_print (q := p) (e := []) h3 (by simp)
  rw [List.append_nil] at hc
  rw [hc, parse_q h3 _ 0 [] (by omega) (by simp)]
  simp
  omega
theorem parse_cut {p : List Ins} (h : validP p = true) : 2 ≤ (printP p).length ∧ (parseP ((printP p).take ((printP p).length - 1))).2.1 = 2 := by
  obtain ⟨q, x, rfl, hq, hx, hl⟩ := valid_split h
  have hall : ∀ y ∈ q ++ [x], y.valid = true := fun y hy => by
    rcases List.mem_append.1 hy with hy | hy
    · exact hq y hy
    · simp at hy
      subst hy
      exact hx
  have hlen := printL_len hall
  have e1 : printP (q ++ [x]) = printL q ++ lineL x ++ [10] := by
    unfold printP
    rw [if_pos h]
    simp [printL]
  have hlx := line_ne hx
  have hpos : 0 < (lineL x).length := List.length_pos_iff.2 hlx
  have e2 : (printP (q ++ [x])).take ((printP (q ++ [x])).length - 1) = printL q ++ lineL x := by
    have he : (printL q ++ lineL x ++ [(10 : UInt8)]).length - 1 = (printL q ++ lineL x).length := by simp
    rw [e1, he]
    exact List.take_left
  refine ⟨by rw [e1]; simp; omega, ?_⟩
  rw [e2]
  unfold parseP
  have hne : printL q ++ lineL x ≠ [] := by simp [hlx]
  have hlt : (printL q ++ lineL x).length ≤ 1500000 := by
    have : (printL (q ++ [x])).length = (printL q ++ lineL x).length + 1 := by simp [printL]; omega
    omega
  rw [if_neg (by rintro (hc | hc); exact hne hc; omega), cutN_print hq (no10_line hx), parse_q hq _ 0 [] (by omega) (by simp), if_pos hlx]
theorem part_fc (a b : Int) : pur Tryd.prog (part 3 #[.int .i64 a, .int .i64 b] 0) = some (.int .i64 a) := by kernel_rfl
theorem part_fl (a b : Int) : pur Tryd.prog (part 3 #[.int .i64 a, .int .i64 b] 1) = some (.int .i64 b) := by kernel_rfl
theorem fau_held : Tryd.prog.stoodInHeld 39 = false := by kernel_rfl
theorem fau_guard : Tryd.prog.eqGuardType Tryd.prog.depth 39 = false := by kernel_rfl
theorem fau_fields : ∃ f1 f2 : Field, Tryd.prog.underlying 39 = some (.struct #[f1, f2]) ∧ f1.name ≠ "_" ∧ f2.name ≠ "_" ∧ f1.type = 3 ∧ f2.type = 3 ∧ f1.offset = 0 ∧ f2.offset = 1 :=
  ⟨_, _, und39, by decide, by decide, rfl, rfl, rfl, rfl⟩
theorem pur_fauEq (a b a' b' : Int) (d : Nat) : pur Tryd.prog (Op.equalIn (d + 1 + 1) 39 (.agg #[.int .i64 a, .int .i64 b]) (.agg #[.int .i64 a', .int .i64 b'])) = some (decide (a = a' ∧ b = b')) := by
  obtain ⟨f1, f2, hu, n1, n2, t1, t2, o1, o2⟩ := fau_fields
  rw [pur_eqStruct hu fau_held]
  simp only [Op.eqFields, n1, n2, t1, t2, o1, o2, pur_bind, ne_eq, not_false_eq_true, if_true]
  have a1 := part_fc a b
  have a2 := part_fl a b
  have b1 := part_fc a' b'
  have b2 := part_fl a' b'
  simp only [a1, a2, b1, b2, Option.bind_some, pur_eqInt und3]
  by_cases h1 : a = a'
  · subst h1
    simp only [beq_self_eq_true, Bool.not_true, Bool.false_eq_true, if_false, pur_bind, a2, b2, Option.bind_some, pur_eqInt und3]
    by_cases h2 : b = b'
    · subst h2
      simp [pur]
      rfl
    · have e : (b == b') = false := by simp [h2]
      simp [h2, e, pur]
      rfl
  · have e : (a == a') = false := by simp [h1]
    simp only [e, Bool.not_false, if_true]
    simp [h1, pur]
    rfl
theorem bin_fauEq (a b a' b' : Int) {u v : Operand} : bin? Tryd.prog .eql 39 u v (.agg #[.int .i64 a, .int .i64 b]) (.agg #[.int .i64 a', .int .i64 b']) = some (.bool (decide (a = a' ∧ b = b'))) := by
  have hf : ∀ a b : Int, flat (.agg #[.int .i64 a, .int .i64 b]) = true := fun a b => by simp [flat, flat0]
  have hb : (do eqGuard .eql 39 u v (.agg #[.int .i64 a, .int .i64 b]) (.agg #[.int .i64 a', .int .i64 b']); binOp .eql 39 (.agg #[.int .i64 a, .int .i64 b]) (.agg #[.int .i64 a', .int .i64 b']) : Sem Value) = (eqGuard .eql 39 u v (.agg #[.int .i64 a, .int .i64 b]) (.agg #[.int .i64 a', .int .i64 b']) >>= fun _ => Op.equal 39 (.agg #[.int .i64 a, .int .i64 b]) (.agg #[.int .i64 a', .int .i64 b']) >>= fun b => pure (.bool b)) := rfl
  have hg : pur Tryd.prog (eqGuard .eql 39 u v (.agg #[.int .i64 a, .int .i64 b]) (.agg #[.int .i64 a', .int .i64 b'])) = some () := by
    simp only [eqGuard, Bool.not_true, Bool.false_eq_true, if_false, pur_bind, pur_prog, Option.bind_some, fau_guard, Bool.not_false, if_true]
    rfl
  unfold bin? purF
  rw [hf, hf, hb, pur_bind, hg]
  simp only [Bool.and_true, if_true, Option.bind_some, pur_bind]
  rw [show Op.equal 39 (.agg #[.int .i64 a, .int .i64 b]) (.agg #[.int .i64 a', .int .i64 b']) = Op.equalIn (9998 + 1 + 1) 39 (.agg #[.int .i64 a, .int .i64 b]) (.agg #[.int .i64 a', .int .i64 b']) from rfl, pur_fauEq]
  rfl
theorem fnProgram_ac {own : Bool} {l : List UInt8} {sl : Value} {F : List Nat} {H : Heap} (hs : BytesR own H l [sl] F) (hE : ErrG gE H) (hW : WordsG gW H) (hP : P10 g10 H) (h0 : gW < ng) (h2 : g10 < ng) (hg : gE < ng) : AC Tryd.prog ng 4 [sl] H fun v S' => v = .bool true ∧ S' = H := by
  obtain ⟨a, z, rfl⟩ := hs.form
  refine .flat (AC.go [] Tryd.func4 rfl Tryd.ntmps4 rfl ⟨mixed, by kernel_rfl⟩ ?_)
  simp (dsimp := false)
  refine ifA_dec (fun h => ?_) (fun h => ?_)
  · simp
  refine CallK.of ⟨_, Tryd.func12, rfl, rfl⟩ (DrawValidProgram_ac hs) ?_
  rintro v S1 ⟨p, s, F1, rfl, hp, hf, hpl, he1⟩
  obtain ⟨a1, z1, rfl⟩ := hp.form
  simp (dsimp := false)
  obtain ⟨S2, hS2⟩ : ∃ q, q = S1 ++ [(⟨.cells #[.slice a1 p.length z1] 35 (0, 0), true, true⟩ : Blk)] := ⟨_, rfl⟩
  have hx2 : Ext S1 S2 := by rw [hS2]; exact Ext.app _ _
  have hb2 : S2[S1.length]? = some (⟨.cells #[.slice a1 p.length z1] 35 (0, 0), true, true⟩ : Blk) := by rw [hS2]; simp
  have hl2 : S2.length = S1.length + 1 := by rw [hS2]; simp
  rw [← hS2]
  clear hS2
  have hX2 := he1.trans hx2
  refine CallK.fl ⟨_, Tryd.func13, rfl, rfl⟩ (implPrintProgram_ac (Rp.ext hp hx2) (hW.ext hX2) (hP.ext hX2) h0 h2) ?_
  simp (dsimp := false) [hb2, goB_of hb2]
  refine CallK.of ⟨_, Tryd.func14, rfl, rfl⟩ (implParse_ac (hW.ext hX2) (hP.ext hX2) (hE.ext hX2) h0 h2 hg) ?_
  rintro v S3 ⟨sv, F3, rfl, he3, hq, hf3⟩
  obtain ⟨a3, z3, rfl⟩ := hq.form
  have hb3 := (he3 S1.length (by omega)).trans hb2
  have hbT := fun T : Heap => (get_ext (T := T) (show S1.length < S3.length by have := he3.le; omega)).trans hb3
  simp (dsimp := false) [hb3, goB_of hb3, hbT, fun T => goB_of (hbT T)]
  have hpX : ∀ T : Heap, CodeR true (S3 ++ T) p [.slice a1 p.length z1] F1 := fun T => Rp.ext hp (hx2.trans (he3.trans (Ext.app _ _)))
  refine CallK.fl ⟨_, Tryd.func15, rfl, rfl⟩ (specValid_ac (hpX _)) ?_
  cases hv : validP p with
  | false =>
    have hpp : printP p = [] := by
      unfold printP
      rw [hv]
      rfl
    have hq1 : parseP [] = ([], 1, 0) := by
      unfold parseP
      rw [if_pos (.inl rfl)]
    rw [hpp, hq1]
    simp (dsimp := false) [hbT, fun T => goB_of (hbT T)]
    refine CallK.fl ⟨_, Tryd.func16, rfl, rfl⟩ (validProgram_ac (hpX _)) ?_
    rw [hv]
    simp (dsimp := false) [bin_fauEq]
    exact hX2.trans (he3.trans (Ext.app _ _))
  | true =>
    have hpr := parse_print hv
    obtain ⟨hc1, hc2⟩ := parse_cut hv
    have hq' := hq
    rw [hpr] at hq' ⊢
    have hpl2 : (printP p).length ≤ 1500000 := by
      unfold printP
      rw [if_pos hv]
      have hv' := hv
      unfold validP at hv'
      simp only [Bool.and_eq_true, decide_eq_true_eq, List.all_eq_true] at hv'
      have := printL_len hv'.2
      omega
    have hlt : ¬ ((printP p).length : Int) < 2 := by omega
    have hw : IntKind.i64.wrap (((printP p).length : Int) - 1) = (((printP p).length - 1 : Nat) : Int) := (wrap_of _ (by omega) (by omega)).trans (by omega)
    have hc := sliceZ_to (P := Tryd.prog) (k := .i64) (l := printP p) (j := (((printP p).length - 1 : Nat) : Int)) (by omega) (by omega)
    rw [Int.toNat_natCast] at hc
    generalize (printP p).take ((printP p).length - 1) = C at hc hc2
    generalize (printP p).length - 1 = N at hc hw
    simp (dsimp := false) [hlt, hw, hc]
    refine CallK.of ⟨_, Tryd.func14, rfl, rfl⟩ (implParse_ac (hW.ext (hX2.trans (he3.trans (Ext.app _ _)))) (hP.ext (hX2.trans (he3.trans (Ext.app _ _)))) (hE.ext (hX2.trans (he3.trans (Ext.app _ _)))) h0 h2 hg) ?_
    rintro v S4 ⟨sv, F4, rfl, he4, hq4, hf4⟩
    obtain ⟨a4, z4, rfl⟩ := hq4.form
    rw [hc2]
    have hl4 := he4.le
    simp only [List.length_append, List.length_cons, List.length_nil] at hl4
    have hl3 := he3.le
    have g1 := fun T : Heap => (get_ext (T := T) (show S1.length < S4.length by omega)).trans ((he4 S1.length (by simp; omega)).trans (hbT _))
    have g2 : ∀ T : Heap, (S4 ++ T)[S3.length]? = some (⟨.cells #[.slice a3 p.length z3] 35 (0, 0), true, true⟩ : Blk) := fun T => (get_ext (T := T) (show S3.length < S4.length by omega)).trans ((he4 S3.length (by simp)).trans (by simp))
    have g3 : ∀ T : Heap, (S4 ++ T)[S3.length + 1]? = some (⟨.cells #[int 0, int 0] 39 (0, 0), true, true⟩ : Blk) := fun T => (get_ext (T := T) (show S3.length + 1 < S4.length by omega)).trans ((he4 (S3.length + 1) (by simp)).trans (by simp))
    have hp4 : ∀ T : Heap, CodeR true (S4 ++ T) p [.slice a1 p.length z1] F1 := fun T => Rp.ext (hpX _) (he4.trans (Ext.app _ _))
    have hq4' : ∀ T : Heap, CodeR true (S4 ++ T) p [.slice a3 p.length z3] F3 := fun T => Rp.ext hq' ((Ext.app _ _).trans (he4.trans (Ext.app _ _)))
    simp (dsimp := false) [g1, fun T => goB_of (g1 T)]
    refine CallK.fl ⟨_, Tryd.func16, rfl, rfl⟩ (validProgram_ac (hp4 _)) ?_
    rw [hv]
    simp (dsimp := false) [g1, fun T => goB_of (g1 T), g2, fun T => goB_of (g2 T), g3, fun T => goB_of (g3 T), bin_fauEq]
    refine CallK.fl ⟨_, Tryd.func17, rfl, rfl⟩ (wProgram_ac (hp4 _) (hq4' _)) ?_
    simp (dsimp := false)
    exact (hX2.trans (he3.trans (Ext.app _ _))).trans (he4.trans (Ext.app _ _))
end Go.Proofs.YtbigpkfdeaigeaaDoor
