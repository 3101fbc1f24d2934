import Derived.Test.YtbigpkfdeaigeaaGreatDoorWhy
import Derived.Test.YtbigpkfdeaigeaaGreatDoorSrc
import Derived.Test.YtbigpkfdeaigeaaGreatDoorLai
import Derived.Test.YtbigpkfdeaigeaaGreatDoorNms
/- A map of texts to lists of tells. No condition. -/
set_option linter.unusedSimpArgs false
set_option linter.unusedVariables false
namespace Go.Proofs.YtbigpkfdeaigeaaGreatDoor
open Go Go.Am Go.Proofs
def TlgR : RepT Tlg := fun H x c F => c = x.c ∧ F = [] ∧ Tlg.ok x
instance : Rp TlgR 2 where
  fr := by
    rintro H H' x c F ⟨rfl, rfl, hk⟩ hf
    exact ⟨rfl, rfl, hk⟩
  lt := by
    rintro H x c F ⟨rfl, rfl, hk⟩ i hi
    cases hi
  one := by
    rintro H x c F ⟨rfl, rfl, hk⟩
    simp [ones, Value.oneCell', Tlg.c]
  len := by
    rintro H x c F ⟨rfl, rfl, hk⟩
    rfl
abbrev TlgsR : RepT (List Tlg) := SlR true 2 TlgR
structure Ent where
  key : List UInt8
  val : Value
  F : List Nat
  ts : List Tlg
def Ent.kv (e : Ent) : List UInt8 × Value := (e.key, e.val)
structure MtR (H : Heap) (id base : Nat) (G : List Ent) : Prop where
  map : MapR kS H id (G.map Ent.kv)
  nod : (G.map (·.key)).Nodup
  ent : ∀ e ∈ G, okS e.key ∧ TlgsR H e.ts [e.val] e.F ∧ Fresh base e.F ∧ id ∉ e.F
  dis : G.Pairwise fun a b => ∀ j ∈ a.F, j ∉ b.F
def getE (n : List UInt8) : List Ent → List Tlg
  | [] => []
  | e :: G => if n = e.key then e.ts else getE n G
theorem getE_app {n : List UInt8} : ∀ {G1 G2 : List Ent}, n ∉ G1.map (·.key) → getE n (G1 ++ G2) = getE n G2
  | [], G2, _ => rfl
  | e :: G1, G2, h => by
    simp only [List.map_cons, List.mem_cons, not_or] at h
    simp only [List.cons_append, getE, if_neg h.1]
    exact getE_app h.2
theorem getE_front {n : List UInt8} : ∀ {G1 : List Ent} (G2 : List Ent), n ∈ G1.map (·.key) → getE n (G1 ++ G2) = getE n G1
  | [], G2, h => by cases h
  | e :: G1, G2, h => by
    simp only [List.cons_append, getE]
    split
    · rfl
    · rename_i hne
      exact getE_front G2 ((List.mem_cons.1 h).resolve_left hne)
theorem getE_none {n : List UInt8} {G : List Ent} (h : n ∉ G.map (·.key)) : getE n G = [] := by
  have := getE_app (G2 := []) h
  rwa [List.append_nil] at this
theorem Ent.part {n : List UInt8} : ∀ (G : List Ent), n ∈ G.map (·.key) → ∃ G1 e G2, G = G1 ++ e :: G2 ∧ e.key = n ∧ n ∉ G1.map (·.key)
  | [], h => by cases h
  | e :: G, h => by
    by_cases hk : e.key = n
    · exact ⟨[], e, G, rfl, hk, by simp⟩
    · have h' : n ∈ G.map (·.key) := (List.mem_cons.1 h).resolve_left fun q => hk q.symm
      obtain ⟨G1, e', G2, rfl, h1, h2⟩ := Ent.part G h'
      refine ⟨e :: G1, e', G2, rfl, h1, ?_⟩
      simp only [List.map_cons, List.mem_cons, not_or]
      exact ⟨fun q => hk q.symm, h2⟩
theorem getP_ent {n : List UInt8} : ∀ {G1 : List Ent} {e : Ent} {G2 : List Ent}, e.key = n → n ∉ G1.map (·.key) → getP n ((G1 ++ e :: G2).map Ent.kv) = some e.val
  | [], e, G2, h, _ => by
    rw [List.nil_append, List.map_cons, getP_cons]
    exact if_pos h.symm
  | a :: G1, e, G2, h, hn => by
    simp only [List.map_cons, List.mem_cons, not_or] at hn
    rw [List.cons_append, List.map_cons, getP_cons, if_neg (show ¬ n = a.kv.fst from hn.1)]
    exact getP_ent h hn.2
theorem getP_nent {n : List UInt8} : ∀ {G : List Ent}, n ∉ G.map (·.key) → getP n (G.map Ent.kv) = none
  | [], _ => getP_nil n
  | a :: G, hn => by
    simp only [List.map_cons, List.mem_cons, not_or] at hn
    rw [List.map_cons, getP_cons, if_neg (show ¬ n = a.kv.fst from hn.1)]
    exact getP_nent hn.2
theorem putP_ent {n : List UInt8} {v : Value} {F : List Nat} {ts : List Tlg} : ∀ {G1 : List Ent} {e : Ent} {G2 : List Ent}, e.key = n → n ∉ G1.map (·.key) → putP n v ((G1 ++ e :: G2).map Ent.kv) = (G1 ++ ⟨n, v, F, ts⟩ :: G2).map Ent.kv
  | [], e, G2, h, _ => by
    subst h
    simp [putP, Ent.kv]
  | a :: G1, e, G2, h, hn => by
    simp only [List.map_cons, List.mem_cons, not_or] at hn
    rw [List.cons_append, List.map_cons, List.cons_append, List.map_cons, ← putP_ent (F := F) (ts := ts) h hn.2]
    show putP n v ((a.key, a.val) :: _) = _
    rw [putP, if_neg hn.1]
    rfl
theorem putP_nent {n : List UInt8} {v : Value} {F : List Nat} {ts : List Tlg} : ∀ {G : List Ent}, n ∉ G.map (·.key) → putP n v (G.map Ent.kv) = (G ++ [(⟨n, v, F, ts⟩ : Ent)]).map Ent.kv
  | [], _ => by simp [putP, Ent.kv]
  | a :: G, hn => by
    simp only [List.map_cons, List.mem_cons, not_or] at hn
    rw [List.map_cons, List.cons_append, List.map_cons, ← putP_nent (F := F) (ts := ts) hn.2]
    show putP n v ((a.key, a.val) :: _) = _
    rw [putP, if_neg hn.1]
    rfl
/-- A list is read, grown and put back. -/
theorem MtR.grow {H : Heap} {id base : Nat} {G : List Ent} (h : MtR H id base G) (n : List UInt8) (hn : okS n) :
    ∃ v F, (getP n (G.map Ent.kv)).getD (.slice none 0 0) = v ∧ TlgsR H (getE n G) [v] F ∧ Fresh base F ∧ id ∉ F ∧
      ∀ (H' : Heap) (s : Value) (F' : List Nat) (t : Tlg) (es : Array MapEntry) (cl : Nat), TlgsR H' (getE n G ++ [t]) [s] F' → Fresh base F' → H.length ≤ H'.length → (∀ j, j < H.length → j ∉ F → H'[j]? = H[j]?) → (∀ j ∈ F', j ∈ F ∨ H.length ≤ j) → id < H.length →
        MapR kS (H'.set id ⟨.map es cl, true, true⟩) id (putP n s (G.map Ent.kv)) →
        ∃ G', MtR (H'.set id ⟨.map es cl, true, true⟩) id base G' ∧ (∀ m, getE m G' = if m = n then getE n G ++ [t] else getE m G) ∧ ∀ m, m ∈ G'.map (·.key) ↔ m ∈ G.map (·.key) ∨ m = n := by
  have hset : ∀ (H' : Heap) (b : Blk) (e : Ent), id ∉ e.F → (TlgsR H' e.ts [e.val] e.F) → TlgsR (H'.set id b) e.ts [e.val] e.F := fun H' b e h1 h2 => Rp.fr h2 fun j hj => List.getElem?_set_ne (by rintro rfl; exact h1 hj)
  by_cases hm : n ∈ G.map (·.key)
  · obtain ⟨G1, e, G2, rfl, hk, hn1⟩ := Ent.part G hm
    subst hk
    have he := h.ent e (by simp)
    have hge : getE e.key (G1 ++ e :: G2) = e.ts := by rw [getE_app hn1, getE, if_pos rfl]
    refine ⟨e.val, e.F, by rw [getP_ent rfl hn1]; rfl, by rw [hge]; exact he.2.1, he.2.2.1, he.2.2.2, ?_⟩
    intro H' s F' t es cl q1 q2 q3 q4 q5 q6 q7
    rw [hge] at q1 ⊢
    have hd := h.dis
    rw [List.pairwise_append] at hd
    obtain ⟨d1, d2, d3⟩ := hd
    rw [List.pairwise_cons] at d2
    obtain ⟨d2, d4⟩ := d2
    have hlt : ∀ a ∈ G1 ++ e :: G2, ∀ j ∈ a.F, j < H.length := fun a ha j hj => Rp.lt (h.ent a ha).2.1 j hj
    have ho1 : ∀ a ∈ G1, ∀ j ∈ a.F, j ∉ F' := fun a ha j hj hj' => by
      rcases q5 j hj' with q | q
      · exact d3 a ha e (by simp) j hj q
      · have := hlt a (by simp [ha]) j hj; omega
    have ho2 : ∀ a ∈ G2, ∀ j ∈ F', j ∉ a.F := fun a ha j hj hj' => by
      rcases q5 j hj with q | q
      · exact d2 a ha j q hj'
      · have := hlt a (by simp [ha]) j hj'; omega
    have hid : id ∉ F' := fun hj => by
      rcases q5 id hj with q | q
      · exact he.2.2.2 q
      · omega
    rw [putP_ent (F := F') (ts := e.ts ++ [t]) rfl hn1] at q7
    have hoth : ∀ a ∈ G1 ++ e :: G2, (∀ j ∈ a.F, j ∉ e.F) → okS a.key ∧ TlgsR (H'.set id ⟨.map es cl, true, true⟩) a.ts [a.val] a.F ∧ Fresh base a.F ∧ id ∉ a.F := fun a ha hdj => by
      obtain ⟨r1, r2, r3, r4⟩ := h.ent a ha
      exact ⟨r1, hset _ _ a r4 (Rp.fr r2 fun j hj => q4 j (hlt a ha j hj) (hdj j hj)), r3, r4⟩
    refine ⟨G1 ++ ⟨e.key, s, F', e.ts ++ [t]⟩ :: G2, ⟨q7, ?_, ?_, ?_⟩, ?_, ?_⟩
    · have := h.nod
      simpa using this
    · intro a ha
      rcases List.mem_append.1 ha with ha | ha
      · exact hoth a (by simp [ha]) fun j hj => d3 a ha e (by simp) j hj
      · rcases List.mem_cons.1 ha with rfl | ha
        · exact ⟨hn, hset _ _ ⟨e.key, s, F', e.ts ++ [t]⟩ hid q1, q2, hid⟩
        · exact hoth a (by simp [ha]) fun j hj hj' => d2 a ha j hj' hj
    · rw [List.pairwise_append]
      refine ⟨d1, List.pairwise_cons.2 ⟨fun a ha => ho2 a ha, d4⟩, fun a ha b hb => ?_⟩
      rcases List.mem_cons.1 hb with rfl | hb
      · exact ho1 a ha
      · exact d3 a ha b (by simp [hb])
    · intro m
      by_cases hme : m = e.key
      · subst hme
        rw [if_pos rfl, getE_app hn1, getE, if_pos rfl]
      · rw [if_neg hme]
        by_cases hmg : m ∈ G1.map (·.key)
        · rw [getE_front _ hmg, getE_front _ hmg]
        · rw [getE_app hmg, getE_app hmg, getE, getE, if_neg hme, if_neg hme]
    · intro m
      simp only [List.map_append, List.map_cons, List.mem_append, List.mem_cons]
      constructor
      · exact .inl
      · rintro (q | rfl)
        · exact q
        · exact .inr (.inl rfl)
  · refine ⟨.slice none 0 0, [], by rw [getP_nent hm]; rfl, by rw [getE_none hm]; exact SlR.nil, Fresh.nil _, by simp, ?_⟩
    intro H' s F' t es cl q1 q2 q3 q4 q5 q6 q7
    rw [getE_none hm] at q1 ⊢
    have hlt : ∀ a ∈ G, ∀ j ∈ a.F, j < H.length := fun a ha j hj => Rp.lt (h.ent a ha).2.1 j hj
    have hnew : ∀ j ∈ F', H.length ≤ j := fun j hj => (q5 j hj).resolve_left (by simp)
    rw [putP_nent (F := F') (ts := [t]) hm] at q7
    refine ⟨G ++ [⟨n, s, F', [t]⟩], ⟨q7, ?_, ?_, ?_⟩, ?_, ?_⟩
    · rw [List.map_append, List.nodup_append]
      refine ⟨h.nod, by simp, fun a ha b hb hab => ?_⟩
      simp at hb
      subst hb hab
      exact hm ha
    · intro a ha
      rcases List.mem_append.1 ha with ha | ha
      · obtain ⟨r1, r2, r3, r4⟩ := h.ent a ha
        exact ⟨r1, hset _ _ a r4 (Rp.fr r2 fun j hj => q4 j (hlt a ha j hj) (by simp)), r3, r4⟩
      · simp only [List.mem_singleton] at ha
        subst ha
        have hid : id ∉ F' := fun hj => by have := hnew id hj; omega
        exact ⟨hn, hset _ _ ⟨n, s, F', [t]⟩ hid q1, q2, hid⟩
    · rw [List.pairwise_append]
      refine ⟨h.dis, by simp, fun a ha b hb j hj hj' => ?_⟩
      simp only [List.mem_singleton] at hb
      subst hb
      have := hlt a ha j hj
      have := hnew j hj'
      omega
    · intro m
      by_cases hme : m = n
      · subst hme
        rw [if_pos rfl, getE_app hm, getE, if_pos rfl, List.nil_append]
      · rw [if_neg hme]
        by_cases hmg : m ∈ G.map (·.key)
        · rw [getE_front _ hmg]
        · rw [getE_app hmg, getE_none hmg, getE, if_neg hme, getE]
    · intro m
      simp only [List.map_append, List.map_cons, List.mem_append, List.map_nil, List.mem_singleton]
end Go.Proofs.YtbigpkfdeaigeaaGreatDoor

/- (impl.Account).tells. No condition. -/
set_option linter.unusedSimpArgs false
set_option linter.unusedVariables false
namespace Go.Proofs.YtbigpkfdeaigeaaGreatDoor
open Go Go.Am Go.Proofs
set_option maxRecDepth 100000
variable {ng : Nat}
theorem keyST : KeyT Tryz.prog 91 (fun s : List UInt8 => Value.string ⟨⟨s⟩⟩) 9 94 .string (.slice none 0 0) :=
  ⟨und91, und9, zer94, rfl, fun _ => rfl, fun a b => sameNow_str a b⟩
theorem lookT {κ : Type} [DecidableEq κ] {P : Program} {t : TypeId} {kf : κ → Value} {kt et : TypeId} {d : TypeDesc} {z : Value} {H : Heap} {id : Nat} {l : List (κ × Value)} {a : κ} {tm : List Value} {dd : Option Nat} {k : St → Prop} {v : Value} (hk : KeyT P t kf kt et d z) (h : MapR kf H id l) (hv : (getP a l).getD z = v)
    (hn : normT (putT tm dd v) H k) : LookK P t (.map (some id)) (kf a) false H tm dd k := by
  refine LookK.map hk h ?_
  revert hn
  rw [← hv]
  cases getP a l <;> exact fun h => h
theorem MtR.ext {H H' : Heap} {id base : Nat} {G : List Ent} (h : MtR H id base G) (he : Ext H H') : MtR H' id base G :=
  ⟨h.map.fr (he _ h.map.lt), h.nod, fun e q => by obtain ⟨a, b, c, d⟩ := h.ent e q; exact ⟨a, Rp.ext b he, c, d⟩, h.dis⟩
set_option maxHeartbeats 2000000 in
theorem tells_ac {own : Bool} {ds : List Deed} {sd : Value} {FD : List Nat} {H : Heap} (hs : DeedsR own H ds [sd] FD) (hok : accOk ds = true) (hW : WordsG gW H) (hP : P10 g10 H) (h0 : gW < ng) (h2 : g10 < ng) : AC Tryz.prog ng 50 [.agg #[sd]] H fun v S' => ∃ m G, v = .map (some m) ∧ Ext H S' ∧ H.length ≤ m ∧ MtR S' m H.length G ∧ (∀ n, getE n G = (tels n ds).map telI) ∧ ∀ n, n ∈ G.map (·.key) → n ∈ allNames ds := by
  obtain ⟨ad, zd, rfl⟩ := hs.form
  have hb := hs.bound
  refine AC.go [(11, .take 0 <| .take 1 <| .take 3 <| .take 4 <| .take 2 <| .take 5 <| .take 6 <| .take 7 <| .one 8 [2, 5, 6] <| .one 9 [2] <| .one 10 [] <| .done), (16, .take 0 <| .take 1 <| .take 3 <| .take 4 <| .take 7 <| .take 2 <| .take 5 <| .take 6 <| .one 8 [2, 5, 6] <| .one 9 [2] <| .one 10 [] <| .done), (18, .take 0 <| .take 1 <| .take 3 <| .take 4 <| .take 7 <| .take 2 <| .take 5 <| .take 6 <| .one 8 [2, 5, 6] <| .one 9 [2] <| .one 10 [] <| .done)] Tryz.func50 rfl Tryz.ntmps50 rfl ⟨mixed, by kernel_rfl⟩ ?_
  simp +contextual (dsimp := false)
  have hlen := accOk_len hok
  have hpart := allNames_part hok
  obtain ⟨H0, hH0⟩ : ∃ H0, H0 = H ++ [(⟨.cells #[.slice ad ds.length zd] 30 (0, 0), true, true⟩ : Blk), ⟨.map #[] 0, true, true⟩] := ⟨_, rfl⟩
  have hx0 : Ext H H0 := by rw [hH0]; exact Ext.app _ _
  have hl0 : H0.length = H.length + 2 := by rw [hH0]; simp
  have hm0 : MtR H0 (H.length + 1) H.length [] := ⟨MapR.new (by rw [hH0]; simp), by simp, by simp, by simp⟩
  rw [← hH0]
  refine LoopA.up (σ := Nat × Heap × List Ent) [3, 11, 12, 13] (fun i => [(13, int i.1)]) (fun i => i.2.1)
    (fun x => x.1 ≤ ds.length ∧ Ext H x.2.1 ∧ H.length + 2 ≤ x.2.1.length ∧ MtR x.2.1 (H.length + 1) H.length x.2.2 ∧ (∀ n, getE n x.2.2 = (tels n (ds.take x.1)).map telI) ∧ ∀ n, n ∈ x.2.2.map (·.key) → n ∈ allNames ds) (fun i => ds.length - i.1) (0, H0, []) rfl ⟨by simp, hx0, by dsimp only; omega, hm0, by simp [tels, getE], by simp⟩ ?_
  rintro ⟨i, hp, G⟩ ⟨hi, hx, hle, hm, hc, hkn⟩
  dsimp only at hi hx hle hm hc hkn
  simp +contextual (dsimp := false)
  refine ifA_dec (fun h3 => ?_) (fun h3 => ?_)
  · obtain ⟨id, o, c, e, f, ow, cs, Fi, E⟩ := SlR.get (Rp.ext hs hx) i h3
    obtain ⟨hkk, s1, s2, G1, G2, rfl, hFi, hc1, hc2⟩ := E.rep
    obtain ⟨a1, z1, rfl⟩ := hc1.form
    obtain ⟨a2, z2, rfl⟩ := hc2.form
    have hll := hc2.bound
    have hG2 : ∀ j ∈ G2, j < H.length := fun j hj => Rp.lt hs j (E.sub j (by rw [hFi]; simp [hj]))
    have hlk : ∀ h : Heap, Ext H h → LnksR own h ds[i].links [.slice a2 ds[i].links.length z2] G2 := fun h he => Rp.fr hc2 fun j hj => (he j (hG2 j hj)).trans (hx j (hG2 j hj)).symm
    have hgl : ∀ n, (getE n G).length ≤ 80400 := fun n => by
      rw [hc, List.length_map]
      have h1 := tels_len n (ds.take i)
      have h2 := hpart i h3 0
      simp at h2
      omega
    have hgn := hgl ds[i].name
    have hk5 : ¬ ds[i].kind = 5 := fun h => by
      have hk := accOk_deeds hok i h3
      rw [dAt_lt h3] at hk
      simp [deedOk, h] at hk
    have hiw := wrap_succ (show i < 9223372036854775807 by omega)
    simp +contextual (dsimp := false) [E.idx, E.goB, E.le, E.lt, E.cell0, E.cell, E.ext, hiw]
    refine ifA_dec (fun hk1 => ?_) (fun hk1 => ?_)
    · obtain ⟨tt, htt⟩ : ∃ tt : Tlg, tt = ⟨ds[i].kind, ds[i].text⟩ := ⟨_, rfl⟩
      have htk : tt.ok := by rw [htt]; exact ⟨hkk.2.1, hkk.2.2.2⟩
      have htel : telI ⟨ds[i].kind, if ds[i].kind = 1 then ds[i].text else [], ds[i].action⟩ = tt := by rw [htt]; simp [telI, hk1]
      obtain ⟨v, F, v1, v2, v3, v4, grow⟩ := hm.grow ds[i].name hkk.1
      refine lookT (a := ds[i].name) keyST (hm.map.fr (get_ext (by omega))) v1 ?_
      obtain ⟨av, zv, rfl⟩ := v2.form
      simp +contextual (dsimp := false)
      with_reducible refine And.intro ?_ ?_
      · refine lookT (a := ds[i].name) keyST (hm.map.fr (get_ext (by omega))) v1 ?_
        simp +contextual (dsimp := false)
      · skip
        refine AppK.one (R := TlgR) (ex := 96) (fx := (0, 0)) (ox := true) (base := H.length) (l := getE ds[i].name G) (x := tt) (cx := tt.c) (Fx := []) slt94 und94 (Rp.ext v2 (Ext.app _ _)) v3 (by rw [htt] <;> simp [Tlg.c]) ⟨rfl, rfl, htk⟩ (Fresh.nil _) (by simp) (by simp; omega) (by omega) (by decide) ?_
        intro sv1 h1 F1 r1 r2 r3 r4 r5
        obtain ⟨a9, z9, rfl⟩ := r1.form
        simp only [List.length_append, List.length_cons, List.length_nil] at r3 r4 r5
        have hdb : h1[hp.length]? = some (⟨.cells #[str ds[i].name, int ds[i].kind, int ds[i].code, str ds[i].text, .slice a1 ds[i].action.length z1, .slice a2 ds[i].links.length z2] 57 (0, 0), true, true⟩ : Blk) := (r4 hp.length (by omega) (fun h => absurd (Rp.lt v2 _ h) (by omega))).trans (by simp)
        simp +contextual (dsimp := false) [hdb]
        refine UpdK.map (a := ds[i].name) keyST (hm.map.fr ((r4 _ (by omega) v4).trans (get_ext (by omega)))) rfl ?_
        intro es cl hmp
        rw [show (getE ds[i].name G).length + 1 = (getE ds[i].name G ++ [tt]).length by simp] at hmp
        obtain ⟨G', g1, g2, g3⟩ := grow h1 _ F1 tt es cl r1 r2 (by omega) (fun j hj hn => (r4 j (by omega) hn).trans (get_ext hj)) (fun j hj => by rcases r5 j hj with q | q | q; exact .inl q; cases q; exact .inr (by omega)) (by omega) hmp
        have hdb2 : (h1.set (H.length + 1) (⟨.map es cl, true, true⟩ : Blk))[hp.length]? = some (⟨.cells #[str ds[i].name, int ds[i].kind, int ds[i].code, str ds[i].text, .slice a1 ds[i].action.length z1, .slice a2 ds[i].links.length z2] 57 (0, 0), true, true⟩ : Blk) := (List.getElem?_set_ne (by omega)).trans hdb
        simp +contextual (dsimp := false) [hdb2]
        obtain ⟨H2, hH2⟩ : ∃ H2, H2 = h1.set (H.length + 1) (⟨.map es cl, true, true⟩ : Blk) := ⟨_, rfl⟩
        rw [← hH2] at g1 ⊢
        have hl2 : H2.length = h1.length := by rw [hH2]; simp
        have hx2 : Ext H H2 := fun j hj => by
          rw [hH2]
          exact (List.getElem?_set_ne (by omega)).trans ((r4 j (by omega) (fun h => absurd (v3.1 _ h) (by omega))).trans ((get_ext (by omega)).trans (hx j hj)))
        refine LoopA.up (σ := Nat × Heap × List Ent) [3, 11, 12, 13, 44, 45, 46] (fun i => [(46, int i.1)]) (fun i => i.2.1)
          (fun x => x.1 ≤ ds[i].links.length ∧ Ext H x.2.1 ∧ H.length + 2 ≤ x.2.1.length ∧ MtR x.2.1 (H.length + 1) H.length x.2.2 ∧ (∀ n, getE n x.2.2 = (tels n (ds.take i) ++ (telD n ds[i] ++ (ds[i].links.take x.1).flatMap (telL n))).map telI) ∧ ∀ n, n ∈ x.2.2.map (·.key) → n ∈ allNames ds) (fun x => ds[i].links.length - x.1) (0, H2, G') rfl ⟨by simp, hx2, by dsimp only; omega, g1, ?_, ?_⟩ ?_
        · intro n
          dsimp only
          rw [g2, hc, hc]
          by_cases hnn : n = ds[i].name
          · subst hnn
            simp [telD, htel]
          · rw [if_neg hnn]
            simp [telD, Ne.symm hnn]
        · intro n hn
          rcases (g3 n).1 hn with hn | rfl
          · exact hkn n hn
          · exact List.mem_flatMap.2 ⟨ds[i], List.getElem_mem h3, by simp⟩
        · rintro ⟨k, h5, G5⟩ ⟨hk, p1, p2, p3, p4, p5⟩
          dsimp only at hk p1 p2 p3 p4 p5
          simp +contextual (dsimp := false)
          refine ifA_dec (fun h6 => ?_) (fun h6 => ?_)
          · obtain ⟨id', o', c', e', f', ow', cs', Fi', E'⟩ := SlR.get (hlk h5 p1) k h6
            obtain ⟨rfl, rfl, hok'⟩ := E'.rep
            have hkw := wrap_succ (show k < 9223372036854775807 by omega)
            simp +contextual (dsimp := false) [E'.idx, E'.goB, E'.le, E'.lt, E'.ext, Lnk.c, hkw]
            have htl : telL ds[i].links[k].name ds[i].links[k] = if ds[i].links[k].ask = false then [⟨if ds[i].links[k].has then 4 else 5, [], []⟩] else [] := by simp [telL]
            refine ifA_intro (fun h7 => ?_) (fun h7 => ?_)
            · refine LoopN.of (k + 1, _, G5) rfl ⟨h6, p1.trans (Ext.app _ _), by simp; omega, p3.ext (Ext.app _ _), fun n => ?_, p5⟩ (by dsimp only; omega)
              dsimp only
              rw [p4, telL_s h6]
              simp [telL, h7]
            · obtain ⟨v', F', u1, u2, u3, u4, grow'⟩ := p3.grow ds[i].links[k].name hok'.1
              have hg5 : (getE ds[i].links[k].name G5).length ≤ 80401 := by
                rw [p4, List.length_map]
                have q1 := tels_len ds[i].links[k].name (ds.take i)
                have q2 := hpart i h3 k
                have q3 := telD_len ds[i].links[k].name ds[i]
                have q4 := flatL_len ds[i].links[k].name (ds[i].links.take k)
                simp only [List.length_append, List.length_cons, List.length_map] at q1 q2 q3 q4 ⊢
                omega
              refine ifA_intro (fun h8 => ?_) (fun h8 => ?_)
              · skip
                obtain ⟨tl, htl2⟩ : ∃ tl : Tlg, tl = ⟨4, []⟩ := ⟨_, rfl⟩
                have htlk : tl.ok := by rw [htl2]; exact ⟨by simp [i64], by simp [okS]⟩
                refine lookT (a := ds[i].links[k].name) keyST (p3.map.fr (get_ext (by omega))) u1 ?_
                obtain ⟨av', zv', rfl⟩ := u2.form
                simp +contextual (dsimp := false)
                with_reducible refine And.intro ?_ ?_
                · refine lookT (a := ds[i].links[k].name) keyST (p3.map.fr (get_ext (by omega))) u1 ?_
                  simp +contextual (dsimp := false)
                · skip
                  refine AppK.one (R := TlgR) (ex := 96) (fx := (0, 0)) (ox := true) (base := H.length) (l := getE ds[i].links[k].name G5) (x := tl) (cx := tl.c) (Fx := []) slt94 und94 (Rp.ext u2 (Ext.app _ _)) u3 (by rw [htl2] <;> simp [Tlg.c]) ⟨rfl, rfl, htlk⟩ (Fresh.nil _) (by simp) (by simp; omega) (by omega) (by decide) ?_
                  intro sv7 h9 F7 t1 t2 t3 t4 t5
                  obtain ⟨a7, z7, rfl⟩ := t1.form
                  simp only [List.length_append, List.length_cons, List.length_nil] at t3 t4 t5
                  have hdl : h9[h5.length]? = some (⟨.cells #[str ds[i].links[k].name, .bool false, .bool true, int ds[i].links[k].at_] 129 (0, 0), true, true⟩ : Blk) := (t4 h5.length (by omega) (fun h => absurd (Rp.lt u2 _ h) (by omega))).trans (by simp)
                  simp +contextual (dsimp := false) [hdl]
                  refine UpdK.map (a := ds[i].links[k].name) keyST (p3.map.fr ((t4 _ (by omega) u4).trans (get_ext (by omega)))) rfl ?_
                  intro es' cl' hmp'
                  rw [show (getE ds[i].links[k].name G5).length + 1 = (getE ds[i].links[k].name G5 ++ [tl]).length by simp] at hmp'
                  obtain ⟨G8, w1, w2, w3⟩ := grow' h9 _ F7 tl es' cl' t1 t2 (by omega) (fun j hj hn => (t4 j (by omega) hn).trans (get_ext hj)) (fun j hj => by rcases t5 j hj with q | q | q; exact .inl q; cases q; exact .inr (by omega)) (by omega) hmp'
                  simp +contextual (dsimp := false) [hkw]
                  refine LoopN.of (k + 1, _, G8) rfl ⟨h6, fun j hj => (List.getElem?_set_ne (by omega)).trans ((t4 j (by omega) (fun h => absurd (u3.1 _ h) (by omega))).trans ((get_ext (by omega)).trans (p1 j hj))), by simp; omega, w1, fun n => ?_, fun n hn => ?_⟩ (by dsimp only; omega)
                  · dsimp only
                    rw [w2, p4, p4, telL_s h6]
                    by_cases hnn : n = ds[i].links[k].name
                    · subst hnn
                      simp [telL, h7, h8, htl2, telI]
                    · rw [if_neg hnn]
                      simp [telL, Ne.symm hnn]
                  · rcases (w3 n).1 hn with hn | rfl
                    · exact p5 n hn
                    · exact List.mem_flatMap.2 ⟨ds[i], List.getElem_mem h3, List.mem_cons_of_mem _ (List.mem_map_of_mem (List.getElem_mem h6))⟩
              · skip
                obtain ⟨tl, htl2⟩ : ∃ tl : Tlg, tl = ⟨2, []⟩ := ⟨_, rfl⟩
                have htlk : tl.ok := by rw [htl2]; exact ⟨by simp [i64], by simp [okS]⟩
                refine lookT (a := ds[i].links[k].name) keyST (p3.map.fr (get_ext (by omega))) u1 ?_
                obtain ⟨av', zv', rfl⟩ := u2.form
                simp +contextual (dsimp := false)
                with_reducible refine And.intro ?_ ?_
                · refine lookT (a := ds[i].links[k].name) keyST (p3.map.fr (get_ext (by omega))) u1 ?_
                  simp +contextual (dsimp := false)
                · skip
                  refine AppK.one (R := TlgR) (ex := 96) (fx := (0, 0)) (ox := true) (base := H.length) (l := getE ds[i].links[k].name G5) (x := tl) (cx := tl.c) (Fx := []) slt94 und94 (Rp.ext u2 (Ext.app _ _)) u3 (by rw [htl2] <;> simp [Tlg.c]) ⟨rfl, rfl, htlk⟩ (Fresh.nil _) (by simp) (by simp; omega) (by omega) (by decide) ?_
                  intro sv7 h9 F7 t1 t2 t3 t4 t5
                  obtain ⟨a7, z7, rfl⟩ := t1.form
                  simp only [List.length_append, List.length_cons, List.length_nil] at t3 t4 t5
                  have hdl : h9[h5.length]? = some (⟨.cells #[str ds[i].links[k].name, .bool false, .bool false, int ds[i].links[k].at_] 129 (0, 0), true, true⟩ : Blk) := (t4 h5.length (by omega) (fun h => absurd (Rp.lt u2 _ h) (by omega))).trans (by simp)
                  simp +contextual (dsimp := false) [hdl]
                  refine UpdK.map (a := ds[i].links[k].name) keyST (p3.map.fr ((t4 _ (by omega) u4).trans (get_ext (by omega)))) rfl ?_
                  intro es' cl' hmp'
                  rw [show (getE ds[i].links[k].name G5).length + 1 = (getE ds[i].links[k].name G5 ++ [tl]).length by simp] at hmp'
                  obtain ⟨G8, w1, w2, w3⟩ := grow' h9 _ F7 tl es' cl' t1 t2 (by omega) (fun j hj hn => (t4 j (by omega) hn).trans (get_ext hj)) (fun j hj => by rcases t5 j hj with q | q | q; exact .inl q; cases q; exact .inr (by omega)) (by omega) hmp'
                  simp +contextual (dsimp := false) [hkw]
                  refine LoopN.of (k + 1, _, G8) rfl ⟨h6, fun j hj => (List.getElem?_set_ne (by omega)).trans ((t4 j (by omega) (fun h => absurd (u3.1 _ h) (by omega))).trans ((get_ext (by omega)).trans (p1 j hj))), by simp; omega, w1, fun n => ?_, fun n hn => ?_⟩ (by dsimp only; omega)
                  · dsimp only
                    rw [w2, p4, p4, telL_s h6]
                    by_cases hnn : n = ds[i].links[k].name
                    · subst hnn
                      simp [telL, h7, h8, htl2, telI]
                    · rw [if_neg hnn]
                      simp [telL, Ne.symm hnn]
                  · rcases (w3 n).1 hn with hn | rfl
                    · exact p5 n hn
                    · exact List.mem_flatMap.2 ⟨ds[i], List.getElem_mem h3, List.mem_cons_of_mem _ (List.mem_map_of_mem (List.getElem_mem h6))⟩
          · rw [List.take_of_length_le (show ds[i].links.length ≤ k by omega)] at p4
            simp +contextual (dsimp := false) [hiw]
            refine LoopN.of (i + 1, h5, G5) rfl ⟨h3, p1, p2, p3, fun n => ?_, p5⟩ (by dsimp only; omega)
            dsimp only
            rw [p4, tels_s h3]
    · refine ifA_dec (fun hk3 => ?_) (fun hk3 => ?_)
      · refine CallK.fl ⟨_, Tryz.func105, rfl, rfl⟩ (implPrintProgram_ac (Rp.ext hc1 (Ext.app _ _)) (hW.ext (hx.trans (Ext.app _ _))) (hP.ext (hx.trans (Ext.app _ _))) h0 h2) ?_
        simp +contextual (dsimp := false)
        have hpl : (printP ds[i].action).length ≤ 1202200 := by
          unfold printP
          split
          · rename_i hv
            unfold validP at hv
            simp only [Bool.and_eq_true, decide_eq_true_eq, List.all_eq_true] at hv
            have := printL_len (p := ds[i].action) hv.2
            omega
          · simp
        obtain ⟨tt, htt⟩ : ∃ tt : Tlg, tt = ⟨ds[i].kind, printP ds[i].action⟩ := ⟨_, rfl⟩
        have htk : tt.ok := by rw [htt]; exact ⟨hkk.2.1, Nat.le_trans hpl (by decide)⟩
        have htel : telI ⟨ds[i].kind, if ds[i].kind = 1 then ds[i].text else [], ds[i].action⟩ = tt := by rw [htt]; simp [telI, hk3]
        obtain ⟨v, F, v1, v2, v3, v4, grow⟩ := hm.grow ds[i].name hkk.1
        refine lookT (a := ds[i].name) keyST (hm.map.fr (get_ext (by omega))) v1 ?_
        obtain ⟨av, zv, rfl⟩ := v2.form
        simp +contextual (dsimp := false)
        with_reducible refine And.intro ?_ ?_
        · refine lookT (a := ds[i].name) keyST (hm.map.fr (get_ext (by omega))) v1 ?_
          simp +contextual (dsimp := false)
        · skip
          refine AppK.one (R := TlgR) (ex := 96) (fx := (0, 0)) (ox := true) (base := H.length) (l := getE ds[i].name G) (x := tt) (cx := tt.c) (Fx := []) slt94 und94 (Rp.ext v2 (Ext.app _ _)) v3 (by rw [htt] <;> simp [Tlg.c]) ⟨rfl, rfl, htk⟩ (Fresh.nil _) (by simp) (by simp; omega) (by omega) (by decide) ?_
          intro sv1 h1 F1 r1 r2 r3 r4 r5
          obtain ⟨a9, z9, rfl⟩ := r1.form
          simp only [List.length_append, List.length_cons, List.length_nil] at r3 r4 r5
          have hdb : h1[hp.length]? = some (⟨.cells #[str ds[i].name, int ds[i].kind, int ds[i].code, str ds[i].text, .slice a1 ds[i].action.length z1, .slice a2 ds[i].links.length z2] 57 (0, 0), true, true⟩ : Blk) := (r4 hp.length (by omega) (fun h => absurd (Rp.lt v2 _ h) (by omega))).trans (by simp)
          simp +contextual (dsimp := false) [hdb]
          refine UpdK.map (a := ds[i].name) keyST (hm.map.fr ((r4 _ (by omega) v4).trans (get_ext (by omega)))) rfl ?_
          intro es cl hmp
          rw [show (getE ds[i].name G).length + 1 = (getE ds[i].name G ++ [tt]).length by simp] at hmp
          obtain ⟨G', g1, g2, g3⟩ := grow h1 _ F1 tt es cl r1 r2 (by omega) (fun j hj hn => (r4 j (by omega) hn).trans (get_ext hj)) (fun j hj => by rcases r5 j hj with q | q | q; exact .inl q; cases q; exact .inr (by omega)) (by omega) hmp
          have hdb2 : (h1.set (H.length + 1) (⟨.map es cl, true, true⟩ : Blk))[hp.length]? = some (⟨.cells #[str ds[i].name, int ds[i].kind, int ds[i].code, str ds[i].text, .slice a1 ds[i].action.length z1, .slice a2 ds[i].links.length z2] 57 (0, 0), true, true⟩ : Blk) := (List.getElem?_set_ne (by omega)).trans hdb
          simp +contextual (dsimp := false) [hdb2]
          obtain ⟨H2, hH2⟩ : ∃ H2, H2 = h1.set (H.length + 1) (⟨.map es cl, true, true⟩ : Blk) := ⟨_, rfl⟩
          rw [← hH2] at g1 ⊢
          have hl2 : H2.length = h1.length := by rw [hH2]; simp
          have hx2 : Ext H H2 := fun j hj => by
            rw [hH2]
            exact (List.getElem?_set_ne (by omega)).trans ((r4 j (by omega) (fun h => absurd (v3.1 _ h) (by omega))).trans ((get_ext (by omega)).trans (hx j hj)))
          refine LoopA.up (σ := Nat × Heap × List Ent) [3, 11, 12, 13, 44, 45, 46] (fun i => [(46, int i.1)]) (fun i => i.2.1)
            (fun x => x.1 ≤ ds[i].links.length ∧ Ext H x.2.1 ∧ H.length + 2 ≤ x.2.1.length ∧ MtR x.2.1 (H.length + 1) H.length x.2.2 ∧ (∀ n, getE n x.2.2 = (tels n (ds.take i) ++ (telD n ds[i] ++ (ds[i].links.take x.1).flatMap (telL n))).map telI) ∧ ∀ n, n ∈ x.2.2.map (·.key) → n ∈ allNames ds) (fun x => ds[i].links.length - x.1) (0, H2, G') rfl ⟨by simp, hx2, by dsimp only; omega, g1, ?_, ?_⟩ ?_
          · intro n
            dsimp only
            rw [g2, hc, hc]
            by_cases hnn : n = ds[i].name
            · subst hnn
              simp [telD, htel]
            · rw [if_neg hnn]
              simp [telD, Ne.symm hnn]
          · intro n hn
            rcases (g3 n).1 hn with hn | rfl
            · exact hkn n hn
            · exact List.mem_flatMap.2 ⟨ds[i], List.getElem_mem h3, by simp⟩
          · rintro ⟨k, h5, G5⟩ ⟨hk, p1, p2, p3, p4, p5⟩
            dsimp only at hk p1 p2 p3 p4 p5
            simp +contextual (dsimp := false)
            refine ifA_dec (fun h6 => ?_) (fun h6 => ?_)
            · obtain ⟨id', o', c', e', f', ow', cs', Fi', E'⟩ := SlR.get (hlk h5 p1) k h6
              obtain ⟨rfl, rfl, hok'⟩ := E'.rep
              have hkw := wrap_succ (show k < 9223372036854775807 by omega)
              simp +contextual (dsimp := false) [E'.idx, E'.goB, E'.le, E'.lt, E'.ext, Lnk.c, hkw]
              have htl : telL ds[i].links[k].name ds[i].links[k] = if ds[i].links[k].ask = false then [⟨if ds[i].links[k].has then 4 else 5, [], []⟩] else [] := by simp [telL]
              refine ifA_intro (fun h7 => ?_) (fun h7 => ?_)
              · refine LoopN.of (k + 1, _, G5) rfl ⟨h6, p1.trans (Ext.app _ _), by simp; omega, p3.ext (Ext.app _ _), fun n => ?_, p5⟩ (by dsimp only; omega)
                dsimp only
                rw [p4, telL_s h6]
                simp [telL, h7]
              · obtain ⟨v', F', u1, u2, u3, u4, grow'⟩ := p3.grow ds[i].links[k].name hok'.1
                have hg5 : (getE ds[i].links[k].name G5).length ≤ 80401 := by
                  rw [p4, List.length_map]
                  have q1 := tels_len ds[i].links[k].name (ds.take i)
                  have q2 := hpart i h3 k
                  have q3 := telD_len ds[i].links[k].name ds[i]
                  have q4 := flatL_len ds[i].links[k].name (ds[i].links.take k)
                  simp only [List.length_append, List.length_cons, List.length_map] at q1 q2 q3 q4 ⊢
                  omega
                refine ifA_intro (fun h8 => ?_) (fun h8 => ?_)
                · skip
                  obtain ⟨tl, htl2⟩ : ∃ tl : Tlg, tl = ⟨4, []⟩ := ⟨_, rfl⟩
                  have htlk : tl.ok := by rw [htl2]; exact ⟨by simp [i64], by simp [okS]⟩
                  refine lookT (a := ds[i].links[k].name) keyST (p3.map.fr (get_ext (by omega))) u1 ?_
                  obtain ⟨av', zv', rfl⟩ := u2.form
                  simp +contextual (dsimp := false)
                  with_reducible refine And.intro ?_ ?_
                  · refine lookT (a := ds[i].links[k].name) keyST (p3.map.fr (get_ext (by omega))) u1 ?_
                    simp +contextual (dsimp := false)
                  · skip
                    refine AppK.one (R := TlgR) (ex := 96) (fx := (0, 0)) (ox := true) (base := H.length) (l := getE ds[i].links[k].name G5) (x := tl) (cx := tl.c) (Fx := []) slt94 und94 (Rp.ext u2 (Ext.app _ _)) u3 (by rw [htl2] <;> simp [Tlg.c]) ⟨rfl, rfl, htlk⟩ (Fresh.nil _) (by simp) (by simp; omega) (by omega) (by decide) ?_
                    intro sv7 h9 F7 t1 t2 t3 t4 t5
                    obtain ⟨a7, z7, rfl⟩ := t1.form
                    simp only [List.length_append, List.length_cons, List.length_nil] at t3 t4 t5
                    have hdl : h9[h5.length]? = some (⟨.cells #[str ds[i].links[k].name, .bool false, .bool true, int ds[i].links[k].at_] 129 (0, 0), true, true⟩ : Blk) := (t4 h5.length (by omega) (fun h => absurd (Rp.lt u2 _ h) (by omega))).trans (by simp)
                    simp +contextual (dsimp := false) [hdl]
                    refine UpdK.map (a := ds[i].links[k].name) keyST (p3.map.fr ((t4 _ (by omega) u4).trans (get_ext (by omega)))) rfl ?_
                    intro es' cl' hmp'
                    rw [show (getE ds[i].links[k].name G5).length + 1 = (getE ds[i].links[k].name G5 ++ [tl]).length by simp] at hmp'
                    obtain ⟨G8, w1, w2, w3⟩ := grow' h9 _ F7 tl es' cl' t1 t2 (by omega) (fun j hj hn => (t4 j (by omega) hn).trans (get_ext hj)) (fun j hj => by rcases t5 j hj with q | q | q; exact .inl q; cases q; exact .inr (by omega)) (by omega) hmp'
                    simp +contextual (dsimp := false) [hkw]
                    refine LoopN.of (k + 1, _, G8) rfl ⟨h6, fun j hj => (List.getElem?_set_ne (by omega)).trans ((t4 j (by omega) (fun h => absurd (u3.1 _ h) (by omega))).trans ((get_ext (by omega)).trans (p1 j hj))), by simp; omega, w1, fun n => ?_, fun n hn => ?_⟩ (by dsimp only; omega)
                    · dsimp only
                      rw [w2, p4, p4, telL_s h6]
                      by_cases hnn : n = ds[i].links[k].name
                      · subst hnn
                        simp [telL, h7, h8, htl2, telI]
                      · rw [if_neg hnn]
                        simp [telL, Ne.symm hnn]
                    · rcases (w3 n).1 hn with hn | rfl
                      · exact p5 n hn
                      · exact List.mem_flatMap.2 ⟨ds[i], List.getElem_mem h3, List.mem_cons_of_mem _ (List.mem_map_of_mem (List.getElem_mem h6))⟩
                · skip
                  obtain ⟨tl, htl2⟩ : ∃ tl : Tlg, tl = ⟨2, []⟩ := ⟨_, rfl⟩
                  have htlk : tl.ok := by rw [htl2]; exact ⟨by simp [i64], by simp [okS]⟩
                  refine lookT (a := ds[i].links[k].name) keyST (p3.map.fr (get_ext (by omega))) u1 ?_
                  obtain ⟨av', zv', rfl⟩ := u2.form
                  simp +contextual (dsimp := false)
                  with_reducible refine And.intro ?_ ?_
                  · refine lookT (a := ds[i].links[k].name) keyST (p3.map.fr (get_ext (by omega))) u1 ?_
                    simp +contextual (dsimp := false)
                  · skip
                    refine AppK.one (R := TlgR) (ex := 96) (fx := (0, 0)) (ox := true) (base := H.length) (l := getE ds[i].links[k].name G5) (x := tl) (cx := tl.c) (Fx := []) slt94 und94 (Rp.ext u2 (Ext.app _ _)) u3 (by rw [htl2] <;> simp [Tlg.c]) ⟨rfl, rfl, htlk⟩ (Fresh.nil _) (by simp) (by simp; omega) (by omega) (by decide) ?_
                    intro sv7 h9 F7 t1 t2 t3 t4 t5
                    obtain ⟨a7, z7, rfl⟩ := t1.form
                    simp only [List.length_append, List.length_cons, List.length_nil] at t3 t4 t5
                    have hdl : h9[h5.length]? = some (⟨.cells #[str ds[i].links[k].name, .bool false, .bool false, int ds[i].links[k].at_] 129 (0, 0), true, true⟩ : Blk) := (t4 h5.length (by omega) (fun h => absurd (Rp.lt u2 _ h) (by omega))).trans (by simp)
                    simp +contextual (dsimp := false) [hdl]
                    refine UpdK.map (a := ds[i].links[k].name) keyST (p3.map.fr ((t4 _ (by omega) u4).trans (get_ext (by omega)))) rfl ?_
                    intro es' cl' hmp'
                    rw [show (getE ds[i].links[k].name G5).length + 1 = (getE ds[i].links[k].name G5 ++ [tl]).length by simp] at hmp'
                    obtain ⟨G8, w1, w2, w3⟩ := grow' h9 _ F7 tl es' cl' t1 t2 (by omega) (fun j hj hn => (t4 j (by omega) hn).trans (get_ext hj)) (fun j hj => by rcases t5 j hj with q | q | q; exact .inl q; cases q; exact .inr (by omega)) (by omega) hmp'
                    simp +contextual (dsimp := false) [hkw]
                    refine LoopN.of (k + 1, _, G8) rfl ⟨h6, fun j hj => (List.getElem?_set_ne (by omega)).trans ((t4 j (by omega) (fun h => absurd (u3.1 _ h) (by omega))).trans ((get_ext (by omega)).trans (p1 j hj))), by simp; omega, w1, fun n => ?_, fun n hn => ?_⟩ (by dsimp only; omega)
                    · dsimp only
                      rw [w2, p4, p4, telL_s h6]
                      by_cases hnn : n = ds[i].links[k].name
                      · subst hnn
                        simp [telL, h7, h8, htl2, telI]
                      · rw [if_neg hnn]
                        simp [telL, Ne.symm hnn]
                    · rcases (w3 n).1 hn with hn | rfl
                      · exact p5 n hn
                      · exact List.mem_flatMap.2 ⟨ds[i], List.getElem_mem h3, List.mem_cons_of_mem _ (List.mem_map_of_mem (List.getElem_mem h6))⟩
            · rw [List.take_of_length_le (show ds[i].links.length ≤ k by omega)] at p4
              simp +contextual (dsimp := false) [hiw]
              refine LoopN.of (i + 1, h5, G5) rfl ⟨h3, p1, p2, p3, fun n => ?_, p5⟩ (by dsimp only; omega)
              dsimp only
              rw [p4, tels_s h3]
      · obtain ⟨tt, htt⟩ : ∃ tt : Tlg, tt = ⟨ds[i].kind, []⟩ := ⟨_, rfl⟩
        have htk : tt.ok := by rw [htt]; exact ⟨hkk.2.1, by simp [okS]⟩
        have htel : telI ⟨ds[i].kind, if ds[i].kind = 1 then ds[i].text else [], ds[i].action⟩ = tt := by rw [htt]; simp [telI, hk1, hk3, hk5]
        obtain ⟨v, F, v1, v2, v3, v4, grow⟩ := hm.grow ds[i].name hkk.1
        refine lookT (a := ds[i].name) keyST (hm.map.fr (get_ext (by omega))) v1 ?_
        obtain ⟨av, zv, rfl⟩ := v2.form
        simp +contextual (dsimp := false)
        with_reducible refine And.intro ?_ ?_
        · refine lookT (a := ds[i].name) keyST (hm.map.fr (get_ext (by omega))) v1 ?_
          simp +contextual (dsimp := false)
        · skip
          refine AppK.one (R := TlgR) (ex := 96) (fx := (0, 0)) (ox := true) (base := H.length) (l := getE ds[i].name G) (x := tt) (cx := tt.c) (Fx := []) slt94 und94 (Rp.ext v2 (Ext.app _ _)) v3 (by rw [htt] <;> simp [Tlg.c]) ⟨rfl, rfl, htk⟩ (Fresh.nil _) (by simp) (by simp; omega) (by omega) (by decide) ?_
          intro sv1 h1 F1 r1 r2 r3 r4 r5
          obtain ⟨a9, z9, rfl⟩ := r1.form
          simp only [List.length_append, List.length_cons, List.length_nil] at r3 r4 r5
          have hdb : h1[hp.length]? = some (⟨.cells #[str ds[i].name, int ds[i].kind, int ds[i].code, str ds[i].text, .slice a1 ds[i].action.length z1, .slice a2 ds[i].links.length z2] 57 (0, 0), true, true⟩ : Blk) := (r4 hp.length (by omega) (fun h => absurd (Rp.lt v2 _ h) (by omega))).trans (by simp)
          simp +contextual (dsimp := false) [hdb]
          refine UpdK.map (a := ds[i].name) keyST (hm.map.fr ((r4 _ (by omega) v4).trans (get_ext (by omega)))) rfl ?_
          intro es cl hmp
          rw [show (getE ds[i].name G).length + 1 = (getE ds[i].name G ++ [tt]).length by simp] at hmp
          obtain ⟨G', g1, g2, g3⟩ := grow h1 _ F1 tt es cl r1 r2 (by omega) (fun j hj hn => (r4 j (by omega) hn).trans (get_ext hj)) (fun j hj => by rcases r5 j hj with q | q | q; exact .inl q; cases q; exact .inr (by omega)) (by omega) hmp
          have hdb2 : (h1.set (H.length + 1) (⟨.map es cl, true, true⟩ : Blk))[hp.length]? = some (⟨.cells #[str ds[i].name, int ds[i].kind, int ds[i].code, str ds[i].text, .slice a1 ds[i].action.length z1, .slice a2 ds[i].links.length z2] 57 (0, 0), true, true⟩ : Blk) := (List.getElem?_set_ne (by omega)).trans hdb
          simp +contextual (dsimp := false) [hdb2]
          obtain ⟨H2, hH2⟩ : ∃ H2, H2 = h1.set (H.length + 1) (⟨.map es cl, true, true⟩ : Blk) := ⟨_, rfl⟩
          rw [← hH2] at g1 ⊢
          have hl2 : H2.length = h1.length := by rw [hH2]; simp
          have hx2 : Ext H H2 := fun j hj => by
            rw [hH2]
            exact (List.getElem?_set_ne (by omega)).trans ((r4 j (by omega) (fun h => absurd (v3.1 _ h) (by omega))).trans ((get_ext (by omega)).trans (hx j hj)))
          refine LoopA.up (σ := Nat × Heap × List Ent) [3, 11, 12, 13, 44, 45, 46] (fun i => [(46, int i.1)]) (fun i => i.2.1)
            (fun x => x.1 ≤ ds[i].links.length ∧ Ext H x.2.1 ∧ H.length + 2 ≤ x.2.1.length ∧ MtR x.2.1 (H.length + 1) H.length x.2.2 ∧ (∀ n, getE n x.2.2 = (tels n (ds.take i) ++ (telD n ds[i] ++ (ds[i].links.take x.1).flatMap (telL n))).map telI) ∧ ∀ n, n ∈ x.2.2.map (·.key) → n ∈ allNames ds) (fun x => ds[i].links.length - x.1) (0, H2, G') rfl ⟨by simp, hx2, by dsimp only; omega, g1, ?_, ?_⟩ ?_
          · intro n
            dsimp only
            rw [g2, hc, hc]
            by_cases hnn : n = ds[i].name
            · subst hnn
              simp [telD, htel]
            · rw [if_neg hnn]
              simp [telD, Ne.symm hnn]
          · intro n hn
            rcases (g3 n).1 hn with hn | rfl
            · exact hkn n hn
            · exact List.mem_flatMap.2 ⟨ds[i], List.getElem_mem h3, by simp⟩
          · rintro ⟨k, h5, G5⟩ ⟨hk, p1, p2, p3, p4, p5⟩
            dsimp only at hk p1 p2 p3 p4 p5
            simp +contextual (dsimp := false)
            refine ifA_dec (fun h6 => ?_) (fun h6 => ?_)
            · obtain ⟨id', o', c', e', f', ow', cs', Fi', E'⟩ := SlR.get (hlk h5 p1) k h6
              obtain ⟨rfl, rfl, hok'⟩ := E'.rep
              have hkw := wrap_succ (show k < 9223372036854775807 by omega)
              simp +contextual (dsimp := false) [E'.idx, E'.goB, E'.le, E'.lt, E'.ext, Lnk.c, hkw]
              have htl : telL ds[i].links[k].name ds[i].links[k] = if ds[i].links[k].ask = false then [⟨if ds[i].links[k].has then 4 else 5, [], []⟩] else [] := by simp [telL]
              refine ifA_intro (fun h7 => ?_) (fun h7 => ?_)
              · refine LoopN.of (k + 1, _, G5) rfl ⟨h6, p1.trans (Ext.app _ _), by simp; omega, p3.ext (Ext.app _ _), fun n => ?_, p5⟩ (by dsimp only; omega)
                dsimp only
                rw [p4, telL_s h6]
                simp [telL, h7]
              · obtain ⟨v', F', u1, u2, u3, u4, grow'⟩ := p3.grow ds[i].links[k].name hok'.1
                have hg5 : (getE ds[i].links[k].name G5).length ≤ 80401 := by
                  rw [p4, List.length_map]
                  have q1 := tels_len ds[i].links[k].name (ds.take i)
                  have q2 := hpart i h3 k
                  have q3 := telD_len ds[i].links[k].name ds[i]
                  have q4 := flatL_len ds[i].links[k].name (ds[i].links.take k)
                  simp only [List.length_append, List.length_cons, List.length_map] at q1 q2 q3 q4 ⊢
                  omega
                refine ifA_intro (fun h8 => ?_) (fun h8 => ?_)
                · skip
                  obtain ⟨tl, htl2⟩ : ∃ tl : Tlg, tl = ⟨4, []⟩ := ⟨_, rfl⟩
                  have htlk : tl.ok := by rw [htl2]; exact ⟨by simp [i64], by simp [okS]⟩
                  refine lookT (a := ds[i].links[k].name) keyST (p3.map.fr (get_ext (by omega))) u1 ?_
                  obtain ⟨av', zv', rfl⟩ := u2.form
                  simp +contextual (dsimp := false)
                  with_reducible refine And.intro ?_ ?_
                  · refine lookT (a := ds[i].links[k].name) keyST (p3.map.fr (get_ext (by omega))) u1 ?_
                    simp +contextual (dsimp := false)
                  · skip
                    refine AppK.one (R := TlgR) (ex := 96) (fx := (0, 0)) (ox := true) (base := H.length) (l := getE ds[i].links[k].name G5) (x := tl) (cx := tl.c) (Fx := []) slt94 und94 (Rp.ext u2 (Ext.app _ _)) u3 (by rw [htl2] <;> simp [Tlg.c]) ⟨rfl, rfl, htlk⟩ (Fresh.nil _) (by simp) (by simp; omega) (by omega) (by decide) ?_
                    intro sv7 h9 F7 t1 t2 t3 t4 t5
                    obtain ⟨a7, z7, rfl⟩ := t1.form
                    simp only [List.length_append, List.length_cons, List.length_nil] at t3 t4 t5
                    have hdl : h9[h5.length]? = some (⟨.cells #[str ds[i].links[k].name, .bool false, .bool true, int ds[i].links[k].at_] 129 (0, 0), true, true⟩ : Blk) := (t4 h5.length (by omega) (fun h => absurd (Rp.lt u2 _ h) (by omega))).trans (by simp)
                    simp +contextual (dsimp := false) [hdl]
                    refine UpdK.map (a := ds[i].links[k].name) keyST (p3.map.fr ((t4 _ (by omega) u4).trans (get_ext (by omega)))) rfl ?_
                    intro es' cl' hmp'
                    rw [show (getE ds[i].links[k].name G5).length + 1 = (getE ds[i].links[k].name G5 ++ [tl]).length by simp] at hmp'
                    obtain ⟨G8, w1, w2, w3⟩ := grow' h9 _ F7 tl es' cl' t1 t2 (by omega) (fun j hj hn => (t4 j (by omega) hn).trans (get_ext hj)) (fun j hj => by rcases t5 j hj with q | q | q; exact .inl q; cases q; exact .inr (by omega)) (by omega) hmp'
                    simp +contextual (dsimp := false) [hkw]
                    refine LoopN.of (k + 1, _, G8) rfl ⟨h6, fun j hj => (List.getElem?_set_ne (by omega)).trans ((t4 j (by omega) (fun h => absurd (u3.1 _ h) (by omega))).trans ((get_ext (by omega)).trans (p1 j hj))), by simp; omega, w1, fun n => ?_, fun n hn => ?_⟩ (by dsimp only; omega)
                    · dsimp only
                      rw [w2, p4, p4, telL_s h6]
                      by_cases hnn : n = ds[i].links[k].name
                      · subst hnn
                        simp [telL, h7, h8, htl2, telI]
                      · rw [if_neg hnn]
                        simp [telL, Ne.symm hnn]
                    · rcases (w3 n).1 hn with hn | rfl
                      · exact p5 n hn
                      · exact List.mem_flatMap.2 ⟨ds[i], List.getElem_mem h3, List.mem_cons_of_mem _ (List.mem_map_of_mem (List.getElem_mem h6))⟩
                · skip
                  obtain ⟨tl, htl2⟩ : ∃ tl : Tlg, tl = ⟨2, []⟩ := ⟨_, rfl⟩
                  have htlk : tl.ok := by rw [htl2]; exact ⟨by simp [i64], by simp [okS]⟩
                  refine lookT (a := ds[i].links[k].name) keyST (p3.map.fr (get_ext (by omega))) u1 ?_
                  obtain ⟨av', zv', rfl⟩ := u2.form
                  simp +contextual (dsimp := false)
                  with_reducible refine And.intro ?_ ?_
                  · refine lookT (a := ds[i].links[k].name) keyST (p3.map.fr (get_ext (by omega))) u1 ?_
                    simp +contextual (dsimp := false)
                  · skip
                    refine AppK.one (R := TlgR) (ex := 96) (fx := (0, 0)) (ox := true) (base := H.length) (l := getE ds[i].links[k].name G5) (x := tl) (cx := tl.c) (Fx := []) slt94 und94 (Rp.ext u2 (Ext.app _ _)) u3 (by rw [htl2] <;> simp [Tlg.c]) ⟨rfl, rfl, htlk⟩ (Fresh.nil _) (by simp) (by simp; omega) (by omega) (by decide) ?_
                    intro sv7 h9 F7 t1 t2 t3 t4 t5
                    obtain ⟨a7, z7, rfl⟩ := t1.form
                    simp only [List.length_append, List.length_cons, List.length_nil] at t3 t4 t5
                    have hdl : h9[h5.length]? = some (⟨.cells #[str ds[i].links[k].name, .bool false, .bool false, int ds[i].links[k].at_] 129 (0, 0), true, true⟩ : Blk) := (t4 h5.length (by omega) (fun h => absurd (Rp.lt u2 _ h) (by omega))).trans (by simp)
                    simp +contextual (dsimp := false) [hdl]
                    refine UpdK.map (a := ds[i].links[k].name) keyST (p3.map.fr ((t4 _ (by omega) u4).trans (get_ext (by omega)))) rfl ?_
                    intro es' cl' hmp'
                    rw [show (getE ds[i].links[k].name G5).length + 1 = (getE ds[i].links[k].name G5 ++ [tl]).length by simp] at hmp'
                    obtain ⟨G8, w1, w2, w3⟩ := grow' h9 _ F7 tl es' cl' t1 t2 (by omega) (fun j hj hn => (t4 j (by omega) hn).trans (get_ext hj)) (fun j hj => by rcases t5 j hj with q | q | q; exact .inl q; cases q; exact .inr (by omega)) (by omega) hmp'
                    simp +contextual (dsimp := false) [hkw]
                    refine LoopN.of (k + 1, _, G8) rfl ⟨h6, fun j hj => (List.getElem?_set_ne (by omega)).trans ((t4 j (by omega) (fun h => absurd (u3.1 _ h) (by omega))).trans ((get_ext (by omega)).trans (p1 j hj))), by simp; omega, w1, fun n => ?_, fun n hn => ?_⟩ (by dsimp only; omega)
                    · dsimp only
                      rw [w2, p4, p4, telL_s h6]
                      by_cases hnn : n = ds[i].links[k].name
                      · subst hnn
                        simp [telL, h7, h8, htl2, telI]
                      · rw [if_neg hnn]
                        simp [telL, Ne.symm hnn]
                    · rcases (w3 n).1 hn with hn | rfl
                      · exact p5 n hn
                      · exact List.mem_flatMap.2 ⟨ds[i], List.getElem_mem h3, List.mem_cons_of_mem _ (List.mem_map_of_mem (List.getElem_mem h6))⟩
            · rw [List.take_of_length_le (show ds[i].links.length ≤ k by omega)] at p4
              simp +contextual (dsimp := false) [hiw]
              refine LoopN.of (i + 1, h5, G5) rfl ⟨h3, p1, p2, p3, fun n => ?_, p5⟩ (by dsimp only; omega)
              dsimp only
              rw [p4, tels_s h3]
  · rw [List.take_of_length_le (show ds.length ≤ i by omega)] at hc
    exact ⟨hx, G, hm, hc, fun e he => hkn _ (List.mem_map_of_mem he)⟩
end Go.Proofs.YtbigpkfdeaigeaaGreatDoor

/- impl.Why. No condition. -/
set_option linter.unusedSimpArgs false
set_option linter.unusedVariables false
namespace Go.Proofs.YtbigpkfdeaigeaaGreatDoor
open Go Go.Am Go.Proofs
set_option maxRecDepth 100000
variable {ng : Nat}
def oddI (xs ys : List Tlg) : Bool := xs.any fun x => ys.any fun y => !goesT x y
theorem any_eq {α : Type} {p q : α → Bool} : ∀ {l : List α}, (∀ x ∈ l, p x = q x) → l.any p = l.any q
  | [], _ => rfl
  | x :: l, h => by rw [List.any_cons, List.any_cons, h x (by simp), any_eq fun y hy => h y (by simp [hy])]
theorem oddI_eq {a b : List Deed} (ha : accOk a = true) (hb : accOk b = true) (n : List UInt8) : oddI ((tels n a).map telI) ((tels n b).map telI) = odds a b n := by
  unfold oddI odds
  rw [List.any_map]
  refine any_eq fun x hx => ?_
  dsimp only [Function.comp]
  rw [List.any_map]
  refine any_eq fun y hy => ?_
  dsimp only [Function.comp]
  rw [goes_agree (tels_fit ha x hx) (tels_fit hb y hy)]
theorem any_take_i {α : Type} {l : List α} {p : α → Bool} {k : Nat} (h : k < l.length) : (l.take (k + 1)).any p = ((l.take k).any p || p l[k]) := by
  rw [List.take_succ_eq_append_getElem h, List.any_append]
  simp
/-- The names with odds among the entries that were shown. -/
def oddN (Ga : List Ent) (Gb : List Ent) (done : List Nat) (y : List UInt8) : Prop := ∃ i ∈ done, ∃ hi : i < Ga.length, y = Ga[i].key ∧ oddI Ga[i].ts (getE y Gb) = true
theorem getE_at : ∀ {G : List Ent} {i : Nat} (hi : i < G.length), (G.map (·.key)).Nodup → getE G[i].key G = G[i].ts
  | e :: G, 0, _, _ => by simp [getE]
  | e :: G, i + 1, hi, hn => by
    simp only [List.map_cons, List.nodup_cons] at hn
    have hi' : i < G.length := by simpa using hi
    have hne : ¬ G[i].key = e.key := fun h => hn.1 (h ▸ List.mem_map_of_mem (List.getElem_mem hi'))
    simp only [List.getElem_cons_succ, getE, if_neg hne]
    exact getE_at hi' hn.2
theorem oddN_all {da db : List Deed} (ha : accOk da = true) (hb : accOk db = true) {Ga Gb : List Ent} (hn : (Ga.map (·.key)).Nodup) (h1 : ∀ n, getE n Ga = (tels n da).map telI) (h2 : ∀ n, getE n Gb = (tels n db).map telI) (h3 : ∀ n, n ∈ Ga.map (·.key) → n ∈ allNames da) {done : List Nat} (hd : ∀ i, i < Ga.length → i ∈ done) (y : List UInt8) :
    oddN Ga Gb done y ↔ y ∈ (namesOf da).filter (odds da db) := by
  have hm : y ∈ namesOf da ↔ y ∈ allNames da := by
    unfold namesOf
    rw [if_pos ha, setOf_mem]
  rw [List.mem_filter, hm]
  constructor
  · rintro ⟨i, -, hi, rfl, ho⟩
    refine ⟨h3 _ (List.mem_map_of_mem (List.getElem_mem hi)), ?_⟩
    rw [← getE_at hi hn, h1, h2, oddI_eq ha hb] at ho
    exact ho
  · rintro ⟨-, ho⟩
    rw [← oddI_eq ha hb, ← h1, ← h2] at ho
    by_cases hk : y ∈ Ga.map (·.key)
    · obtain ⟨i, hi, he⟩ := List.mem_iff_getElem.1 hk
      simp only [List.getElem_map] at he
      have hi' : i < Ga.length := by simpa using hi
      refine ⟨i, hd i hi', hi', he.symm, ?_⟩
      rw [← he, getE_at hi' hn] at ho
      rw [← he]
      exact ho
    · rw [getE_none hk] at ho
      simp [oddI] at ho
theorem whyOf_len (a b : List Deed) : (whyOf a b).length ≤ 80400 := by
  unfold whyOf
  split
  · rename_i h
    refine Nat.le_trans (setOf_len _) (Nat.le_trans (List.length_filter_le _ _) ?_)
    unfold namesOf
    rw [if_pos h.1]
    exact Nat.le_trans (setOf_len _) (allNames_len h.1)
  · simp
set_option maxHeartbeats 2000000 in
theorem implWhy_ac {oa ob : Bool} {da db : List Deed} {sa sb : Value} {FA FB : List Nat} {H : Heap} (ha : DeedsR oa H da [sa] FA) (hb : DeedsR ob H db [sb] FB) (hW : WordsG gW H) (hP : P10 g10 H) (h0 : gW < ng) (h2 : g10 < ng) : AC Tryz.prog ng 11 [.agg #[sa], .agg #[sb]] H fun v S' => ∃ F', Ext H S' ∧ StrsR true S' (whyOf da db) [v] F' ∧ Fresh H.length F' := by
  obtain ⟨aa, za, rfl⟩ := ha.form
  obtain ⟨ab, zb, rfl⟩ := hb.form
  refine AC.go [] Tryz.func11 rfl Tryz.ntmps11 rfl ⟨mixed, by kernel_rfl⟩ ?_
  simp +contextual (dsimp := false)
  refine CallK.fl ⟨_, Tryz.func49, rfl, rfl⟩ (accValid_ac (Rp.ext ha (Ext.app _ _))) ?_
  unfold whyOf
  cases hoa : accOk da with
  | false =>
    simp +contextual (dsimp := false)
    exact ⟨[], SlR.nil, Fresh.nil _⟩
  | true =>
    simp +contextual (dsimp := false)
    refine CallK.fl ⟨_, Tryz.func49, rfl, rfl⟩ (accValid_ac (Rp.ext hb (Ext.app _ _))) ?_
    cases hob : accOk db with
    | false =>
      simp +contextual (dsimp := false)
      exact ⟨[], SlR.nil, Fresh.nil _⟩
    | true =>
      simp +contextual (dsimp := false)
      obtain ⟨H0, hH0⟩ : ∃ H0, H0 = H ++ [(⟨.cells #[.slice aa da.length za] 30 (0, 0), true, true⟩ : Blk), ⟨.cells #[.slice ab db.length zb] 30 (0, 0), true, true⟩] := ⟨_, rfl⟩
      have hx0 : Ext H H0 := by rw [hH0]; exact Ext.app _ _
      have hl0 : H0.length = H.length + 2 := by rw [hH0]; simp
      have hb0 : H0[H.length]? = some (⟨.cells #[.slice aa da.length za] 30 (0, 0), true, true⟩ : Blk) := by rw [hH0]; simp
      rw [← hH0]
      refine CallK.of ⟨_, Tryz.func50, rfl, rfl⟩ (tells_ac (Rp.ext hb hx0) hob (hW.ext hx0) (hP.ext hx0) h0 h2) ?_
      rintro v S1 ⟨mb, Gb, rfl, e1, l1, t1, c1, k1⟩
      have hb1 : S1[H.length]? = _ := (e1 _ (by omega)).trans hb0
      simp +contextual (dsimp := false) [hb1]
      obtain ⟨H1, hH1⟩ : ∃ H1, H1 = S1 ++ [(⟨.map #[] 0, true, true⟩ : Blk)] := ⟨_, rfl⟩
      have hx1 : Ext S1 H1 := by rw [hH1]; exact Ext.app _ _
      have hl1 : H1.length = S1.length + 1 := by rw [hH1]; simp
      have hm1 : MapR kS H1 S1.length (vS []) := MapR.new (by rw [hH1]; simp)
      have hb2 : H1[H.length]? = _ := (hx1 _ (by have := e1.le; omega)).trans hb1
      rw [← hH1]
      have hX1 : Ext H H1 := hx0.trans (e1.trans hx1)
      simp +contextual (dsimp := false) [hb2]
      refine CallK.of ⟨_, Tryz.func50, rfl, rfl⟩ (tells_ac (Rp.ext ha hX1) hoa (hW.ext hX1) (hP.ext hX1) h0 h2) ?_
      rintro v S2 ⟨ma, Ga, rfl, e2, l2, t2, c2, k2⟩
      simp +contextual (dsimp := false)
      refine RangeK.map und91 t2.map ?_
      intro b hit
      simp +contextual (dsimp := false)
      have hle1 := e1.le
      have hle2 := e2.le
      have hmal := t2.map.lt
      have hmbl := t1.map.lt
      have hms2 : MapR kS S2 S1.length (vS []) := hm1.fr (e2 _ (by omega))
      refine LoopA.up (σ := Heap × List Nat × List (List UInt8)) [5, 6, 26] (fun x => []) (fun x => x.1)
        (fun x => IterR kS x.1 S2.length ma (Ga.map Ent.kv) x.2.1 ∧ x.2.1.Nodup ∧ x.2.1.length ≤ Ga.length ∧ (∀ j, j < S2.length → j ≠ S1.length → x.1[j]? = S2[j]?) ∧ S2.length + 1 ≤ x.1.length ∧ MapR kS x.1 S1.length (vS x.2.2) ∧ x.2.2.Nodup ∧ (∀ y, y ∈ x.2.2 ↔ oddN Ga Gb x.2.1 y) ∧ ∀ y ∈ x.2.2, okS y)
        (fun x => Ga.length - x.2.1.length) (_, [], []) rfl ⟨hit, List.nodup_nil, by simp, fun j hj _ => get_ext hj, by simp, hms2.fr (get_ext (by omega)), List.nodup_nil, by simp [oddN], by simp⟩ ?_
      rintro ⟨hp, done, l⟩ ⟨hit, hnd, hdl, hfr, hle, hm, hln, hmem, hks⟩
      dsimp only at hit hnd hdl hfr hle hm hln hmem hks
      simp +contextual (dsimp := false)
      have hvl : (Ga.map Ent.kv).length = Ga.length := by simp
      refine NextK.map hit (fun i hi hni H' hit' hH' hl' => ?_) (fun hall => ?_)
      · have hi2 : i < Ga.length := by omega
        have hin : ∀ j ∈ done ++ [i], j < (Ga.map Ent.kv).length := by
          obtain ⟨_, _, _, _, _, _, _, _, _, _, h⟩ := hit'
          exact h
        have hnd2 : (done ++ [i]).Nodup := List.nodup_append.2 ⟨hnd, by simp, fun a ha b hb hab => hni (by simp at hb; rw [← hb, ← hab]; exact ha)⟩
        have hle2' : (done ++ [i]).length ≤ Ga.length := by
          have := nodup_sub_len (done ++ [i]) (List.range Ga.length) hnd2 fun k hk => List.mem_range.2 (by have := hin k hk; omega)
          simpa using this
        simp only [List.length_append, List.length_singleton] at hle2'
        obtain ⟨k3, e3, f3, n3⟩ := t2.ent Ga[i] (List.getElem_mem hi2)
        have hkv : (Ga.map Ent.kv)[i] = (Ga[i].key, Ga[i].val) := by simp [Ent.kv]
        generalize hnm : Ga[i].key = nm at *
        generalize htv : Ga[i].val = tv at *
        obtain ⟨az, zz, rfl⟩ := e3.form
        have hbt := e3.bound
        have hm' : MapR kS H' S1.length (vS l) := hm.fr (hH' _ (by omega))
        have hfr' : ∀ j, j < S2.length → j ≠ S1.length → H'[j]? = S2[j]? := fun j hj hn => (hH' _ (by omega)).trans (hfr j hj hn)
        rw [hkv]
        simp +contextual (dsimp := false)
        refine EntryK.map hi hit' ?_
        rw [hkv]
        simp +contextual (dsimp := false)
        refine LoopA.up (σ := Nat × Heap × List (List UInt8)) [5, 6, 7, 26, 32, 33, 34] (fun x => [(34, int x.1)]) (fun x => x.2.1)
          (fun x => x.1 ≤ Ga[i].ts.length ∧ H'.length ≤ x.2.1.length ∧ (∀ j, j < H'.length → j ≠ S1.length → x.2.1[j]? = H'[j]?) ∧ MapR kS x.2.1 S1.length (vS x.2.2) ∧ x.2.2.Nodup ∧ (∀ y, y ∈ x.2.2 ↔ oddN Ga Gb done y ∨ (y = nm ∧ oddI (Ga[i].ts.take x.1) (getE nm Gb) = true)) ∧ ∀ y ∈ x.2.2, okS y)
          (fun x => Ga[i].ts.length - x.1) (0, H', l) rfl ⟨by simp, by simp, fun j _ _ => rfl, hm', hln, fun y => by simp [hmem, oddI], hks⟩ ?_
        rintro ⟨k, h1, l1'⟩ ⟨hk, p1, p2, p3, p4, p5, p6⟩
        dsimp only at hk p1 p2 p3 p4 p5 p6
        simp +contextual (dsimp := false)
        refine ifA_dec (fun h3 => ?_) (fun h3 => ?_)
        · have hsl : TlgsR h1 Ga[i].ts [.slice az Ga[i].ts.length zz] Ga[i].F := Rp.fr e3 fun j hj => (p2 j (by have := Rp.lt e3 j hj; omega) (by have := f3.1 j hj; omega)).trans (hfr' j (Rp.lt e3 j hj) (by have := f3.1 j hj; omega))
          obtain ⟨id, o, c, e, f, ow, cs, Fi, E⟩ := SlR.get hsl k h3
          obtain ⟨rfl, rfl, hok⟩ := E.rep
          have hkw := wrap_succ (show k < 9223372036854775807 by omega)
          obtain ⟨v4, F4, v5, v6, v7, -, -⟩ := t1.grow nm k3
          have hmb : ∀ T : Heap, MapR kS (h1 ++ T) mb (Gb.map Ent.kv) := fun T => t1.map.fr ((get_ext (by omega)).trans ((p2 _ (by omega) (by omega)).trans ((hfr' _ (by omega) (by omega)).trans ((e2 _ (by omega)).trans (hx1 _ (by omega))))))
          simp +contextual (dsimp := false) [E.idx, E.goB, E.le, E.lt, E.ext, hkw, Tlg.c]
          refine lookT (a := nm) keyST (hmb _) v5 ?_
          obtain ⟨a5, z5, rfl⟩ := v6.form
          have hb5 := v6.bound
          obtain ⟨h2', hh2⟩ : ∃ h2', h2' = h1 ++ [(⟨.cells #[int Ga[i].ts[k].kind, str Ga[i].ts[k].what] 96 (0, 0), true, true⟩ : Blk)] := ⟨_, rfl⟩
          have hx2 : Ext h1 h2' := by rw [hh2]; exact Ext.app _ _
          have hl2 : h2'.length = h1.length + 1 := by rw [hh2]; simp
          have hbx : h2'[h1.length]? = some (⟨.cells #[int Ga[i].ts[k].kind, str Ga[i].ts[k].what] 96 (0, 0), true, true⟩ : Blk) := by rw [hh2]; simp
          simp +contextual (dsimp := false) [hkw]
          rw [← hh2]
          have hP2 : ∀ j, j < S2.length → j ≠ S1.length → h2'[j]? = S2[j]? := fun j hj hn => (hx2 j (by omega)).trans ((p2 _ (by omega) hn).trans (hfr' _ hj hn))
          refine LoopA.up (σ := Nat × Heap × List (List UInt8)) [5, 6, 7, 10, 26, 32, 33, 34, 40, 41, 42] (fun x => [(42, int x.1)]) (fun x => x.2.1)
            (fun x => x.1 ≤ (getE nm Gb).length ∧ h2'.length ≤ x.2.1.length ∧ (∀ j, j < h2'.length → j ≠ S1.length → x.2.1[j]? = h2'[j]?) ∧ MapR kS x.2.1 S1.length (vS x.2.2) ∧ x.2.2.Nodup ∧ (∀ y, y ∈ x.2.2 ↔ oddN Ga Gb done y ∨ (y = nm ∧ (oddI (Ga[i].ts.take k) (getE nm Gb) = true ∨ (((getE nm Gb).take x.1).any fun y => !goesT Ga[i].ts[k] y) = true))) ∧ ∀ y ∈ x.2.2, okS y)
            (fun x => (getE nm Gb).length - x.1) (0, h2', l1') rfl ⟨by simp, by simp, fun j _ _ => rfl, p3.fr (hx2 _ (by omega)), p4, fun y => by simp [p5], p6⟩ ?_
          rintro ⟨q, h3', l2'⟩ ⟨hq, r1, r2, r3, r4, r5, r6⟩
          dsimp only at hq r1 r2 r3 r4 r5 r6
          have hbx3 : h3'[h1.length]? = _ := (r2 _ (by omega) (by omega)).trans hbx
          simp +contextual (dsimp := false)
          refine ifA_dec (fun h4 => ?_) (fun h4 => ?_)
          · have hso : TlgsR h3' (getE nm Gb) [.slice a5 (getE nm Gb).length z5] F4 := Rp.fr v6 fun j hj => by
              have hj1 := Rp.lt v6 j hj
              exact (r2 j (by omega) (by omega)).trans ((hP2 j (by omega) (by omega)).trans ((e2 _ (by omega)).trans (hx1 _ hj1)))
            obtain ⟨id4, o4, c4, e4, f4, ow4, cs4, Fi4, E4⟩ := SlR.get hso q h4
            obtain ⟨rfl, rfl, hok4⟩ := E4.rep
            have hqw := wrap_succ (show q < 9223372036854775807 by omega)
            have hbx4 : ∀ T : Heap, (h3' ++ T)[h1.length]? = _ := fun T => (get_ext (by omega)).trans hbx3
            simp +contextual (dsimp := false) [E4.idx, E4.goB, E4.le, E4.lt, E4.ext, hqw, Tlg.c, hbx3, hbx4]
            refine CallK.fl ⟨_, Tryz.func51, rfl, rfl⟩ (goes_ac (x := Ga[i].ts[k]) (y := (getE nm Gb)[q])) ?_
            cases hg : goesT Ga[i].ts[k] (getE nm Gb)[q] with
            | true =>
              simp +contextual (dsimp := false) [hqw]
              refine LoopN.of (q + 1, _, l2') rfl ⟨h4, by simp; omega, fun j hj hn => (get_ext (by omega)).trans (r2 j hj hn), r3.fr (get_ext r3.lt), r4, fun y => ?_, r6⟩ (by dsimp only; omega)
              dsimp only
              rw [r5, any_take_i h4, hg]
              simp
            | false =>
              simp +contextual (dsimp := false) [hqw]
              refine UpdK.map (a := nm) keySB (r3.fr (get_ext r3.lt)) rfl ?_
              intro es cl hmp
              rw [putP_vS] at hmp
              simp +contextual (dsimp := false) [hqw]
              refine LoopN.of (q + 1, _, if nm ∈ l2' then l2' else l2' ++ [nm]) rfl ⟨h4, by simp; omega, fun j hj hn => (List.getElem?_set_ne (by omega)).trans ((get_ext (by omega)).trans (r2 j hj hn)), hmp, nodup_put r4, fun y => ?_, fun y hy => ?_⟩ (by dsimp only; omega)
              · dsimp only
                rw [mem_put, r5, any_take_i h4, hg]
                by_cases hy : y = nm <;> simp [hy]
              · rcases mem_put.1 hy with hy | rfl
                · exact r6 y hy
                · exact k3
          · simp +contextual (dsimp := false) [hkw]
            refine LoopN.of (k + 1, h3', l2') rfl ⟨h3, by dsimp only; omega, fun j hj hn => (r2 j (by omega) hn).trans ((hx2 j (by omega)).trans (p2 j hj hn)), r3, r4, fun y => ?_, r6⟩ (by dsimp only; omega)
            dsimp only
            rw [r5, List.take_of_length_le (show (getE nm Gb).length ≤ q by omega)]
            unfold oddI
            rw [any_take_i h3]
            simp
        · refine LoopN.of (h1, done ++ [i], l1') rfl ⟨hit'.fr (p2 _ (by omega) (by omega)) (p2 _ (by omega) (by omega)), hnd2, by simpa using hle2', fun j hj hn => (p2 j (by omega) hn).trans (hfr' j hj hn), by dsimp only; omega, p3, p4, fun y => ?_, p6⟩ (by simp only [List.length_append, List.length_singleton]; omega)
          dsimp only
          rw [p5, List.take_of_length_le (show Ga[i].ts.length ≤ k by omega)]
          constructor
          · rintro (⟨j, hj, hj2, hh⟩ | ⟨rfl, hh⟩)
            · exact ⟨j, by simp [hj], hj2, hh⟩
            · exact ⟨i, by simp, hi2, hnm.symm, hh⟩
          · rintro ⟨j, hj, hj2, he, hh⟩
            rcases List.mem_append.1 hj with hj | hj
            · exact .inl ⟨j, hj, hj2, he, hh⟩
            · simp only [List.mem_singleton] at hj
              subst hj
              exact .inr ⟨he.trans hnm, by rw [he, hnm] at hh; exact hh⟩
      · have hg : ∀ k, goEx (.tuple #[.bool false]) 0 k = k (.bool false) := fun k => by simp [goEx, extract?, isOver, goV]
        simp +contextual (dsimp := false) [hg]
        have hall' : ∀ i, i < Ga.length → i ∈ done := fun i hi => hall i (by omega)
        have hmem2 : ∀ y, y ∈ l ↔ y ∈ (namesOf da).filter (odds da db) := fun y => (hmem y).trans (oddN_all hoa hob t2.nod c2 c1 k2 hall' y)
        have hll : l.length ≤ 80400 := by
          refine Nat.le_trans (nodup_sub_len l (allNames da) hln fun y hy => ?_) (allNames_len hoa)
          have := (hmem2 y).1 hy
          rw [List.mem_filter] at this
          have h9 := this.1
          unfold namesOf at h9
          rw [if_pos hoa, setOf_mem] at h9
          exact h9
        refine CallK.of ⟨_, Tryz.func52, rfl, rfl⟩ (sorted_ac hm hks (by omega)) ?_
        rintro v S' ⟨o, F, hp1, he1, hv1, hf1⟩
        rw [sort_setOf hln hmem2 hp1] at hv1
        obtain ⟨a3, z3, rfl⟩ := hv1.form
        simp +contextual (dsimp := false)
        refine ⟨fun j hj => (he1 _ (by omega)).trans ((hfr j (by omega) (by omega)).trans ((e2 _ (by omega)).trans (hX1 j hj))), F, hv1, hf1.weak (by omega)⟩
end Go.Proofs.YtbigpkfdeaigeaaGreatDoor
