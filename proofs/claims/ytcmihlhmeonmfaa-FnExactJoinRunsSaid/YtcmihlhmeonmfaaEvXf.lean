/- The typed evaluator and the evaluator: functions. -/
import Derived.Test.YtcmihlhmeonmfaaEvXe
import Derived.Test.YtcmihlhmeonmfaaEv28
namespace Go.Proofs.Ytcmihlhmeonmfaa.Ev
open Go
set_option linter.unusedVariables false
set_option linter.unusedSimpArgs false

section
variable {P : Program} {X : TX} {g : FuncId}

theorem tRes_rel {α : Type} (hX : XOK P X) {st : TSt} {s : St} (hs : RS st s) : ∀ (l : List ResultVar) {K : List SV → Option α} {z : α}, tRes X st.tm st.hp l K = some z →
    ∃ xs ys, K xs = some z ∧ RC (RV2 st.hp) xs ys ∧ ∀ KV : List V → Prop, KV ys → resVs P s l KV
  | [], K, z, h => ⟨[], [], h, trivial, fun KV hk => hk⟩
  | .tmp t :: l, K, z, h => by
    obtain ⟨xs, ys, h1, h2, h3⟩ := tRes_rel hX hs l h
    exact ⟨_, _ :: ys, h1, ⟨hs.tm t, h2⟩, fun KV hk => h3 _ hk⟩
  | .cell a t :: l, K, z, h => by
    simp only [tRes] at h
    obtain ⟨x, u, h1, h2, h3⟩ := load_rel hX (hs.tm a) hs.hp.toM h
    obtain ⟨xs, ys, q1, q2, q3⟩ := tRes_rel hX hs l h1
    refine ⟨_, u :: ys, q1, ⟨h2, q2⟩, fun KV hk => ?_⟩
    show (match nevM P (.load t (.tmp a)) (opnd s.tm) s.hp 0 with | some (x, _) => resVs P s l fun xs => KV (x :: xs) | none => False)
    rw [h3 (opnd s.tm) (.tmp a) 0 rfl]
    exact q3 _ hk

theorem enumS_lk : ∀ (ys : List V) (k i : Nat), lk V.any (enum k ys) i = if k ≤ i then (ys[i - k]?).getD .any else .any
  | [], k, i => by simp [enum, lk]
  | y :: ys, k, i => by
    show (if i = k then y else lk V.any (enum (k + 1) ys) i) = _
    rw [enumS_lk ys (k + 1) i]
    by_cases h : i = k
    · subst h; simp
    · rw [if_neg h]
      by_cases h2 : k ≤ i
      · rw [if_pos h2, if_pos (by omega)]
        have : i - k = (i - (k + 1)) + 1 := by omega
        rw [this, List.getElem?_cons_succ]
      · rw [if_neg h2, if_neg (by omega)]

theorem enumT_rel {hp : THp} : ∀ {xs : List SV} {ys : List V} (k : Nat), RC (RV2 hp) xs ys → RT hp (enumT k xs) (lk .any (enum k ys))
  | [], [], k, _ => fun t => trivial
  | x :: xs, y :: ys, k, h => by
    intro t
    show RV2 hp (getV ((k, x) :: enumT (k + 1) xs) t) (if t = k then y else lk .any (enum (k + 1) ys) t)
    rw [getV_cons]
    split
    · exact h.1
    · exact enumT_rel (k + 1) h.2 t
  | [], _ :: _, _, h => h.elim
  | _ :: _, [], _, h => h.elim

theorem norm_SR : ∀ (ms : List (Nat × Mds)) (k : Nat) {st st' : St}, ms.map (·.1) = List.range' k ms.length → normS ms st = some st' →
    normR (ms.map (·.2)) ((List.range' k ms.length).map st.tm) st.hp st.c = some ((List.range' k ms.length).map st'.tm, st'.hp, st'.c) ∧ ∀ s, s < k → st'.tm s = st.tm s
  | [], k, st, st', _, h => by
    simp only [normS, Option.some.injEq] at h
    subst h
    exact ⟨rfl, fun s _ => rfl⟩
  | (s, m) :: ms, k, st, st', hm, h => by
    simp only [List.map_cons, List.length_cons, List.range'_succ, List.cons.injEq] at hm
    obtain ⟨rfl, hm⟩ := hm
    simp only [normS] at h
    split at h
    · rename_i x hp n hn
      split at h
      · rename_i hn16
        obtain ⟨h1, h2⟩ := norm_SR ms (s + 1) (st := { tm := upd st.tm s x, hp := hp, c := st.c + 1 }) hm h
        have hx : st'.tm s = x := by rw [h2 s (by omega)]; simp [upd]
        have hl : (List.range' (s + 1) ms.length).map (upd st.tm s x) = (List.range' (s + 1) ms.length).map st.tm := by
          apply List.map_congr_left
          intro i hi
          have := List.mem_range'_1.1 hi
          simp [upd, show i ≠ s by omega]
        refine ⟨?_, fun t ht => by rw [h2 t (by omega)]; simp [upd, show t ≠ s by omega]⟩
        simp only [List.map_cons, List.length_cons, List.range'_succ, normR, hn, if_pos hn16]
        simp only at h1
        rw [hl] at h1
        rw [h1, hx]
      · cases h
    · cases h

/-- The values of slots are no tuples. -/
def noTupS : SV → Bool
  | .tup _ => false
  | _ => true

theorem enc_noTup {f : Nat → Nat} : ∀ (l : List Item) (k : Nat) (d : denI l), ∀ p ∈ (encI f k l d).1, noTupS p.2 = true
  | [], k, d, p, hp => by simp [encI] at hp
  | .root b :: l, k, d, p, hp => by simp only [encI] at hp; exact enc_noTup l _ _ p hp
  | .slot s a :: l, k, d, p, hp => by
    simp only [encI] at hp
    split at hp
    all_goals
      rcases List.mem_cons.1 hp with rfl | hp
      · cases a with
        | cell c => cases c <;> rfl
        | agg cs => rfl
        | new b => cases b <;> rfl
        | ref j isb => cases isb <;> rfl
        | clo f => rfl
      · exact enc_noTup l _ _ p hp

theorem noTup_rel {hp : THp} {v : SV} {y : V} {φ : Nat → Option Nat} (hn : noTupS v = true) (hne : v ≠ .any) (h : RV2 hp v (ren2 φ y)) : notTup y = true ∧ ren2 φ y = ren1 φ y ∧ refs2 y = refs1 y ∧ RV1 hp v (ren1 φ y) := by
  have key : notTup y = true := by
    cases y with
    | tup us =>
      exfalso
      simp only [ren2] at h
      cases v with
      | tup vs => cases hn
      | any => exact hne rfl
      | agg cs => obtain ⟨us', h, _⟩ := h; cases h
      | cl f caps => obtain ⟨us', h, _⟩ := h; cases h
      | int k n => cases h
      | bool b => cases h
      | str s => cases h
      | sc x => cases h
      | em => cases h
      | im t l => rcases h with ⟨_, h⟩ | ⟨_, h, _⟩ <;> cases h
      | ow id => obtain ⟨n, h, _⟩ := h; cases h
      | ar id lo n => cases h
      | rf id r c => cases h
      | ir t a c => obtain ⟨row, h, _⟩ := h; cases h
    | _ => rfl
  have h1 : ren2 φ y = ren1 φ y := by cases y <;> first | rfl | cases key
  have h2 : refs2 y = refs1 y := by cases y <;> first | rfl | cases key
  refine ⟨key, h1, h2, ?_⟩
  rw [← h1]
  cases v <;> first | exact h | cases hn

theorem enc_noAny {f : Nat → Nat} : ∀ (l : List Item) (k : Nat) (d : denI l), ∀ p ∈ (encI f k l d).1, p.2 ≠ .any
  | [], k, d, p, hp => by simp [encI] at hp
  | .root b :: l, k, d, p, hp => by simp only [encI] at hp; exact enc_noAny l _ _ p hp
  | .slot s a :: l, k, d, p, hp => by
    simp only [encI] at hp
    split at hp
    all_goals
      rcases List.mem_cons.1 hp with rfl | hp
      · cases a with
        | cell c => cases c <;> simp [encSV, encC]
        | agg cs => simp [encSV]
        | new b => cases b <;> simp [encSV]
        | ref j isb => cases isb <;> simp [encSV]
        | clo f => simp [encSV]
      · exact enc_noAny l _ _ p hp

theorem enc_slots {f : Nat → Nat} : ∀ (l : List Item) (k : Nat) (d : denI l), (encI f k l d).1.map (·.1) = slotsI l
  | [], k, d => rfl
  | .root b :: l, k, d => by simp only [encI, slotsI]; exact enc_slots l _ _
  | .slot s a :: l, k, d => by
    simp only [encI, slotsI]
    split <;> simp [enc_slots l]

theorem vals_rel {H : THp} {φ : Nat → Option Nat} {tm : Tm} : ∀ (l : List (Nat × SV)) (k : Nat), l.map (·.1) = List.range' k l.length → (∀ p ∈ l, noTupS p.2 = true ∧ p.2 ≠ .any ∧ RV2 H p.2 (ren2 φ (tm p.1))) →
    (∀ y ∈ (List.range' k l.length).map tm, notTup y = true ∧ refs2 y = refs1 y) ∧ RC (RV1 H) (l.map (·.2)) (((List.range' k l.length).map tm).map (ren1 φ))
  | [], k, _, _ => ⟨by simp, trivial⟩
  | (s, v) :: l, k, hs, h => by
    simp only [List.map_cons, List.length_cons, List.range'_succ, List.cons.injEq] at hs
    obtain ⟨rfl, hs⟩ := hs
    obtain ⟨h1, h2, h3⟩ := h (s, v) (by simp)
    obtain ⟨q1, q2, q3, q4⟩ := noTup_rel h1 h2 h3
    obtain ⟨r1, r2⟩ := vals_rel l (s + 1) hs fun p hp => h p (by simp [hp])
    simp only [List.map_cons, List.length_cons, List.range'_succ]
    refine ⟨fun y hy => ?_, q4, r2⟩
    rcases List.mem_cons.1 hy with rfl | hy
    · exact ⟨q1, q3⟩
    · exact r1 y hy

theorem getV_of_mem : ∀ {l : List (Nat × SV)} {p : Nat × SV}, (l.map (·.1)).Nodup → p ∈ l → getV l p.1 = p.2
  | (s, v) :: l, p, hn, hp => by
    rw [getV_cons]
    simp only [List.map_cons, List.nodup_cons] at hn
    rcases List.mem_cons.1 hp with rfl | hp
    · simp
    · rw [if_neg (fun he => hn.1 (by rw [← he]; exact List.mem_map_of_mem hp))]
      exact getV_of_mem hn.2 hp

theorem lk_mem {f : Nat → V} {l : List Nat} {i : Nat} (h : i ∈ l) : lk V.any (l.map fun s => (s, f s)) i = f i := by
  induction l with
  | nil => simp at h
  | cons a l ih =>
    show (if i = a then f a else lk V.any (l.map fun s => (s, f s)) i) = f i
    by_cases hi : i = a
    · subst hi; simp
    · rw [if_neg hi]
      exact ih (by simpa [hi] using h)

theorem slots_len : ∀ (l : List Item), (keepI l).length = (slotsI l).length := fun l => by
  have := congrArg List.length (keep_slots l)
  simpa using this

/-- What is handed back. -/
theorem ret_done {e : Nat} {st : TSt} {s : St} {res : List Item} {rs : List ResultVar} {y : denI res} (hX : XOK P X) (hs : RS st s)
    (h : (tRes X st.tm st.hp rs fun xs => outT res e st xs) = some y) :
    ∃ r blks', (resVs P s rs fun xs => caseO (normR ((keepI res).map (·.2)) xs s.hp (s.c + 1)) fun z => outL z.2.1 e r blks' z.1) ∧ ResRel res y r blks' := by
  obtain ⟨xs, ys, h1, h2, h3⟩ := tRes_rel hX hs rs h
  unfold outT at h1
  split at h1
  · rename_i hw
    simp only [Bool.and_eq_true, beq_iff_eq] at hw
    obtain ⟨⟨w1, w2⟩, w3⟩ := hw
    have w2 := Nat.eq_of_beq_eq_true w2
    split at h1
    · rename_i y' o hd
      split at h1
      · rename_i ho
        simp only [Option.some.injEq] at h1
        subst h1
        have hdec : decSt e res { tm := enumT 0 xs, hp := st.hp, c := st.c + 1 } = some y' := by
          unfold decSt
          simp only [w1, w2, Nat.beq_refl, Bool.and_self, if_true, hd, ho]
        have hrs : RS { tm := enumT 0 xs, hp := st.hp, c := st.c + 1 } { tm := lk .any (enum 0 ys), hp := s.hp, c := s.c + 1 } := ⟨enumT_rel 0 h2, hs.hp, by show s.c + 1 = st.c + 1; rw [hs.c]⟩
        obtain ⟨st', o, c1, c2, c3, c4, c5, c6, c7⟩ := canon_rel' hrs hdec
        have hlen : (keepI res).length = ys.length := by rw [slots_len, w3, List.length_range, h2.length]
        have hk1 : (keepI res).map (·.1) = List.range' 0 (keepI res).length := by rw [keep_slots, w3, hlen, h2.length, List.range_eq_range']
        obtain ⟨n1, n2⟩ := norm_SR _ 0 hk1 c1
        have hys : (List.range' 0 (keepI res).length).map (lk V.any (enum 0 ys)) = ys := by
          rw [hlen]
          apply List.ext_getElem?
          intro i
          rw [List.getElem?_map]
          by_cases hi : i < ys.length
          · rw [List.getElem?_range' hi, Option.map_some, enumS_lk]
            simp [hi]
          · rw [List.getElem?_eq_none (by simp; omega), List.getElem?_eq_none (by omega)]; rfl
        rw [hys] at n1
        -- the values
        have e1 : (encI id 0 res y').1.map (·.1) = List.range' 0 (encI id 0 res y').1.length := by
          have e0 := enc_slots (f := id) res 0 y'
          have : (encI id 0 res y').1.length = (keepI res).length := by rw [slots_len, ← e0, List.length_map]
          rw [e0, ← keep_slots, hk1, this]
        have el : (encI id 0 res y').1.length = (keepI res).length := by
          have e0 := congrArg List.length (enc_slots (f := id) res 0 y')
          rw [slots_len, ← e0, List.length_map]
        have hnd : ((encI id 0 res y').1.map (·.1)).Nodup := by rw [e1]; exact List.nodup_range'
        obtain ⟨v1, v2⟩ := vals_rel (H := (encI id 0 res y').2) (φ := idx o) (tm := st'.tm) (encI id 0 res y').1 0 e1 fun p hp => ⟨enc_noTup res 0 y' p hp, enc_noAny res 0 y' p hp, by
          have := c7.tm p.1
          rw [show (encSt res y').tm = (encI id 0 res y').1 from rfl, getV_of_mem hnd hp, show (encSt res y').hp = (encI id 0 res y').2 from rfl] at this
          rw [show (St.tm { tm := lk V.any (((keepI res).map (·.1)).map fun s => (s, ren2 (idx o) (st'.tm s))), hp := lkB (blksOf st'.hp o), c := 1 } p.1) = ren2 (idx o) (st'.tm p.1) from lk_mem (f := fun s => ren2 (idx o) (st'.tm s)) (by rw [keep_slots, ← enc_slots (f := id) res 0 y']; exact List.mem_map_of_mem hp)] at this
          exact this⟩
        rw [el] at v1 v2
        have hz : ((keepI res).map (·.1)).flatMap (fun s => refs2 (st'.tm s)) = ((List.range' 0 (keepI res).length).map st'.tm).flatMap refs2 := by rw [hk1, List.flatMap_map]
        rw [hz] at c2
        have hbl : (blksOf st'.hp o).length = (encI id 0 res y').2.length := by rw [show (encI id 0 res y').2.length = (encSt res y').hp.length from rfl, ← c5]; simp [blksOf]
        have hb7 : RH (encI id 0 res y').2 (lkB (blksOf st'.hp o)) := c7.hp
        have hrf : ∀ s j isb, Item.slot s (.ref j isb) ∈ res → j < (blksOf st'.hp o).length := fun s j isb hm => by have := c6 s j isb hm; simpa [blksOf] using this
        generalize hzs : (List.range' 0 (keepI res).length).map st'.tm = zs at n1 v1 v2 c2
        -- what goes out
        have fin : ∀ r, outL st'.hp e r (blksOf st'.hp o) zs → RV2 (encI id 0 res y').2 (tupT ((encI id 0 res y').1.map (·.2))) r → ∃ r blks', (resVs P s rs fun xs => caseO (normR ((keepI res).map (·.2)) xs s.hp (s.c + 1)) fun z => outL z.2.1 e r blks' z.1) ∧ ResRel res y' r blks' := by
          intro r hr hv
          refine ⟨r, blksOf st'.hp o, h3 _ ?_, ⟨hv, hb7, hbl, hrf⟩⟩
          rw [n1]
          exact hr
        generalize (encI id 0 res y').1.map (·.2) = vs at v2 fin
        have up : ∀ {x : SV} {y : V}, RV1 (encI id 0 res y').2 x y → RV2 (encI id 0 res y').2 x y := by
          intro x y h
          cases x <;> first | exact h | exact h.elim
        have many : (tupT vs = .tup vs) → (∀ r, outL st'.hp e r (blksOf st'.hp o) zs = (zs.all notTup = true ∧ out1 st'.hp e (.tup zs) r (blksOf st'.hp o))) → ∃ r blks', (resVs P s rs fun xs => caseO (normR ((keepI res).map (·.2)) xs s.hp (s.c + 1)) fun z => outL z.2.1 e r blks' z.1) ∧ ResRel res y' r blks' := by
          intro ht ho
          refine fin (.tup (zs.map (ren1 (idx o)))) ?_ ?_
          · rw [ho]
            refine ⟨List.all_eq_true.2 fun z hz => (v1 z hz).1, ?_⟩
            unfold out1
            have : zs.flatMap refs2 = refs2 (.tup zs) := by
              show zs.flatMap refs2 = zs.flatMap refs1
              have : ∀ (l : List V), (∀ y ∈ l, refs2 y = refs1 y) → l.flatMap refs2 = l.flatMap refs1 := by
                intro l
                induction l with
                | nil => intro _; rfl
                | cons a l ih => intro h; rw [List.flatMap_cons, List.flatMap_cons, h a (by simp), ih fun y hy => h y (by simp [hy])]
              exact this zs fun y hy => (v1 y hy).2
            rw [this] at c2
            rw [c2]
            exact ⟨c4, rfl, rfl⟩
          · rw [ht]
            exact ⟨_, rfl, v2⟩
        match zs, vs, v1, v2, c2, fin, many with
        | [z], [x], v1, v2, c2, fin, _ =>
          have h0 := v1 z (by simp)
          refine fin (ren2 (idx o) z) ?_ ?_
          · show out1 _ _ _ _ _
            unfold out1
            have : [z].flatMap refs2 = refs2 z := by simp
            rw [this] at c2
            rw [c2]
            exact ⟨c4, rfl, rfl⟩
          · show RV2 _ x _
            have : ren2 (idx o) z = ren1 (idx o) z := by
              have := h0.1
              cases z <;> first | rfl | cases this
            rw [this]
            exact up v2.1
        | [], [], _, _, _, _, many => exact many rfl fun r => rfl
        | _ :: _ :: _, _ :: _ :: _, _, _, _, _, many => exact many rfl fun r => rfl
        | [], _ :: _, _, v2, _, _, _ => exact v2.elim
        | _ :: _, [], _, v2, _, _, _ => exact v2.elim
        | [_], _ :: _ :: _, _, v2, _, _, _ => exact v2.2.elim
        | _ :: _ :: _, [_], _, v2, _, _, _ => exact v2.2.elim
      · cases h1
    · cases h1
  · cases h1

/-- What is checked of a function beside its answer. -/
structure FnOK (P : Program) (cf : Cfg) (X : TX) (fn : Func) (c : Code) : Prop where
  get : P.funcs[X.ann.g]? = some fn
  body : fn.body = some c
  ok : bodyOK fn c X.ann.params.length = true
  ext : cf.isExt X.ann.g = false

/-- A function whose typed reading is known is one that may be called. -/
theorem fn_done {cf : Cfg} {ext : Rel} {fn : Func} {c : Code} {F : denI X.ann.params → Option (denI X.ann.res)} (hX : XOK P X) (hE : EntsOK (Runs P cf ext) cf X) (hcf : CfOK cf X.ann.g X) (hf : FnOK P cf X fn c)
    (hF : ∀ x, wtF X fn x = F x) : EntOK (Runs P cf ext) ⟨X.ann, F⟩ := by
  intro x y args blks hy hs hid hl he
  have hy : wtF X fn x = some y := by rw [hF]; exact hy
  unfold wtF at hy
  rw [hf.body] at hy
  simp only at hy
  have he : (args.flatMap refs1).eraseDups.length = X.e := he
  obtain ⟨ex, st', s', h1, h2, h3⟩ := code_done hX hE hcf c hs hy
  have main : ∀ ex', ex = ex' → (∀ i, ex' ≠ .exit i) → (tRes X st'.tm st'.hp fn.results.toList fun xs => outT X.ann.res X.e st' xs) = some y →
      ∃ r blks', Runs P cf ext X.ann.g args blks r blks' ∧ ResRel X.ann.res y r blks' := by
    intro ex' hex hno h1
    obtain ⟨r, blks', q1, q2⟩ := ret_done (e := X.e) (res := X.ann.res) (rs := fn.results.toList) (y := y) hX h2 h1
    refine ⟨r, blks', Runs.intro hf.ext hf.get hf.body (by rw [hl]; exact hf.ok) hid ?_, q2⟩
    rw [he]
    refine h3 _ ?_
    rw [hcf.res]
    subst hex
    cases ex with
    | exit i => exact absurd rfl (hno i)
    | normal => exact q1
    | ret => exact q1
  cases ex with
  | exit i => cases h1
  | normal => exact main .normal rfl (by simp) h1
  | ret => exact main .ret rfl (by simp) h1

theorem ents_nil {R : Rel} {cf : Cfg} {X : TX} (h : X.ents = []) : EntsOK R cf X := by
  intro g E hE
  rw [h] at hE
  cases hE

/-- The functions that are known, one by one. -/
def AllEnt (R : Rel) (cf : Cfg) : List Ent → Prop
  | [] => True
  | E :: l => (EntOK R E ∧ cf.byref E.a.g = E.a.byref) ∧ AllEnt R cf l

theorem ents_of {R : Rel} {cf : Cfg} {X : TX} (h : AllEnt R cf X.ents) : EntsOK R cf X := by
  intro g E hE
  generalize X.ents = l at h hE
  induction l with
  | nil => cases hE
  | cons a l ih =>
    simp only [findF] at hE
    cases hg : Nat.beq a.a.g g with
    | true =>
      rw [hg] at hE
      simp only [cond_true, Option.some.injEq] at hE
      subst hE
      have := Nat.eq_of_beq_eq_true hg
      subst this
      exact ⟨h.1.1, rfl, h.1.2⟩
    | false =>
      rw [hg] at hE
      exact ih h.2 hE

theorem cf_ok {tab : List FAnn} {ext : FuncId → Bool} {X : TX} (h : findA tab X.ann.g = some X.ann) : CfOK (cfOf tab ext) X.ann.g X where
  live r an hr := by simp only [cfOf, h, Option.bind_some, hr]
  out r outs ex an hr he := by simp only [cfOf, h, Option.bind_some, hr, he]
  join r an hr := by simp only [cfOf, h, Option.bind_some, hr]
  nojoin r hr := by simp only [cfOf, h, Option.bind_some, hr]
  res := by simp only [cfOf, h]
end
end Go.Proofs.Ytcmihlhmeonmfaa.Ev
