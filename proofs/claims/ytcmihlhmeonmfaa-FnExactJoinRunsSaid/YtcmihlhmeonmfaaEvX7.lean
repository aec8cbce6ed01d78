/- The typed evaluator and the evaluator: states that are read and laid anew. -/
import Derived.Test.YtcmihlhmeonmfaaEvX6
namespace Go.Proofs.Ytcmihlhmeonmfaa.Ev
open Go
set_option linter.unusedVariables false
set_option linter.unusedSimpArgs false

section
variable {tm : TTm} {m : Tm} {hp hp' : THp} {hv hv' : Hp}

theorem freeze_T1 {id : Nat} (hh : RH hp hv) : RH ((id, (getB hp id).map frzB) :: hp) (upd hv id ((hv id).map fun k => { k with kind := match k.kind with | .arr => .frz | x => x })) ∧ ∀ i, Keeps hp ((id, (getB hp id).map frzB) :: hp) i := by
  have hk : ∀ i, Keeps hp ((id, (getB hp id).map frzB) :: hp) i := by
    intro i b hb
    rw [getB_cons] at hb
    split at hb
    · rename_i hi
      subst hi
      simp only [Option.map_eq_some_iff] at hb
      obtain ⟨b0, h0, rfl⟩ := hb
      exact ⟨b0, h0, by cases b0 <;> rfl⟩
    · exact ⟨b, hb, rfl⟩
  refine ⟨fun i b hb => ?_, hk⟩
  rw [getB_cons] at hb
  split at hb
  · rename_i hi
    subst hi
    simp only [Option.map_eq_some_iff] at hb
    obtain ⟨b0, h0, rfl⟩ := hb
    obtain ⟨k, hk1, hrb⟩ := hh i b0 h0
    refine ⟨_, by simp only [upd, if_true, hk1, Option.map_some]; rfl, RB.keeps (hp := hp) ?_ fun j _ => hk j⟩
    cases b0 with
    | box ty cs => obtain ⟨h1, h2, h3⟩ := hrb; exact ⟨by simp [h1], h2, h3⟩
    | arr ty deep t l => obtain ⟨h1, h2, h3⟩ := hrb; exact ⟨by simp [h1], h2, h3⟩
    | frz ty deep t l => obtain ⟨h1, h2, h3⟩ := hrb; exact ⟨by simp [h1], h2, h3⟩
  · rename_i hi
    obtain ⟨k, hk1, hrb⟩ := hh i b hb
    exact ⟨k, by simp only [upd, if_neg hi]; exact hk1, hrb.keeps fun j _ => hk j⟩

theorem freeze_T : ∀ (l : List Nat) {hp : THp} {hv : Hp}, RH hp hv → RH (freezeT hp l) (freeze hv l) ∧ ∀ i, Keeps hp (freezeT hp l) i
  | [], hp, hv, h => ⟨h, fun i => Keeps.refl hp i⟩
  | id :: l, hp, hv, h => by
    obtain ⟨h1, h2⟩ := freeze_T1 (id := id) h
    obtain ⟨h3, h4⟩ := freeze_T l h1
    exact ⟨h3, fun i => (h2 i).trans (h4 i)⟩

theorem freezeT_get : ∀ (l : List Nat) (hp : THp) (id : Nat), id ∉ l → getB (freezeT hp l) id = getB hp id
  | [], _, _, _ => rfl
  | x :: l, hp, id, h => by
    simp only [List.mem_cons, not_or] at h
    rw [freezeT, freezeT_get l _ id h.2, getB_cons, if_neg h.1]

theorem freezeT_box : ∀ (l : List Nat) (hp : THp) (id : Nat) (ty : TypeId) (cs : List SV), getB hp id = some (.box ty cs) → getB (freezeT hp l) id = some (.box ty cs)
  | [], _, _, _, _, h => h
  | x :: l, hp, id, ty, cs, h => by
    rw [freezeT]
    refine freezeT_box l _ id ty cs ?_
    rw [getB_cons]
    split
    · rename_i he; subst he; rw [h]; rfl
    · exact h

theorem asLh_one {e : Ty} {v : SV} {x : Nat} : asLh ((x, (getB hp x).map frzB) :: hp) e v = asLh hp e v := by
  have hg : ∀ id, getB ((x, (getB hp x).map frzB) :: hp) id = if id = x then (getB hp x).map frzB else getB hp id := fun id => getB_cons _ _ _ _
  cases v with
  | ow id =>
    simp only [asLh, hg]
    by_cases he : id = x
    · subst he
      rw [if_pos rfl]
      cases hgk : getB hp id with
      | none => rfl
      | some b => cases b <;> rfl
    · rw [if_neg he]
  | ar id lo n =>
    simp only [asLh, hg]
    by_cases he : id = x
    · subst he
      rw [if_pos rfl]
      cases hgk : getB hp id with
      | none => rfl
      | some b => cases b <;> rfl
    · rw [if_neg he]
  | _ => rfl

theorem asLh_frz {e : Ty} {v : SV} : ∀ (l : List Nat) (hp : THp), asLh (freezeT hp l) e v = asLh hp e v
  | [], _ => rfl
  | x :: l, hp => by rw [freezeT, asLh_frz l, asLh_one]

/-- A cell that was read. -/
theorem decC_rel {c : AC} {v : SV} {x : c.den} {y : V} {b : Nat} (hh : RH hp hv) (h : decC hp c v = some x) (hv' : RV0 hp v y) :
    ∃ y', normC (mdC c) y hv b = some (y', freeze hv (frC c v), 0) ∧ (∀ hp', RV0 hp' (encC c x) y') ∧ refs0 y' = [] ∧ ids0 (encC c x) = [] ∧ okCell y' = true := by
  cases c with
  | int k =>
    cases v <;> simp only [decC, reduceCtorEq] at h
    split at h
    · rename_i hk
      cases h
      subst hk
      have : y = _ := hv'
      subst this
      exact ⟨_, rfl, fun _ => rfl, rfl, rfl, rfl⟩
    · cases h
  | bool =>
    cases v <;> simp only [decC, reduceCtorEq] at h
    cases h
    have : y = _ := hv'
    subst this
    exact ⟨_, rfl, fun _ => rfl, rfl, rfl, rfl⟩
  | str =>
    cases v <;> simp only [decC, reduceCtorEq] at h
    cases h
    have : y = _ := hv'
    subst this
    exact ⟨_, rfl, fun _ => rfl, rfl, rfl, rfl⟩
  | im t =>
    have h' : asLh hp t v = some x := by cases v <;> exact h
    have ids : ids0 (encC (.im t) x) = [] := rfl
    rcases asLh_rel h' hv' hh.toM with ⟨rfl, rfl⟩ | ⟨rows, rfl, hr⟩ | ⟨id, lo, n, kb, rfl, hk, hkk, hr⟩
    · have hf : frC (.im t) v = [] := by
        cases v <;> first | rfl | (obtain ⟨n, hy, _⟩ := hv'; cases hy) | (have : V.em = _ := hv'; cases this)
      refine ⟨.im [], by rw [hf]; rfl, fun _ => .inr ⟨[], rfl, RLx.nil⟩, rfl, ids, rfl⟩
    · have hf : frC (.im t) v = [] := by
        cases v <;> first | rfl | (obtain ⟨n, hy, _⟩ := hv'; cases hy) | (have : V.im rows = _ := hv'; cases this)
      exact ⟨.im rows, by rw [hf]; rfl, fun _ => .inr ⟨rows, rfl, hr⟩, rfl, ids, rfl⟩
    · have hf : frC (.im t) v = [id] := by
        cases v with
        | ow id' => obtain ⟨n', hy, _⟩ := hv'; cases hy; rfl
        | ar a b c => have : V.ar id lo n = _ := hv'; cases this; rfl
        | em => have : V.ar id lo n = _ := hv'; cases this
        | im t' l' => rcases hv' with ⟨_, hy⟩ | ⟨_, hy, _⟩ <;> cases hy
        | int _ _ => simp [asLh, asL] at h'
        | bool _ => simp [asLh, asL] at h'
        | str _ => simp [asLh, asL] at h'
        | sc _ => simp [asLh, asL] at h'
        | rf _ _ _ => simp [asLh, asL] at h'
        | ir _ _ _ => simp [asLh, asL] at h'
        | agg _ => simp [asLh, asL] at h'
        | tup _ => simp [asLh, asL] at h'
        | cl _ _ => simp [asLh, asL] at h'
        | any => simp [asLh, asL] at h'
      refine ⟨.im ((kb.rows.take (lo + n)).drop lo), ?_, fun _ => .inr ⟨_, rfl, hr⟩, rfl, ids, rfl⟩
      rw [hf]
      show (match hv id with | some k => (match k.kind with | .box => none | _ => some (V.im ((k.rows.take (lo + n)).drop lo), freeze hv [id], 0)) | none => none) = _
      rw [hk]
      simp only

theorem freeze_app : ∀ (l l' : List Nat) (hv : Hp), freeze (freeze hv l) l' = freeze hv (l ++ l')
  | [], _, _ => rfl
  | x :: l, l', hv => by simp only [freeze, List.cons_append, freeze_app l l']

theorem freezeT_app : ∀ (l l' : List Nat) (hp : THp), freezeT (freezeT hp l) l' = freezeT hp (l ++ l')
  | [], _, _ => rfl
  | x :: l, l', hp => by simp only [freezeT, List.cons_append, freezeT_app l l']

theorem decC_frz {c : AC} {v : SV} (l : List Nat) : decC (freezeT hp l) c v = decC hp c v := by
  cases c with
  | im t =>
    have h : ∀ v, decC (freezeT hp l) (.im t) v = asLh (freezeT hp l) t v := fun v => by cases v <;> rfl
    have h' : ∀ v, decC hp (.im t) v = asLh hp t v := fun v => by cases v <;> rfl
    rw [h, h', asLh_frz]
  | _ => cases v <;> rfl

theorem decCs_frz : ∀ {cs : List AC} {vs : List SV} (l : List Nat), decCs (freezeT hp l) cs vs = decCs hp cs vs
  | [], [], _ => rfl
  | [], _ :: _, _ => rfl
  | [a], [v], l => decC_frz l
  | [a], [], _ => rfl
  | [a], _ :: _ :: _, _ => rfl
  | a :: b :: cs, [], _ => rfl
  | a :: b :: cs, v :: vs, l => by simp only [decCs, decC_frz l, decCs_frz (cs := b :: cs) (vs := vs) l]

theorem decCs_rel : ∀ {cs : List AC} {vs : List SV} {x : denC cs} {ys : List V} {hp : THp} {hv : Hp} {b : Nat}, RH hp hv → decCs hp cs vs = some x → RC (RV0 hp) vs ys →
    ∃ ys', normL (cs.map mdC) ys hv b = some (ys', freeze hv (frCs cs vs), 0) ∧ (∀ hp', RC (RV0 hp') (encCs cs x) ys') ∧ ys'.flatMap refs0 = [] ∧ (encCs cs x).flatMap ids0 = [] ∧ ys'.all okCell = true ∧ vs.length = cs.length
  | [], [], x, ys, hp, hv, b, hh, h, hc => by
    cases ys with
    | nil => exact ⟨[], rfl, fun _ => trivial, rfl, rfl, rfl, rfl⟩
    | cons a l => exact hc.elim
  | [], _ :: _, _, _, _, _, _, _, h, _ => by cases h
  | [a], [v], x, ys, hp, hv, b, hh, h, hc => by
    cases ys with
    | nil => exact hc.elim
    | cons y ys =>
      cases ys with
      | cons _ _ => exact hc.2.elim
      | nil =>
        obtain ⟨y', h1, h2, h3, h4, h5⟩ := decC_rel (b := b) hh h hc.1
        refine ⟨[y'], ?_, fun hp' => ⟨h2 hp', trivial⟩, by simp [h3], by simp [encCs, h4], by simp [h5], rfl⟩
        simp only [List.map_cons, List.map_nil, normL, h1, frCs, List.append_nil]
  | [a], [], _, _, _, _, _, _, h, _ => by cases h
  | [a], _ :: _ :: _, _, _, _, _, _, _, h, _ => by cases h
  | a :: b' :: cs, [], _, _, _, _, _, _, h, _ => by cases h
  | a :: b' :: cs, v :: vs, x, ys, hp, hv, b, hh, h, hc => by
    simp only [decCs] at h
    split at h
    · rename_i x1 hx1
      split at h
      · rename_i x2 hx2
        cases h
        cases ys with
        | nil => exact hc.elim
        | cons y ys =>
          obtain ⟨y', h1, h2, h3, h4, h5⟩ := decC_rel (b := b) hh hx1 hc.1
          obtain ⟨g1, g2⟩ := freeze_T (frC a v) hh
          obtain ⟨ys', k1, k2, k3, k4, k5, k6⟩ := decCs_rel (b := b) g1 (by rw [decCs_frz]; exact hx2) (hc.2.mono fun x _ y hxy => hxy.keeps fun i _ => g2 i)
          refine ⟨y' :: ys', ?_, fun hp' => ⟨h2 hp', k2 hp'⟩, by simp [h3, k3], by rw [encCs, List.flatMap_cons, h4]; exact k4, by simp [h5, k5], by simp [k6]⟩
          simp only [List.map_cons] at k1 ⊢
          rw [normL]
          simp only [h1, Nat.add_zero]
          rw [k1]
          simp only [freeze_app, frCs]
      · cases h
    · cases h

theorem notIn_all {l o : List Nat} (h : l.all (fun id => notIn id o) = true) : ∀ id ∈ o, id ∉ l := fun id ho hl => notIn_not (List.all_eq_true.1 h id hl) ho

/-- The number that a position bears. -/
def ordF (o : List Nat) (j : Nat) : Nat := o.getD j 0

/-- The step for one slot. -/
structure StepS (tm : TTm) (hp : THp) (order : List Nat) (a : AS) (x : a.den) (y' : V) (order' : List Nat) (hp' : THp) (hv' : Hp) : Prop where
  rh : RH hp' hv'
  keep : ∀ t, ∀ id ∈ ids2 (getV tm t), Keeps hp hp' id
  old : ∀ id ∈ order, getB hp' id = getB hp id
  val : RV2 hp' (encSV (ordF order') order.length a x) y'
  ord : (newB a x = none ∧ order' = order ∧ ∀ id ∈ refs2 y', id ∈ order) ∨ ∃ id k, newB a x = some k ∧ order' = order ++ [id] ∧ id ∉ order ∧ refs2 y' = [id] ∧ getB hp' id = some k
  one : (refs2 y').length ≤ 1
  ntup : notTup y' = true
  rlt : ∀ j isb, a = .ref j isb → j < order'.length
  more : ∀ t, encSV (ordF (order' ++ t)) order.length a x = encSV (ordF order') order.length a x

theorem cell_of {k : AC} {v : SV} {x : k.den} {y : V} (h : decC hp k v = some x) (hv2 : RV2 hp v y) : RV0 hp v y := by
  cases k with
  | im t =>
    have h' : asLh hp t v = some x := by cases v <;> exact h
    exact asLh_cell h' hv2
  | int k => cases v <;> simp only [decC, reduceCtorEq] at h; exact hv2
  | bool => cases v <;> simp only [decC, reduceCtorEq] at h; exact hv2
  | str => cases v <;> simp only [decC, reduceCtorEq] at h; exact hv2

theorem cell_refs {y : V} (h : refs0 y = []) (hc : okCell y = true) : refs2 y = [] ∧ notTup y = true := by
  cases y with
  | agg cs => simp [okCell] at hc
  | tup cs => simp [okCell] at hc
  | cl f cs => cases cs with | nil => exact ⟨rfl, rfl⟩ | cons a l => simp [okCell] at hc
  | v x => exact ⟨rfl, rfl⟩
  | em => exact ⟨rfl, rfl⟩
  | im r => exact ⟨rfl, rfl⟩
  | ar a b c => simp [refs0] at h
  | rf a b c => simp [refs0] at h
  | ir a b => exact ⟨rfl, rfl⟩
  | any => simp [okCell] at hc

theorem ordF_last {order : List Nat} {id : Nat} : ordF (order ++ [id]) order.length = id := by simp [ordF]

theorem decS_rel {c : Nat} {order order' : List Nat} {a : AS} {v : SV} {x : a.den} {y : V} (hh : RH hp hv) (hv2 : RV2 hp v y) (h : decS tm hp c order a v = some (x, order', hp')) :
    ∃ y' hv' n, normV (mdA a) y hv (16 * c) = some (y', hv', n) ∧ n ≤ 16 ∧ StepS tm hp order a x y' order' hp' hv' := by
  cases a with
  | cell k =>
    have h : (if (frC k v).all (fun id => notIn id order) then (match decC hp k v with | some x => some (x, order, freezeT hp (frC k v)) | none => none) else none) = some (x, order', hp') := by cases v <;> exact h
    split at h
    · rename_i hall
      split at h
      · rename_i x' hx
        simp only [Option.some.injEq, Prod.mk.injEq] at h
        obtain ⟨rfl, rfl, rfl⟩ := h
        obtain ⟨y', h1, h2, h3, h4, h5⟩ := decC_rel (b := 16 * c) hh hx (cell_of hx hv2)
        obtain ⟨g1, g2⟩ := freeze_T (frC k v) hh
        obtain ⟨r1, r2⟩ := cell_refs h3 h5
        exact ⟨y', _, 0, h1, by omega, g1, fun t id _ => g2 id, fun id hid => freezeT_get _ _ _ (notIn_all hall id hid), (h2 _).to1.to2, .inl ⟨rfl, rfl, fun id hid => by rw [r1] at hid; simp at hid⟩, by rw [r1]; simp, r2, fun _ _ h => (by cases h), fun _ => rfl⟩
      · cases h
    · cases h
  | agg cs =>
    cases v with
    | agg vs =>
      simp only [decS] at h
      split at h
      · rename_i hall
        split at h
        · rename_i x' hx
          simp only [Option.some.injEq, Prod.mk.injEq] at h
          obtain ⟨rfl, rfl, rfl⟩ := h
          obtain ⟨us, rfl, hc⟩ := rv_agg hv2
          obtain ⟨ys', h1, h2, h3, h4, h5, h6⟩ := decCs_rel (b := 16 * c) hh hx hc
          obtain ⟨g1, g2⟩ := freeze_T (frCs cs vs) hh
          have hr : refs2 (.agg ys') = [] := h3
          refine ⟨.agg ys', _, 0, ?_, by omega, g1, fun t id _ => g2 id, fun id hid => freezeT_get _ _ _ (notIn_all hall id hid), ⟨ys', rfl, h2 _⟩, .inl ⟨rfl, rfl, fun id hid => by rw [hr] at hid; simp at hid⟩, by rw [hr]; simp, rfl, fun _ _ h => (by cases h), fun _ => rfl⟩
          show (normL (cs.map mdC) us hv (16 * c)).map _ = _
          rw [h1]; rfl
        · cases h
      · cases h
    | _ => simp [decS] at h
  | new bb =>
    cases bb with
    | arr ty deep t =>
      cases v with
      | em =>
        simp only [decS] at h
        split at h
        · rename_i hc
          simp only [Bool.and_eq_true] at hc
          simp only [Option.some.injEq, Prod.mk.injEq] at h
          obtain ⟨rfl, rfl, rfl⟩ := h
          have : y = .em := hv2
          subst this
          have hkp : ∀ t', ∀ id ∈ ids2 (getV tm t'), Keeps hp ((16 * c, some (.arr ty deep t [])) :: hp) id := fun t' id hid => keeps_put fun he => fresh_tm hc.2 t' (he ▸ hid)
          refine ⟨.ar (16 * c) 0 0, upd hv (16 * c) (some (arrOf ty t.size deep [])), 1, rfl, by omega, ?_, hkp, fun id hid => ?_, ?_, .inr ⟨16 * c, _, rfl, rfl, notIn_not hc.1, rfl, by rw [getB_cons, if_pos rfl]; rfl⟩, by simp [refs2, refs1, refs0], rfl, fun _ _ h => (by cases h), fun t => by simp [encSV, ordF]⟩
          · exact hh.put (fun i hi => by simp [idsB] at hi) (fun id z _ hz i hi => keeps_put fun he => fresh_hp hc.2 hz (he ▸ hi)) ⟨rfl, rfl, rfl, rfl, RLx.nil⟩
          · rw [getB_cons, if_neg (fun he : id = 16 * c => notIn_not hc.1 (he ▸ hid))]
          · show RV0 _ (.ow (ordF (order ++ [16 * c]) order.length)) _
            rw [ordF_last]
            refine ⟨0, rfl, fun b hb => ?_⟩
            rw [getB_cons, if_pos rfl] at hb
            cases hb
            rfl
        · cases h
      | ow id =>
        simp only [decS] at h
        split at h
        · rename_i hn
          split at h
          · rename_i x' hx
            simp only [Option.some.injEq, Prod.mk.injEq] at h
            obtain ⟨rfl, rfl, rfl⟩ := h
            obtain ⟨n, rfl, hlen⟩ := (show RV0 hp (.ow id) y from hv2)
            cases hg : getB hp id with
            | none => rw [hg] at hx; cases hx
            | some b =>
              rw [hg] at hx
              cases b with
              | box ty' cs => simp [decB] at hx
              | frz ty' d' t' l => simp [decB] at hx
              | arr ty' deep' t' l =>
                simp only [decB] at hx
                split at hx
                · rename_i he
                  split at hx
                  · rename_i hc
                    simp only [Bool.and_eq_true, beq_iff_eq] at hc
                    cases hx
                    subst he
                    have e1 := Nat.eq_of_beq_eq_true hc.1
                    have e2 := hc.2
                    subst e1
                    subst e2
                    obtain ⟨k, hk, k1, k2, k3, k4, k5⟩ := hh id _ hg
                    have hn' := hlen _ hg
                    cases hn'
                    refine ⟨.ar id 0 l.length, hv, 0, ?_, by omega, hh, fun t' id _ => Keeps.refl hp id, fun _ _ => rfl, ?_, .inr ⟨id, _, rfl, rfl, notIn_not hn, rfl, hg⟩, by simp [refs2, refs1, refs0], rfl, fun _ _ h => (by cases h), fun t => by simp [encSV, ordF]⟩
                    · show (match hv id with | some k => if k.kind = Kind.arr ∧ 0 = 0 ∧ l.length = k.rows.length ∧ k.ty = ty' ∧ k.size = t'.size ∧ k.deep = deep' then some (V.ar id 0 l.length, hv, 0) else none | none => none) = _
                      rw [hk]
                      simp only
                      rw [if_pos ⟨k1, trivial, k5.1.symm, k2, k4, k3⟩]
                    · show RV0 _ (.ow (ordF (order ++ [id]) order.length)) _
                      rw [ordF_last]
                      exact ⟨_, rfl, hlen⟩
                  · cases hx
                · cases hx
          · cases h
        · cases h
      | _ => simp [decS] at h
    | box ty cs =>
      cases v with
      | rf id r c' =>
        have hrc : r = 0 ∧ c' = 0 := by
          cases r with
          | zero => cases c' with
            | zero => exact ⟨rfl, rfl⟩
            | succ _ => simp [decS] at h
          | succ _ => simp [decS] at h
        obtain ⟨rfl, rfl⟩ := hrc
        simp only [decS] at h
        split at h
        · rename_i ty' vs hg
          split at h
          · rename_i hc
            simp only [Bool.and_eq_true] at hc
            obtain ⟨⟨c1, c2⟩, c3⟩ := hc
            split at h
            · rename_i x' hx
              simp only [Option.some.injEq, Prod.mk.injEq] at h
              obtain ⟨rfl, rfl, rfl⟩ := h
              have e1 := Nat.eq_of_beq_eq_true c1
              subst e1
              have : y = .rf id 0 0 := hv2
              subst this
              obtain ⟨k, hk, k1, k2, row, k3, k4, k5⟩ := hh id _ hg
              obtain ⟨ys', h1, h2, h3, h4, h5, h6⟩ := decCs_rel (b := 16 * c) hh hx k5
              obtain ⟨g1, g2⟩ := freeze_T (frCs cs vs) hh
              have hgf := freezeT_box (frCs cs vs) hp id ty' vs hg
              have hkp : ∀ i, Keeps (freezeT hp (frCs cs vs)) ((id, some (.box ty' (encCs cs x'))) :: freezeT hp (frCs cs vs)) i := fun i => keeps_same (y := .box ty' (encCs cs x')) hgf rfl i
              refine ⟨.rf id 0 0, upd (freeze hv (frCs cs vs)) id (some { k with rows := [ys'] }), 0, ?_, by omega, ?_, fun t' i _ => (g2 i).trans (hkp i), fun i hi => ?_, ?_, .inr ⟨id, _, rfl, rfl, notIn_not c2, rfl, by rw [getB_cons, if_pos rfl]; rfl⟩, by simp [refs2, refs1, refs0], rfl, fun _ _ h => (by cases h), fun t => by simp [encSV, ordF]⟩
              · show (match hv id with | some k => (match k.kind, k.rows with | Kind.box, [row] => (match normL (cs.map mdC) row hv (16 * c) with | some (cs', hp1, n) => if cs'.all okCell then some (V.rf id 0 0, upd hp1 id (some { k with rows := [cs'] }), n) else none | none => none) | _, _ => none) | none => none) = _
                rw [hk]
                simp only [k1, k3, h1, h5, if_true]
              · refine g1.put (fun i _ => hkp i) (fun _ _ _ _ i _ => hkp i) ⟨k1, k2, ys', rfl, ?_, h2 (freezeT hp (frCs cs vs))⟩
                show k.size = ys'.length
                rw [k4]
                have q1 := k5.length
                have q3 := (h2 []).length
                have q2 : (encCs cs x').length = vs.length := by
                  rw [h6]
                  have : ∀ (cs : List AC) (x : denC cs), (encCs cs x).length = cs.length := by
                    intro cs
                    induction cs with
                    | nil => intro _; rfl
                    | cons a l ih =>
                      intro x
                      cases l with
                      | nil => rfl
                      | cons b l => simp only [encCs, List.length_cons]; rw [ih]; rfl
                  exact this cs x'
                omega
              · show getB ((id, some (.box ty' (encCs cs x'))) :: freezeT hp (frCs cs vs)) i = getB hp i
                rw [getB_cons, if_neg (fun he : i = id => notIn_not c2 (he ▸ hi)), freezeT_get _ _ _ (notIn_all c3 i hi)]
              · show V.rf id 0 0 = V.rf (ordF (order ++ [id]) order.length) 0 0
                rw [ordF_last]
            · cases h
          · cases h
        · cases h
      | _ => simp [decS] at h
  | ref j isbox =>
    cases isbox with
    | false =>
      cases v with
      | ow id =>
        simp only [decS] at h
        split at h
        · rename_i i hi
          split at h
          · rename_i he
            have he := Nat.eq_of_beq_eq_true he
            subst he
            simp only [Option.some.injEq, Prod.mk.injEq] at h
            obtain ⟨_, rfl, rfl⟩ := h
            have hv0 : RV0 hp (.ow i) y := hv2
            obtain ⟨n, rfl, hlen⟩ := (show RV0 hp (.ow i) y from hv2)
            refine ⟨.ar i 0 n, hv, 0, rfl, by omega, hh, fun t' id _ => Keeps.refl hp id, fun _ _ => rfl, ?_, .inl ⟨rfl, rfl, fun id hid => ?_⟩, by simp [refs2, refs1, refs0], rfl, fun j' _ h => (by cases h; exact (List.getElem?_eq_some_iff.1 hi).1), fun t => by simp [encSV, ordF, List.getD, List.getElem?_append_left (List.getElem?_eq_some_iff.1 hi).1]⟩
            · show RV0 _ (.ow (ordF order j)) _
              have : ordF order j = i := by simp [ordF, List.getD, hi]
              rw [this]
              exact hv0
            · simp [refs2, refs1, refs0] at hid
              subst hid
              exact List.mem_of_getElem? hi
          · cases h
        · cases h
      | _ => simp [decS] at h
    | true =>
      cases v with
      | rf id r c' =>
        have hrc : r = 0 ∧ c' = 0 := by
          cases r with
          | zero => cases c' with
            | zero => exact ⟨rfl, rfl⟩
            | succ _ => simp [decS] at h
          | succ _ => simp [decS] at h
        obtain ⟨rfl, rfl⟩ := hrc
        simp only [decS] at h
        split at h
        · rename_i i hi
          split at h
          · rename_i he
            have he := Nat.eq_of_beq_eq_true he
            subst he
            simp only [Option.some.injEq, Prod.mk.injEq] at h
            obtain ⟨_, rfl, rfl⟩ := h
            have : y = .rf i 0 0 := hv2
            subst this
            refine ⟨.rf i 0 0, hv, 0, rfl, by omega, hh, fun t' id _ => Keeps.refl hp id, fun _ _ => rfl, ?_, .inl ⟨rfl, rfl, fun id hid => ?_⟩, by simp [refs2, refs1, refs0], rfl, fun j' _ h => (by cases h; exact (List.getElem?_eq_some_iff.1 hi).1), fun t => by simp [encSV, ordF, List.getD, List.getElem?_append_left (List.getElem?_eq_some_iff.1 hi).1]⟩
            · show V.rf i 0 0 = V.rf (ordF order j) 0 0
              have : ordF order j = i := by simp [ordF, List.getD, hi]
              rw [this]
            · simp [refs2, refs1, refs0] at hid
              subst hid
              exact List.mem_of_getElem? hi
          · cases h
        · cases h
      | _ => simp [decS] at h
  | clo f =>
    cases v with
    | cl g caps =>
      cases caps with
      | nil =>
        simp only [decS] at h
        split at h
        · rename_i he
          have he := Nat.eq_of_beq_eq_true he
          subst he
          simp only [Option.some.injEq, Prod.mk.injEq] at h
          obtain ⟨_, rfl, rfl⟩ := h
          obtain ⟨us, rfl, hc⟩ := rv_cl hv2
          cases us with
          | cons a l => exact hc.elim
          | nil => exact ⟨.cl f [], hv, 0, rfl, by omega, hh, fun t' id _ => Keeps.refl hp id, fun _ _ => rfl, ⟨[], rfl, trivial⟩, .inl ⟨rfl, rfl, fun id hid => by simp [refs2, refs1] at hid⟩, by simp [refs2, refs1], rfl, fun _ _ h => (by cases h), fun _ => rfl⟩
        · cases h
      | cons a l => simp [decS] at h
    | _ => simp [decS] at h
end
end Go.Proofs.Ytcmihlhmeonmfaa.Ev
