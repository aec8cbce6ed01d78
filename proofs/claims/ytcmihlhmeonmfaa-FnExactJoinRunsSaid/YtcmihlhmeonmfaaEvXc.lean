/- The typed evaluator and the evaluator: calls come to what the functions give. -/
import Derived.Test.YtcmihlhmeonmfaaEvXb
namespace Go.Proofs.Ytcmihlhmeonmfaa.Ev
open Go
set_option linter.unusedVariables false
set_option linter.unusedSimpArgs false

structure ArgsP (hp : THp) (hv : Hp) (byref : Bool) (order : List Nat) (l : List Item) (d : denI l) (ys ys' : List V) (order' lent : List Nat) : Prop where
  lend : byref = false → lendA hv ys = some ys' ∧ ys.flatMap arIds1 = lent
  same : byref = true → ys' = ys ∧ ys.all notTup = true ∧ lent = []
  vals : RC (RV2 hp) ((encI (ordF order') order.length l d).1.map (·.2)) ys'
  ext : ∃ t, order' = order ++ t ∧ ys'.flatMap refs1 = t
  nodup : order.Nodup → order'.Nodup
  noref : ∀ s j isb, Item.slot s (.ref j isb) ∉ l
  blks : ∀ j, order.length ≤ j → j < order'.length → ∃ b tb, Enc b ∧ getB hp (ordF order' j) = some tb ∧ blen tb = blen b ∧ (∀ hp hp' kb, RB hp tb kb → RB hp' b kb) ∧ ∀ f : Nat → Nat, (f j, some b) ∈ (encI f order.length l d).2
  nblk : ∀ f : Nat → Nat, (encI f order.length l d).2.map (·.1) = ((List.range (order'.length - order.length)).map (order.length + ·)).map f
  len : ys'.length = l.length
  keys : ∀ f : Nat → Nat, (encI f order.length l d).1.map (·.1) = slotsI l
  nb : order'.length = order.length + nBlks l

theorem decP_rel {hp : THp} {hv : Hp} {byref : Bool} (hh : RH hp hv) : ∀ {l : List Item} {vs : List SV} {ys : List V} {order order' lent : List Nat} {d : denI l}, decP hp byref order l vs = some (d, order', lent) → RC (RV2 hp) vs ys → ∃ ys', ArgsP hp hv byref order l d ys ys' order' lent
  | [], vs, ys, order, order', lent, d, h, hc => by
    cases vs with
    | cons v vs => simp [decP] at h
    | nil =>
      simp only [decP, Option.some.injEq, Prod.mk.injEq] at h
      obtain ⟨_, rfl, rfl⟩ := h
      cases ys with
      | cons a l => exact hc.elim
      | nil => exact ⟨[], fun _ => ⟨rfl, rfl⟩, fun _ => ⟨rfl, rfl, rfl⟩, trivial, ⟨[], by simp, rfl⟩, fun h => h, fun s j isb h => by simp at h, fun j h1 h2 => by omega, fun f => by simp [encI], rfl, fun _ => rfl, by simp [nBlks]⟩
  | .root b :: l, vs, ys, order, order', lent, d, h, hc => by cases vs <;> simp [decP] at h
  | .slot s a :: l, [], ys, order, order', lent, d, h, hc => by simp [decP] at h
  | .slot s a :: l, v :: vs, [], order, order', lent, d, h, hc => hc.elim
  | .slot s a :: l, v :: vs, y :: ys, order, order', lent, d, h, hc => by
    simp only [decP] at h
    split at h
    · rename_i x order1 lent1 h1
      split at h
      · rename_i z o m h2
        simp only [Option.some.injEq, Prod.mk.injEq] at h
        obtain ⟨rfl, rfl, rfl⟩ := h
        obtain ⟨y', A⟩ := argS_rel hh hc.1 h1
        obtain ⟨ys', B⟩ := decP_rel hh h2 hc.2
        obtain ⟨t, ht, hrt⟩ := B.ext
        have hhd := hd_cons (.slot s a) l x z
        have htl := tl_cons (.slot s a) l x z
        have hval : RV2 hp (encSV (ordF o) order.length a x) y' := by rw [ht, A.more]; exact A.val
        have hlend : byref = false → lendA hv (y :: ys) = some (y' :: ys') ∧ (y :: ys).flatMap arIds1 = lent1 ++ m := by
          intro hb
          obtain ⟨q1, q2⟩ := A.lend hb
          obtain ⟨q3, q4⟩ := B.lend hb
          exact ⟨by simp only [lendA, q1, q3], by rw [List.flatMap_cons, q2, q4]⟩
        have hsame : byref = true → y' :: ys' = y :: ys ∧ (y :: ys).all notTup = true ∧ lent1 ++ m = [] := by
          intro hb
          obtain ⟨q1, q2, q3⟩ := A.same hb
          obtain ⟨q4, q5, q6⟩ := B.same hb
          exact ⟨by rw [q1, q4], by simp [q2, q5], by rw [q3, q6]; rfl⟩
        have hnoref : ∀ s' j isb, Item.slot s' (.ref j isb) ∉ (Item.slot s a :: l) := by
          intro s' j isb hm
          rcases List.mem_cons.1 hm with hm | hm
          · cases hm; exact A.noref j isb rfl
          · exact B.noref s' j isb hm
        rcases A.ord with ⟨q1, q2, q3⟩ | ⟨id, k, tb, q1, q2, q3, q4, q5, q6, q7⟩
        · have henc : ∀ f, encI f order.length (.slot s a :: l) (consI (.slot s a) l x z) = ((s, encSV f order.length a x) :: (encI f order.length l z).1, (encI f order.length l z).2) := by
            intro f
            simp only [encI, hhd, htl, q1]
          have hnb : nBlks (.slot s a :: l) = nBlks l := by
            cases a with
            | new b => simp [newB] at q1
            | _ => rfl
          rw [q2] at B ht
          refine ⟨y' :: ys', hlend, hsame, ?_, ⟨t, ht, by rw [List.flatMap_cons, q3, hrt]; rfl⟩, B.nodup, hnoref, fun j h3 h4 => ?_, fun f => by rw [henc]; exact B.nblk f, by simp [B.len], fun f => by rw [henc, List.map_cons, B.keys f]; rfl, by rw [hnb]; exact B.nb⟩
          · rw [henc]; exact ⟨hval, B.vals⟩
          · obtain ⟨b, tb, e1, e2, e3, e4, e5⟩ := B.blks j h3 h4
            exact ⟨b, tb, e1, e2, e3, e4, fun f => by rw [henc]; exact e5 f⟩
        · have hl1 : order1.length = order.length + 1 := by rw [q2]; simp
          have henc : ∀ f, encI f order.length (.slot s a :: l) (consI (.slot s a) l x z) = ((s, encSV f order.length a x) :: (encI f order1.length l z).1, (f order.length, some k) :: (encI f order1.length l z).2) := by
            intro f
            simp only [encI, hhd, htl, q1, hl1]
          have hnb : nBlks (.slot s a :: l) = nBlks l + 1 := by
            cases a with
            | new b => rfl
            | _ => simp [newB] at q1
          refine ⟨y' :: ys', hlend, hsame, ?_, ⟨[id] ++ t, by rw [ht, q2]; simp, by rw [List.flatMap_cons, q4, hrt]⟩, fun hn => B.nodup ?_, hnoref, fun j h3 h4 => ?_, fun f => ?_, by simp [B.len], fun f => by rw [henc, List.map_cons, B.keys f]; rfl, by rw [hnb, B.nb, hl1]; omega⟩
          · rw [henc]; exact ⟨hval, B.vals⟩
          · rw [q2]
            exact List.nodup_append.2 ⟨hn, by simp, fun a ha b hb => by simp at hb; subst hb; exact fun he => q3 (he ▸ ha)⟩
          · by_cases hj : j = order.length
            · subst hj
              have hid : ordF o order.length = id := by rw [ht, q2]; simp [ordF]
              exact ⟨k, tb, newB_enc q1, by rw [hid]; exact q5, q6, q7, fun f => by rw [henc]; simp⟩
            · obtain ⟨b, tb, e1, e2, e3, e4, e5⟩ := B.blks j (by omega) h4
              exact ⟨b, tb, e1, e2, e3, e4, fun f => by rw [henc]; exact List.mem_cons_of_mem _ (e5 f)⟩
          · rw [henc, List.map_cons, B.nblk f, hl1]
            have hlen : order1.length ≤ o.length := by rw [ht]; simp
            have : o.length - order.length = (o.length - (order.length + 1)) + 1 := by omega
            rw [this, List.range_succ_eq_map]
            simp only [List.map_cons, List.map_map, Nat.add_zero, List.cons.injEq, true_and]
            apply List.map_congr_left
            intro j _
            simp only [Function.comp]
            congr 1
            omega
      · cases h
    · cases h

theorem dd_nodup : ∀ (l acc : List Nat), (acc ++ l).Nodup → dd acc l = acc ++ l
  | [], acc, _ => by simp [dd]
  | id :: l, acc, h => by
    simp only [dd]
    have : id ∉ acc := by
      have := (List.nodup_append.1 h).2.2
      exact fun hm => this id hm id (by simp) rfl
    rw [if_neg (by simpa using this), dd_nodup l (acc ++ [id]) (by simpa using h)]
    simp

theorem eraseDups_nodup : ∀ {l : List Nat}, l.Nodup → l.eraseDups = l
  | [], _ => rfl
  | x :: l, h => by
    simp only [List.nodup_cons] at h
    rw [List.eraseDups_cons]
    have : l.filter (fun b => !b == x) = l := by
      rw [List.filter_eq_self]
      intro a ha
      have : a ≠ x := fun he => h.1 (he ▸ ha)
      simpa using this
    rw [this, eraseDups_nodup h.2]

/-- The references of what was laid. -/
theorem enc_refs {H : THp} : ∀ (l : List Item) (k : Nat) (d : denI l) (ys : List V), (∀ s j isb, Item.slot s (.ref j isb) ∉ l) → nRoots l = 0 → (slotsI l).length = l.length → RC (RV1 H) ((encI id k l d).1.map (·.2)) ys →
    ys.flatMap refs1 = (List.range (encI id k l d).2.length).map (k + ·)
  | [], k, d, ys, _, _, _, h => by
    cases ys with
    | nil => rfl
    | cons a l => exact h.elim
  | .root b :: l, k, d, ys, _, h0, _, _ => by simp [nRoots] at h0
  | .slot s a :: l, k, d, ys, hr, h0, hs, h => by
    have hr' : ∀ s j isb, Item.slot s (.ref j isb) ∉ l := fun s j isb hm => hr s j isb (by simp [hm])
    have hs' : (slotsI l).length = l.length := by simpa [slotsI] using hs
    have h0' : nRoots l = 0 := by
      cases l with
      | nil => rfl
      | cons i l =>
        cases i with
        | slot s a => rfl
        | root b =>
          exfalso
          have : ∀ l : List Item, (slotsI l).length ≤ l.length := by
            intro l
            induction l with
            | nil => simp [slotsI]
            | cons i l ih => cases i <;> simp only [slotsI, List.length_cons] <;> omega
          have := this l
          simp only [slotsI, List.length_cons] at hs'
          omega
    simp only [encI] at h ⊢
    cases hn : newB a (hdI (.slot s a) l d) with
    | none =>
      simp only [hn] at h ⊢
      cases ys with
      | nil => exact h.elim
      | cons y ys =>
        rw [List.flatMap_cons, enc_refs l k (tlI _ l d) ys hr' h0' hs' h.2]
        have : refs1 y = [] := by
          have hv := h.1
          cases a with
          | cell c =>
            have hv0 : RV0 H (encC c (hdI (.slot s (.cell c)) l d)) y := by
              have hv : RV1 H (encC c (hdI (.slot s (.cell c)) l d)) y := hv
              cases c <;> exact hv
            cases c with
            | int k => have : y = _ := hv0; subst this; rfl
            | bool => have : y = _ := hv0; subst this; rfl
            | str => have : y = _ := hv0; subst this; rfl
            | im t => rcases hv0 with ⟨_, rfl⟩ | ⟨_, rfl, _⟩ <;> rfl
          | agg cs => obtain ⟨us, rfl, hc⟩ := hv; exact (encCs_refs hc).1
          | new b => simp [newB] at hn
          | ref j isb => exact absurd List.mem_cons_self (hr s j isb)
          | clo f =>
            obtain ⟨us, rfl, hc⟩ := (show ∃ us, y = V.cl f us ∧ RC (RV0 H) [] us from hv)
            cases us with
            | nil => rfl
            | cons a l => exact hc.elim
        rw [this]; rfl
    | some b =>
      simp only [hn, List.length_cons] at h ⊢
      cases ys with
      | nil => exact h.elim
      | cons y ys =>
        rw [List.flatMap_cons, enc_refs l (k + 1) (tlI _ l d) ys hr' h0' hs' h.2, List.range_succ_eq_map]
        have : refs1 y = [k] := by
          have hv := h.1
          cases a with
          | new b =>
            cases b with
            | arr ty deep t => obtain ⟨n, rfl, _⟩ := hv; rfl
            | box ty cs => have : y = _ := hv; subst this; rfl
          | _ => simp [newB] at hn
        rw [this]
        simp only [List.map_cons, Nat.add_zero, List.map_map, List.cons_append, List.nil_append, List.cons.injEq, true_and]
        apply List.map_congr_left
        intro j _
        simp only [Function.comp]
        omega

theorem enum_rel {H : THp} : ∀ (l : TTm) (n : Nat) (ys : List V), l.map (·.1) = (List.range l.length).map (n + ·) → RC (RV1 H) (l.map (·.2)) ys → ∀ t, RV2 H (getV l t) (lk .any (enum n ys) t)
  | [], n, ys, _, h, t => by
    cases ys with
    | nil => exact trivial
    | cons a l => exact h.elim
  | (s, v) :: l, n, ys, hk, h, t => by
    cases ys with
    | nil => exact h.elim
    | cons y ys =>
      rw [List.length_cons, List.range_succ_eq_map] at hk
      simp only [List.map_cons, Nat.add_zero, List.map_map, List.cons.injEq] at hk
      rw [getV_cons]
      simp only [enum, lk]
      rw [hk.1]
      split
      · exact h.1.to2
      · refine enum_rel l (n + 1) ys ?_ h.2 t
        rw [hk.2]
        apply List.map_congr_left
        intro j _
        simp only [Function.comp]
        omega
end Go.Proofs.Ytcmihlhmeonmfaa.Ev
