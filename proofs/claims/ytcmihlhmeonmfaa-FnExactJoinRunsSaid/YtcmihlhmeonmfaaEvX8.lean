/- The typed evaluator and the evaluator: whole states. -/
import Derived.Test.YtcmihlhmeonmfaaEvX7
namespace Go.Proofs.Ytcmihlhmeonmfaa.Ev
open Go
set_option linter.unusedVariables false
set_option linter.unusedSimpArgs false

theorem unit_eq : ∀ (x : Item) (h : x.isU = true) (a b : x.den), a = b
  | .slot _ (.ref _ _), _, _, _ => rfl
  | .slot _ (.clo _), _, _, _ => rfl
  | .root _, h, _, _ => by cases h
  | .slot _ (.cell _), h, _, _ => by cases h
  | .slot _ (.agg _), h, _, _ => by cases h
  | .slot _ (.new _), h, _, _ => by cases h

theorem fst_mk : ∀ (u v : Bool) (A B : Type) (a0 : u = true → A) (a : A) (b : B), (u = true → ∀ x y : A, x = y) → fstP u v A B a0 (mkP u v A B a b) = a
  | true, _, _, _, _, _, _, h => h rfl _ _
  | false, true, _, _, _, _, _, _ => rfl
  | false, false, _, _, _, _, _, _ => rfl

theorem snd_mk : ∀ (u v : Bool) (A B : Type) (b0 : v = true → B) (a : A) (b : B), (v = true → ∀ x y : B, x = y) → sndP u v A B b0 (mkP u v A B a b) = b
  | true, _, _, _, _, _, _, _ => rfl
  | false, true, _, _, _, _, _, h => h rfl _ _
  | false, false, _, _, _, _, _, _ => rfl

theorem pair_eq : ∀ (u v : Bool) (A B : Type), u = true → (v = true → ∀ x y : B, x = y) → v = true → ∀ x y : PairT u v A B, x = y
  | true, true, _, _, _, h, _, x, y => h rfl x y
  | false, _, _, _, h, _, _, _, _ => by cases h
  | true, false, _, _, _, _, h, _, _ => by cases h

theorem units_eq : ∀ (l : List Item), allU l = true → ∀ a b : denI l, a = b
  | [], _, _, _ => rfl
  | x :: l, h, a, b => by
    simp only [allU, List.all_cons, Bool.and_eq_true] at h
    exact pair_eq x.isU (allU l) x.den (denI l) h.1 (fun hl => units_eq l hl) (by unfold allU; exact h.2) a b

theorem hd_cons (x : Item) (l : List Item) (a : x.den) (d : denI l) : hdI x l (consI x l a d) = a := fst_mk _ _ _ _ _ _ _ fun h => unit_eq x h
theorem tl_cons (x : Item) (l : List Item) (a : x.den) (d : denI l) : tlI x l (consI x l a d) = d := snd_mk _ _ _ _ _ _ _ fun h => units_eq l h

/-- Numbers, each once, in their order. -/
def dd : List Nat → List Nat → List Nat
  | acc, [] => acc
  | acc, id :: l => if acc.contains id then dd acc l else dd (acc ++ [id]) l

theorem close_dd {hv : Hp} : ∀ (l acc : List Nat) (k : Nat), l.length < k → (∀ id ∈ l, ∃ b, hv id = some b ∧ refsB b = []) → close hv k l acc = some (dd acc l)
  | [], acc, k, hk, _ => by
    cases k with
    | zero => omega
    | succ k => rfl
  | id :: l, acc, k, hk, h => by
    cases k with
    | zero => omega
    | succ k =>
      simp only [List.length_cons] at hk
      simp only [close, dd]
      have hl : ∀ i ∈ l, ∃ b, hv i = some b ∧ refsB b = [] := fun i hi => h i (by simp [hi])
      by_cases hc : acc.contains id
      · rw [if_pos hc, if_pos hc]; exact close_dd l acc k (by omega) hl
      · rw [if_neg hc, if_neg hc]
        obtain ⟨b, hb, hr⟩ := h id (by simp)
        simp only [hb, hr, List.append_nil]
        exact close_dd l (acc ++ [id]) k (by omega) hl

theorem dd_in : ∀ {l acc : List Nat} (r : List Nat), (∀ i ∈ l, i ∈ acc) → dd acc (l ++ r) = dd acc r
  | [], acc, r, _ => rfl
  | id :: l, acc, r, h => by
    simp only [List.cons_append, dd]
    rw [if_pos (by simpa using h id (by simp))]
    exact dd_in r fun i hi => h i (by simp [hi])

theorem dd_new {id : Nat} {acc r : List Nat} (h : id ∉ acc) : dd acc ([id] ++ r) = dd (acc ++ [id]) r := by
  simp only [List.cons_append, List.nil_append, dd]
  rw [if_neg (by simpa using h)]

theorem dd_range : ∀ (n m : Nat) (r : List Nat), dd (List.range m) (((List.range n).map (m + ·)) ++ r) = dd (List.range (m + n)) r
  | 0, m, r => rfl
  | n + 1, m, r => by
    rw [List.range_succ_eq_map]
    simp only [List.map_cons, List.map_map, List.cons_append, dd]
    rw [if_neg (by simp)]
    have : List.range m ++ [m + 0] = List.range (m + 1) := by rw [List.range_succ]; simp
    rw [this]
    have h2 : (List.range n).map ((m + ·) ∘ Nat.succ) = (List.range n).map ((m + 1) + ·) := by
      apply List.map_congr_left
      intro i _
      simp only [Function.comp]
      omega
    rw [h2, dd_range n (m + 1) r]
    congr 2
    omega

theorem encC_refs {c : AC} {x : c.den} {hp : THp} {y : V} (h : RV0 hp (encC c x) y) : refs0 y = [] ∧ ∀ f, ren0 f y = y := by
  cases c with
  | int k => have : y = _ := h; subst this; exact ⟨rfl, fun _ => rfl⟩
  | bool => have : y = _ := h; subst this; exact ⟨rfl, fun _ => rfl⟩
  | str => have : y = _ := h; subst this; exact ⟨rfl, fun _ => rfl⟩
  | im t => rcases h with ⟨_, rfl⟩ | ⟨_, rfl, _⟩ <;> exact ⟨rfl, fun _ => rfl⟩

theorem encC_any {c : AC} {x : c.den} {hp hp' : THp} {y : V} (h : RV0 hp (encC c x) y) : RV0 hp' (encC c x) y := by
  cases c <;> exact h

theorem encCs_refs : ∀ {cs : List AC} {x : denC cs} {hp : THp} {ys : List V}, RC (RV0 hp) (encCs cs x) ys → ys.flatMap refs0 = [] ∧ (∀ f, ys.map (ren0 f) = ys) ∧ ∀ hp', RC (RV0 hp') (encCs cs x) ys
  | [], x, hp, ys, h => by
    cases ys with
    | nil => exact ⟨rfl, fun _ => rfl, fun _ => trivial⟩
    | cons a l => exact h.elim
  | [a], x, hp, ys, h => by
    cases ys with
    | nil => exact h.elim
    | cons y l =>
      cases l with
      | cons _ _ => exact h.2.elim
      | nil => exact ⟨by simp [(encC_refs h.1).1], fun f => by simp [(encC_refs h.1).2], fun hp' => ⟨encC_any h.1, trivial⟩⟩
  | a :: b :: l, x, hp, ys, h => by
    cases ys with
    | nil => exact h.elim
    | cons y ys =>
      obtain ⟨h1, h2, h3⟩ := encCs_refs (cs := b :: l) h.2
      exact ⟨by rw [List.flatMap_cons, (encC_refs h.1).1, h1]; rfl, fun f => by rw [List.map_cons, (encC_refs h.1).2, h2], fun hp' => ⟨encC_any h.1, h3 hp'⟩⟩

/-- A block that was read leads nowhere. -/
theorem encB_refs {b : AB} {x : b.den} {hp : THp} {k : Blk} (h : RB hp (encB b x) k) : refsB k = [] ∧ ∀ f hp', RB hp' (encB b x) (renB f k) := by
  cases b with
  | arr ty deep t =>
    obtain ⟨h1, h2, h3, h4, h5⟩ := h
    refine ⟨by simp only [refsB, h1], fun f hp' => ?_⟩
    have : renB f k = k := by unfold renB; rw [h1]
    rw [this]
    exact ⟨h1, h2, h3, h4, h5⟩
  | box ty cs =>
    obtain ⟨h1, h2, row, h3, h4, h5⟩ := h
    obtain ⟨q1, q2, q3⟩ := encCs_refs h5
    refine ⟨by unfold refsB; rw [h1, h3]; simp [q1], fun f hp' => ?_⟩
    have : (renB f k).rows = [row] := by unfold renB; rw [h1]; simp [h3, q2]
    have e1 : (renB f k).kind = .box := by unfold renB; rw [h1]
    have e2 : (renB f k).ty = ty := by unfold renB; rw [h1]; exact h2
    have e3 : (renB f k).size = row.length := by unfold renB; rw [h1]; exact h4
    exact ⟨e1, e2, row, this, e3, q3 hp'⟩

/-- Is a block one that was read? -/
def Enc (k : TB) : Prop := ∃ (b : AB) (x : b.den), k = encB b x

theorem newB_enc {a : AS} {x : a.den} {k : TB} (h : newB a x = some k) : Enc k := by
  cases a <;> simp [newB] at h
  exact ⟨_, _, h.symm⟩

/-- What is read of slots, one behind the other. -/
structure Slots (l : List Item) (d : denI l) (hp : THp) (st : St) (order : List Nat) (o : List Nat) (hpF : THp) (st' : St) : Prop where
  norm : normS (keepI l) st = some st'
  rh : RH hpF st'.hp
  old : ∀ id ∈ order, getB hpF id = getB hp id
  ext : ∃ t, o = order ++ t
  nodup : order.Nodup → o.Nodup
  other : ∀ s, s ∉ slotsI l → st'.tm s = st.tm s
  vals : ∀ p ∈ (encI (ordF o) order.length l d).1, RV2 hpF p.2 (st'.tm p.1)
  blks : ∀ j, order.length ≤ j → j < o.length → ∃ b, Enc b ∧ getB hpF (ordF o j) = some b ∧ ∀ f : Nat → Nat, (f j, some b) ∈ (encI f order.length l d).2
  nblk : ∀ f : Nat → Nat, (encI f order.length l d).2.map (·.1) = ((List.range (o.length - order.length)).map (order.length + ·)).map f
  rlt : ∀ s j isb, Item.slot s (.ref j isb) ∈ l → j < o.length
  refs : dd order ((keepI l).flatMap fun p => refs2 (st'.tm p.1)) = o
  refsIn : ∀ i ∈ (keepI l).flatMap (fun p => refs2 (st'.tm p.1)), i ∈ o
  few : ((keepI l).flatMap fun p => refs2 (st'.tm p.1)).length ≤ l.length

def AllS (l : List Item) : Prop := ∀ i ∈ l, ∃ s a, i = Item.slot s a

theorem keep_slots : ∀ (l : List Item), (keepI l).map (·.1) = slotsI l
  | [] => rfl
  | .root b :: l => keep_slots l
  | .slot s a :: l => by simp [keepI, slotsI, keep_slots l]

theorem slots_rel {tm : TTm} : ∀ (l : List Item) {hp : THp} {st : St} {c : Nat} {order o : List Nat} {d : denI l}, AllS l → (slotsI l).Nodup → decI tm hp c order l = some (d, o) → st.c = c → RH hp st.hp → (∀ s ∈ slotsI l, RV2 hp (getV tm s) (st.tm s)) →
    ∃ hpF st', Slots l d hp st order o hpF st'
  | [], hp, st, c, order, o, d, _, _, h, hc, hh, _ => by
    simp only [decI, Option.some.injEq, Prod.mk.injEq] at h
    obtain ⟨_, rfl⟩ := h
    exact ⟨hp, st, rfl, hh, fun _ _ => rfl, ⟨[], by simp⟩, fun h => h, fun _ _ => rfl, fun p hp => by simp [encI] at hp, fun j h1 h2 => by omega, fun f => by simp [encI], fun s j isb h => by simp at h, rfl, fun i hi => by simp [keepI] at hi, by simp [keepI]⟩
  | .root b :: l, _, _, _, _, _, _, hall, _, _, _, _, _ => by
    obtain ⟨s, a, h⟩ := hall _ List.mem_cons_self
    cases h
  | .slot s a :: l, hp, st, c, order, o, d, hall, hnd, h, hc, hh, hr => by
    simp only [decI] at h
    split at h
    · rename_i x order1 hp1 h1
      split at h
      · rename_i y o' h2
        simp only [Option.some.injEq, Prod.mk.injEq] at h
        obtain ⟨rfl, rfl⟩ := h
        simp only [slotsI, List.nodup_cons] at hnd
        obtain ⟨y', hv1, n, g1, g2, S⟩ := decS_rel hh (hr s (by simp [slotsI])) h1
        obtain ⟨hpF, st', T⟩ := slots_rel l (st := { tm := upd st.tm s y', hp := hv1, c := st.c + 1 }) (fun i hi => hall i (by simp [hi])) hnd.2 h2 (by simp [hc]) S.rh (fun s' hs' => by
          have hne : s' ≠ s := fun he => hnd.1 (he ▸ hs')
          simp only [upd, if_neg hne]
          exact (hr s' (by simp [slotsI, hs'])).keeps (S.keep s'))
        have hnorm : normS (keepI (.slot s a :: l)) st = some st' := by
          simp only [keepI, normS]
          rw [hc, g1]
          simp only [g2, if_true]
          have := T.norm
          rw [hc] at this
          exact this
        have hts : st'.tm s = y' := by rw [T.other s hnd.1]; simp [upd]
        obtain ⟨t, ht⟩ := T.ext
        have hhd := hd_cons (.slot s a) l x y
        have htl := tl_cons (.slot s a) l x y
        have hsv : RV2 hpF (encSV (ordF o') order.length a x) y' := by
          rw [ht, S.more]
          refine S.val.keeps fun id hid => ?_
          -- ids that the value leans on are known
          have hin : id ∈ order1 := by
            rcases S.ord with ⟨q1, q2, q3⟩ | ⟨i, k, q1, q2, q3, q4, q5⟩
            · cases a with
              | cell k =>
                cases k <;> simp [encSV, encC, ids2, ids1, ids0] at hid
              | agg cs =>
                exfalso
                have : ∀ (cs : List AC) (x : denC cs), (encCs cs x).flatMap ids0 = [] := by
                  intro cs
                  induction cs with
                  | nil => intro _; rfl
                  | cons a l ih =>
                    intro x
                    cases l with
                    | nil => cases a <;> rfl
                    | cons b l => rw [encCs, List.flatMap_cons, ih]; cases a <;> rfl
                simp only [encSV, ids2, ids1] at hid
                rw [this] at hid
                simp at hid
              | new b => simp [newB] at q1
              | ref j isb =>
                cases isb with
                | true => simp [encSV, ids2, ids1, ids0] at hid
                | false =>
                  simp only [encSV, ids2, ids1, ids0, List.mem_singleton] at hid
                  subst hid
                  have hv := S.val
                  simp only [encSV] at hv
                  obtain ⟨n', hy, _⟩ := (show RV0 hp1 (.ow (ordF order1 j)) y' from hv)
                  rw [q2]
                  exact q3 _ (by rw [hy]; simp [refs2, refs1, refs0, q2])
              | clo f => simp [encSV, ids2, ids1] at hid
            · cases a with
              | new b =>
                cases b with
                | box ty cs => simp [encSV, ids2, ids1, ids0] at hid
                | arr ty deep t =>
                  simp only [encSV, ids2, ids1, ids0, List.mem_singleton] at hid
                  rw [hid, q2, ordF_last]
                  simp
              | _ => simp [newB] at q1
          intro b hb
          rw [T.old id hin] at hb
          exact ⟨b, hb, rfl⟩
        have hold : ∀ id ∈ order, getB hpF id = getB hp id := by
          intro id hid
          have : id ∈ order1 := by
            rcases S.ord with ⟨_, q2, _⟩ | ⟨i, k, _, q2, _⟩
            · rw [q2]; exact hid
            · rw [q2]; simp [hid]
          rw [T.old id this, S.old id hid]
        have hvals : ∀ p ∈ (encI (ordF o') order1.length l y).1, RV2 hpF p.2 (st'.tm p.1) := T.vals
        have hkeep : (keepI (.slot s a :: l)).flatMap (fun p => refs2 (st'.tm p.1)) = refs2 y' ++ (keepI l).flatMap fun p => refs2 (st'.tm p.1) := by
          simp only [keepI, List.flatMap_cons, hts]
        have hrefs : dd order ((keepI (.slot s a :: l)).flatMap fun p => refs2 (st'.tm p.1)) = o' := by
          rw [hkeep]
          rcases S.ord with ⟨q1, q2, q3⟩ | ⟨i, k, q1, q2, q3, q4, q5⟩
          · rw [dd_in _ q3, ← q2]; exact T.refs
          · rw [q4, dd_new q3, ← q2]; exact T.refs
        have hrin : ∀ i ∈ (keepI (.slot s a :: l)).flatMap (fun p => refs2 (st'.tm p.1)), i ∈ o' := by
          intro i hi
          rw [hkeep] at hi
          rcases List.mem_append.1 hi with hi | hi
          · rw [ht]
            rcases S.ord with ⟨q1, q2, q3⟩ | ⟨i', k, q1, q2, q3, q4, q5⟩
            · rw [q2]; simp [q3 i hi]
            · rw [q4] at hi; rw [q2]; simp at hi; simp [hi]
          · exact T.refsIn i hi
        have hfew : ((keepI (.slot s a :: l)).flatMap fun p => refs2 (st'.tm p.1)).length ≤ (Item.slot s a :: l).length := by
          rw [hkeep]
          have h3 := T.few
          have h4 := S.one
          simp only [List.length_append, List.length_cons]
          omega
        have hoth : ∀ s', s' ∉ slotsI (.slot s a :: l) → st'.tm s' = st.tm s' := by
          intro s' hs'
          simp only [slotsI, List.mem_cons, not_or] at hs'
          rw [T.other s' hs'.2]
          simp [upd, hs'.1]
        have hrlt : ∀ s0 j isb, Item.slot s0 (.ref j isb) ∈ (Item.slot s a :: l) → j < o'.length := by
          intro s0 j isb hm
          rcases List.mem_cons.1 hm with hm | hm
          · cases hm
            have h1 := S.rlt j isb rfl
            have h2 : order1.length ≤ o'.length := by rw [ht]; simp
            omega
          · exact T.rlt s0 j isb hm
        rcases S.ord with ⟨q1, q2, q3⟩ | ⟨i, k, q1, q2, q3, q4, q5⟩
        · have henc : ∀ f, encI f order.length (.slot s a :: l) (consI (.slot s a) l x y) = ((s, encSV f order.length a x) :: (encI f order.length l y).1, (encI f order.length l y).2) := by
            intro f
            simp only [encI, hhd, htl, q1]
          rw [q2] at T ht hvals
          refine ⟨hpF, st', hnorm, T.rh, hold, ⟨t, ht⟩, T.nodup, hoth, fun p hp => ?_, fun j h3 h4 => ?_, fun f => ?_, hrlt, hrefs, hrin, hfew⟩
          · rw [henc] at hp
            rcases List.mem_cons.1 hp with rfl | hp
            · show RV2 hpF _ (st'.tm s); rw [hts]; exact hsv
            · exact hvals p hp
          · obtain ⟨b, e1, e2, e3⟩ := T.blks j h3 h4
            exact ⟨b, e1, e2, fun f => by rw [henc]; exact e3 f⟩
          · rw [henc]; exact T.nblk f
        · have hl1 : order1.length = order.length + 1 := by rw [q2]; simp
          have henc : ∀ f, encI f order.length (.slot s a :: l) (consI (.slot s a) l x y) = ((s, encSV f order.length a x) :: (encI f order1.length l y).1, (f order.length, some k) :: (encI f order1.length l y).2) := by
            intro f
            simp only [encI, hhd, htl, q1, hl1]
          have hlen : order1.length ≤ o'.length := by rw [ht]; simp
          refine ⟨hpF, st', hnorm, T.rh, hold, ⟨[i] ++ t, by rw [ht, q2]; simp⟩, fun hn => T.nodup ?_, hoth, fun p hp => ?_, fun j h3 h4 => ?_, fun f => ?_, hrlt, hrefs, hrin, hfew⟩
          · rw [q2]
            exact List.nodup_append.2 ⟨hn, by simp, fun a ha b hb => by simp at hb; subst hb; exact fun he => q3 (he ▸ ha)⟩
          · rw [henc] at hp
            rcases List.mem_cons.1 hp with rfl | hp
            · show RV2 hpF _ (st'.tm s); rw [hts]; exact hsv
            · exact hvals p hp
          · by_cases hj : j = order.length
            · subst hj
              have hid : ordF o' order.length = i := by rw [ht, q2]; simp [ordF]
              refine ⟨k, newB_enc q1, ?_, fun f => by rw [henc]; simp⟩
              rw [hid, T.old i (by rw [q2]; simp), q5]
            · obtain ⟨b, e1, e2, e3⟩ := T.blks j (by omega) h4
              exact ⟨b, e1, e2, fun f => by rw [henc]; exact List.mem_cons_of_mem _ (e3 f)⟩
          · rw [henc, List.map_cons, T.nblk f, hl1]
            have : o'.length - order.length = (o'.length - (order.length + 1)) + 1 := by omega
            rw [this, List.range_succ_eq_map]
            simp only [List.map_cons, List.map_map, Nat.add_zero, List.cons.injEq, true_and]
            apply List.map_congr_left
            intro j _
            simp only [Function.comp]
            congr 1
            omega
      · cases h
    · cases h
end Go.Proofs.Ytcmihlhmeonmfaa.Ev
