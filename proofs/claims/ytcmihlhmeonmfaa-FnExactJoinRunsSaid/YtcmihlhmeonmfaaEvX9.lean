/- The typed evaluator and the evaluator: loop heads, exits, joins. -/
import Derived.Test.YtcmihlhmeonmfaaEvX8
namespace Go.Proofs.Ytcmihlhmeonmfaa.Ev
open Go
set_option linter.unusedVariables false
set_option linter.unusedSimpArgs false

theorem rootC_rel {c : AC} {v : SV} {x : c.den} {hp : THp} {y : V} (h : decC [] c v = some x) (hv : RV0 hp v y) : ∀ hp', RV0 hp' (encC c x) y := by
  intro hp'
  cases c with
  | int k =>
    cases v <;> simp only [decC, reduceCtorEq] at h
    split at h
    · rename_i hk; cases h; subst hk; exact hv
    · cases h
  | bool => cases v <;> simp only [decC, reduceCtorEq] at h; cases h; exact hv
  | str => cases v <;> simp only [decC, reduceCtorEq] at h; cases h; exact hv
  | im t =>
    have h' : asLh [] t v = some x := by cases v <;> exact h
    have h'' : asL t v = some x := by
      cases v with
      | ow id => simp [asLh, getB] at h'
      | ar a b c => simp [asLh, getB] at h'
      | _ => exact h'
    exact asL_rel h'' hv

theorem rootCs_rel : ∀ {cs : List AC} {vs : List SV} {x : denC cs} {hp : THp} {ys : List V}, decCs [] cs vs = some x → RC (RV0 hp) vs ys → ∀ hp', RC (RV0 hp') (encCs cs x) ys
  | [], [], x, hp, ys, h, hc, hp' => by
    cases ys with
    | nil => exact trivial
    | cons a l => exact hc.elim
  | [], _ :: _, _, _, _, h, _, _ => by cases h
  | [a], [v], x, hp, ys, h, hc, hp' => by
    cases ys with
    | nil => exact hc.elim
    | cons y ys =>
      cases ys with
      | cons _ _ => exact hc.2.elim
      | nil => exact ⟨rootC_rel h hc.1 hp', trivial⟩
  | [a], [], _, _, _, h, _, _ => by cases h
  | [a], _ :: _ :: _, _, _, _, h, _, _ => by cases h
  | a :: b' :: cs, [], _, _, _, h, _, _ => by cases h
  | a :: b' :: cs, v :: vs, x, hp, ys, h, hc, hp' => by
    simp only [decCs] at h
    split at h
    · rename_i x1 hx1
      split at h
      · rename_i x2 hx2
        cases h
        cases ys with
        | nil => exact hc.elim
        | cons y ys => exact ⟨rootC_rel hx1 hc.1 hp', rootCs_rel hx2 hc.2 hp'⟩
      · cases h
    · cases h

theorem root_rel {b : AB} {tb : TB} {x : b.den} (h : decRoot b (some tb) = some x) : blen tb = blen (encB b x) ∧ ∀ hp hp' k, RB hp tb k → RB hp' (encB b x) k := by
  cases b with
  | arr ty deep t =>
    cases tb with
    | box ty' cs => simp [decRoot] at h
    | frz ty' d' t' l => simp [decRoot] at h
    | arr ty' deep' t' l =>
      simp only [decRoot] at h
      split at h
      · rename_i he
        split at h
        · rename_i hc
          simp only [Bool.and_eq_true, beq_iff_eq] at hc
          cases h
          subst he
          have e1 := Nat.eq_of_beq_eq_true hc.1
          have e2 := hc.2
          subst e1
          subst e2
          exact ⟨rfl, fun hp hp' k hk => hk⟩
        · cases h
      · cases h
  | box ty cs =>
    cases tb with
    | arr ty' d' t' l => simp [decRoot] at h
    | frz ty' d' t' l => simp [decRoot] at h
    | box ty' vs =>
      simp only [decRoot] at h
      split at h
      · rename_i hc
        simp only [Bool.and_eq_true] at hc
        have e1 := Nat.eq_of_beq_eq_true hc.1
        subst e1
        refine ⟨rfl, fun hp hp' k hk => ?_⟩
        obtain ⟨h1, h2, row, h3, h4, h5⟩ := hk
        exact ⟨h1, h2, row, h3, h4, rootCs_rel h h5 hp'⟩
      · cases h

/-- What is read of a state. -/
structure Whole (l : List Item) (d : denI l) (st : St) (m : Nat) (o : List Nat) (hpF : THp) (st' : St) : Prop where
  norm : normS (keepI l) st = some st'
  rh : RH hpF st'.hp
  vals : ∀ p ∈ (encI (ordF o) m l d).1, RV2 hpF p.2 (st'.tm p.1)
  blks : ∀ j, m ≤ j → j < o.length → ∃ b tb, Enc b ∧ getB hpF (ordF o j) = some tb ∧ blen tb = blen b ∧ (∀ hp hp' k, RB hp tb k → Enc b → RB hp' b k) ∧ ∀ f : Nat → Nat, (f j, some b) ∈ (encI f m l d).2
  nblk : ∀ f : Nat → Nat, (encI f m l d).2.map (·.1) = ((List.range (o.length - m)).map (m + ·)).map f
  rlt : ∀ s j isb, Item.slot s (.ref j isb) ∈ l → j < o.length
  ext : ∃ t, o = List.range (m + nRoots l) ++ t
  nodup : o.Nodup
  refs : dd (List.range (m + nRoots l)) ((keepI l).flatMap fun p => refs2 (st'.tm p.1)) = o
  refsIn : ∀ i ∈ (keepI l).flatMap (fun p => refs2 (st'.tm p.1)), i ∈ o
  few : ((keepI l).flatMap fun p => refs2 (st'.tm p.1)).length ≤ l.length

/-- Blocks that were handed in, then slots. -/
def RootsFirst : List Item → Prop
  | .root _ :: l => RootsFirst l
  | l => AllS l

theorem enc_mono {b : TB} (h : Enc b) {hp hp' : THp} {k : Blk} (hk : RB hp b k) : RB hp' b k := by
  obtain ⟨a, x, rfl⟩ := h
  cases a with
  | arr ty deep t => exact hk
  | box ty cs =>
    obtain ⟨h1, h2, row, h3, h4, h5⟩ := hk
    exact ⟨h1, h2, row, h3, h4, (encCs_refs h5).2.2 hp'⟩

theorem whole_rel {tm : TTm} : ∀ (l : List Item) {hp : THp} {st : St} {c m : Nat} {o : List Nat} {d : denI l}, RootsFirst l → (slotsI l).Nodup → decI tm hp c (List.range m) l = some (d, o) → st.c = c → RH hp st.hp → (∀ s ∈ slotsI l, RV2 hp (getV tm s) (st.tm s)) →
    ∃ hpF st', Whole l d st m o hpF st' ∧ ∀ id, id < m → getB hpF id = getB hp id
  | .root b :: l, hp, st, c, m, o, d, hall, hnd, h, hc, hh, hr => by
    simp only [decI, List.length_range] at h
    split at h
    · rename_i x hx
      split at h
      · rename_i y o' h2
        simp only [Option.some.injEq, Prod.mk.injEq] at h
        obtain ⟨rfl, rfl⟩ := h
        rw [← List.range_succ] at h2
        obtain ⟨hpF, st', W, hold⟩ := whole_rel l (st := st) (m := m + 1) hall hnd h2 hc hh hr
        have hhd := hd_cons (.root b) l x y
        have htl := tl_cons (.root b) l x y
        have henc : ∀ f, encI f m (.root b :: l) (consI (.root b) l x y) = ((encI f (m + 1) l y).1, (f m, some (encB b x)) :: (encI f (m + 1) l y).2) := by
          intro f
          simp only [encI, hhd, htl]
        obtain ⟨t, ht⟩ := W.ext
        have hn : m + 1 + nRoots l = m + nRoots (.root b :: l) := by simp only [nRoots]; omega
        have hm : ordF o' m = m := by
          rw [ht]
          simp only [ordF, List.getD]
          rw [List.getElem?_append_left (by simp; omega)]
          rw [List.getElem?_range (by omega)]
          rfl
        refine ⟨hpF, st', ⟨W.norm, W.rh, fun p hp => ?_, fun j h3 h4 => ?_, fun f => ?_, fun s j isb hm => W.rlt s j isb (by simpa using hm), ⟨t, by rw [← hn]; exact ht⟩, W.nodup, by rw [← hn]; exact W.refs, W.refsIn, by have := W.few; simp only [List.length_cons]; exact Nat.le_succ_of_le this⟩, fun id hid => hold id (by omega)⟩
        · rw [henc] at hp; exact W.vals p hp
        · by_cases hj : j = m
          · subst hj
            cases hg : getB hp j with
            | none => rw [hg] at hx; cases b <;> cases hx
            | some tb =>
              rw [hg] at hx
              obtain ⟨q1, q2⟩ := root_rel hx
              exact ⟨encB b x, tb, ⟨b, x, rfl⟩, by rw [hm, hold j (by omega), hg], q1, fun hp hp' k hk _ => q2 hp hp' k hk, fun f => by rw [henc]; simp⟩
          · obtain ⟨b', tb, e1, e2, e3, e4, e5⟩ := W.blks j (by omega) h4
            exact ⟨b', tb, e1, e2, e3, e4, fun f => by rw [henc]; exact List.mem_cons_of_mem _ (e5 f)⟩
        · rw [henc, List.map_cons, W.nblk f]
          have hlen : m + 1 ≤ o'.length := by rw [ht]; simp; omega
          have : o'.length - m = (o'.length - (m + 1)) + 1 := by omega
          rw [this, List.range_succ_eq_map]
          simp only [List.map_cons, List.map_map, Nat.add_zero, List.cons.injEq, true_and]
          apply List.map_congr_left
          intro j _
          simp only [Function.comp]
          congr 1
          omega
      · cases h
    · cases h
  | [], hp, st, c, m, o, d, hall, hnd, h, hc, hh, hr => by
    obtain ⟨hpF, st', S⟩ := slots_rel [] hall hnd h hc hh hr
    refine ⟨hpF, st', ⟨S.norm, S.rh, by simpa using S.vals, fun j h1 h2 => ?_, fun f => by simpa using S.nblk f, S.rlt, by simpa [nRoots] using S.ext, S.nodup List.nodup_range, by simpa [nRoots] using S.refs, S.refsIn, S.few⟩, fun id hid => S.old id (by simp [hid])⟩
    obtain ⟨b, e1, e2, e3⟩ := S.blks j (by simpa using h1) h2
    exact ⟨b, b, e1, e2, rfl, fun hp hp' k hk he => enc_mono he hk, by simpa using e3⟩
  | .slot s a :: l, hp, st, c, m, o, d, hall, hnd, h, hc, hh, hr => by
    obtain ⟨hpF, st', S⟩ := slots_rel (.slot s a :: l) hall hnd h hc hh hr
    refine ⟨hpF, st', ⟨S.norm, S.rh, by simpa using S.vals, fun j h1 h2 => ?_, fun f => by simpa using S.nblk f, S.rlt, by simpa [nRoots] using S.ext, S.nodup List.nodup_range, by simpa [nRoots] using S.refs, S.refsIn, S.few⟩, fun id hid => S.old id (by simp [hid])⟩
    obtain ⟨b, e1, e2, e3⟩ := S.blks j (by simpa using h1) h2
    exact ⟨b, b, e1, e2, rfl, fun hp hp' k hk he => enc_mono he hk, by simpa using e3⟩

theorem getB_of_mem : ∀ {l : THp} {i : Nat} {b : TB}, (l.map (·.1)).Nodup → (i, some b) ∈ l → getB l i = some b
  | [], _, _, _, h => by simp at h
  | (k, x) :: l, i, b, hn, h => by
    simp only [List.map_cons, List.nodup_cons] at hn
    rw [getB_cons]
    rcases List.mem_cons.1 h with h | h
    · cases h; rw [if_pos rfl]
    · have : i ≠ k := fun he => hn.1 (by rw [← he]; exact List.mem_map.2 ⟨_, h, rfl⟩)
      rw [if_neg this]
      exact getB_of_mem hn.2 h

theorem mem_of_getB : ∀ {l : THp} {i : Nat} {b : TB}, getB l i = some b → i ∈ l.map (·.1)
  | [], _, _, h => by cases h
  | (k, x) :: l, i, b, h => by
    rw [getB_cons] at h
    split at h
    · rename_i he; simp [he]
    · simp [mem_of_getB h]

theorem tm_rel {H hpF : THp} {o : List Nat} {tmV : Tm} : ∀ (l : List Item) (k : Nat) (d : denI l), (∀ p ∈ (encI (ordF o) k l d).1, RV2 hpF p.2 (tmV p.1)) → ((encI (ordF o) k l d).2.map (·.1)).length + k = o.length →
    (∀ s j isb, Item.slot s (.ref j isb) ∈ l → j < o.length) →
    (∀ (k : Nat) (a : AS) (xa : a.den) (y : V), (∀ j isb, a = .ref j isb → j < o.length) → RV2 hpF (encSV (ordF o) k a xa) y → (newB a xa ≠ none → k < o.length) → RV2 H (encSV id k a xa) (ren2 (idx o) y)) →
    ∀ t, RV2 H (getV (encI id k l d).1 t) (lk .any ((slotsI l).map fun s => (s, ren2 (idx o) (tmV s))) t)
  | [], k, d, _, _, _, _, t => trivial
  | .root b :: l, k, d, hv, hl, hr, hren, t => by
    simp only [encI, List.map_cons, List.length_cons] at hv hl
    simp only [encI, slotsI]
    exact tm_rel l (k + 1) (tlI _ l d) hv (by omega) (fun s j isb hm => hr s j isb (by simp [hm])) hren t
  | .slot s a :: l, k, d, hv, hl, hr, hren, t => by
    simp only [encI] at hv hl ⊢
    have hr0 : ∀ j isb, a = .ref j isb → j < o.length := fun j isb he => hr s j isb (by simp [he])
    cases hn : newB a (hdI (.slot s a) l d) with
    | none =>
      simp only [hn] at hv hl ⊢
      rw [getV_cons]
      simp only [slotsI, List.map_cons, lk]
      split
      · exact hren k a _ _ hr0 (hv _ (List.mem_cons_self)) (fun h => absurd hn h)
      · exact tm_rel l k (tlI _ l d) (fun p hp => hv p (List.mem_cons_of_mem _ hp)) hl (fun s j isb hm => hr s j isb (by simp [hm])) hren t
    | some b =>
      simp only [hn, List.map_cons, List.length_cons] at hv hl ⊢
      rw [getV_cons]
      simp only [slotsI, List.map_cons, lk]
      split
      · exact hren k a _ _ hr0 (hv _ (List.mem_cons_self)) (fun _ => by omega)
      · exact tm_rel l (k + 1) (tlI _ l d) (fun p hp => hv p (List.mem_cons_of_mem _ hp)) (by omega) (fun s j isb hm => hr s j isb (by simp [hm])) hren t

/-- Where ways meet the state is what was read. -/
theorem canon_rel' {e : Nat} {l : List Item} {st : TSt} {s : St} {d : denI l} (hs : RS st s) (h : decSt e l st = some d) : ∃ st' o, normS (keepI l) s = some st' ∧ close st'.hp 64 (List.range e ++ ((keepI l).map (·.1)).flatMap fun s => refs2 (st'.tm s)) [] = some o ∧ o.length ≤ 16 ∧ o.take e = List.range e ∧ o.length = (encSt l d).hp.length ∧ (∀ s j isb, Item.slot s (.ref j isb) ∈ l → j < o.length) ∧
    RS (encSt l d) { tm := lk .any (((keepI l).map (·.1)).map fun s => (s, ren2 (idx o) (st'.tm s))), hp := lkB (blksOf st'.hp o), c := 1 } := by
  unfold decSt at h
  split at h
  · rename_i hw
    simp only [Bool.and_eq_true] at hw
    obtain ⟨hw, he⟩ := hw
    have he := Nat.eq_of_beq_eq_true he
    split at h
    · rename_i x o hd
      split at h
      · rename_i hol
        cases h
        have hol := Nat.le_of_ble_eq_true hol
        unfold wfI at hw
        simp only [Bool.and_eq_true] at hw
        obtain ⟨⟨w1, w2⟩, w3⟩ := hw
        have w1 := Nat.eq_of_beq_eq_true w1
        have w2 := nodupB_nodup w2
        have w3 := Nat.le_of_ble_eq_true w3
        have hrf : ∀ (l : List Item), (slotsI l).length = l.length - nRoots l → RootsFirst l := by
          have hle : ∀ l : List Item, (slotsI l).length ≤ l.length := by
            intro l
            induction l with
            | nil => simp [slotsI]
            | cons i l ih => cases i <;> simp only [slotsI, List.length_cons] <;> omega
          have hall : ∀ l : List Item, (slotsI l).length = l.length → AllS l := by
            intro l
            induction l with
            | nil => intro _ i hi; simp at hi
            | cons i l ih =>
              intro hl
              cases i with
              | root b => simp only [slotsI, List.length_cons] at hl; have := hle l; omega
              | slot s a =>
                simp only [slotsI, List.length_cons] at hl
                intro j hj
                rcases List.mem_cons.1 hj with rfl | hj
                · exact ⟨s, a, rfl⟩
                · exact ih (by omega) j hj
          intro l
          induction l with
          | nil => intro _ i hi; simp at hi
          | cons i l ih =>
            intro hl
            cases i with
            | root b =>
              simp only [slotsI, nRoots, List.length_cons] at hl
              exact ih (by omega)
            | slot s a => exact hall _ (by simpa [nRoots] using hl)
        obtain ⟨hpF, st', W, _⟩ := whole_rel l (st := s) (m := 0) (hrf l w1) w2 hd hs.c hs.hp (fun s _ => hs.tm s)
        have hidx : ∀ j, j < o.length → idx o (ordF o j) = some j := fun j hj => idx_get W.nodup (by simp [ordF, List.getD, hj])
        have hblk : ∀ id ∈ o, ∃ b, st'.hp id = some b ∧ refsB b = [] := by
          intro id hid
          obtain ⟨j, hj⟩ := List.getElem?_of_mem hid
          have hjl := (List.getElem?_eq_some_iff.1 hj).1
          obtain ⟨b, tb, e1, e2, e3, e4, _⟩ := W.blks j (Nat.zero_le _) hjl
          have hoj : ordF o j = id := by simp [ordF, List.getD, hj]
          rw [hoj] at e2
          obtain ⟨k, hk, hrb⟩ := W.rh id tb e2
          obtain ⟨a, x', rfl⟩ := e1
          exact ⟨k, hk, (encB_refs (e4 _ [] k hrb ⟨a, x', rfl⟩)).1⟩
        have hext := W.ext
        obtain ⟨t, ht⟩ := hext
        rw [Nat.zero_add, he] at ht
        have hr1 := W.refs
        rw [Nat.zero_add, he] at hr1
        have hel : e ≤ o.length := by rw [ht]; simp
        have hflat : (keepI l).flatMap (fun p => refs2 (st'.tm p.1)) = ((keepI l).map (·.1)).flatMap fun s => refs2 (st'.tm s) := by
          rw [List.flatMap_map]
        have hclose : close st'.hp 64 (List.range e ++ ((keepI l).map (·.1)).flatMap fun s => refs2 (st'.tm s)) [] = some o := by
          rw [← hflat]
          have hfew := W.few
          have hnr : nRoots l ≤ l.length := by
            have : ∀ l : List Item, nRoots l ≤ l.length := by
              intro l
              induction l with
              | nil => simp [nRoots]
              | cons i l ih => cases i <;> simp only [nRoots, List.length_cons] <;> omega
            exact this l
          rw [close_dd _ _ _ (by simp only [List.length_append, List.length_range]; omega) (fun id hid => ?_)]
          · have := dd_range e 0 ((keepI l).flatMap fun p => refs2 (st'.tm p.1))
            simp only [Nat.zero_add, List.map_id'] at this
            have h0 : (List.range 0 : List Nat) = [] := rfl
            rw [h0] at this
            rw [this, hr1]
          · rcases List.mem_append.1 hid with hid | hid
            · exact hblk id (by rw [ht]; simp; left; simpa using hid)
            · exact hblk id (W.refsIn id hid)
        refine ⟨st', o, W.norm, hclose, hol, by rw [ht]; simp, by have := congrArg List.length (W.nblk id); simpa [encSt] using this.symm, fun s j isb hm => W.rlt s j isb hm, ?_⟩
        · -- the relation
          have hnd2 : ((encI id 0 l d).2.map (·.1)).Nodup := by
            rw [W.nblk id]
            simp only [Nat.zero_add, List.map_id', List.map_id]
            exact List.nodup_range
          have hget : ∀ j, j < o.length → ∃ b tb, Enc b ∧ getB hpF (ordF o j) = some tb ∧ blen tb = blen b ∧ (∀ hp hp' k, RB hp tb k → Enc b → RB hp' b k) ∧ getB (encI id 0 l d).2 j = some b := by
            intro j hj
            obtain ⟨b, tb, e1, e2, e3, e4, e5⟩ := W.blks j (Nat.zero_le _) hj
            exact ⟨b, tb, e1, e2, e3, e4, getB_of_mem hnd2 (e5 id)⟩
          refine ⟨?_, fun j b hb => ?_, rfl⟩
          · -- slots
            have hren : ∀ (k : Nat) (a : AS) (xa : a.den) (y : V), (∀ j isb, a = .ref j isb → j < o.length) → RV2 hpF (encSV (ordF o) k a xa) y → (newB a xa ≠ none → k < o.length) →
                RV2 (encI id 0 l d).2 (encSV id k a xa) (ren2 (idx o) y) := by
              intro k a xa y href hv hk
              cases a with
              | cell c =>
                have hv0 : RV0 hpF (encC c xa) y := by cases c <;> exact hv
                have hr := encC_refs hv0
                have : ren2 (idx o) y = y := by
                  cases c with
                  | int k => have : y = _ := hv0; subst this; rfl
                  | bool => have : y = _ := hv0; subst this; rfl
                  | str => have : y = _ := hv0; subst this; rfl
                  | im t => rcases hv0 with ⟨_, rfl⟩ | ⟨_, rfl, _⟩ <;> rfl
                rw [this]
                have h1 : RV0 (encI id 0 l d).2 (encC c xa) y := encC_any hv0
                cases c <;> exact h1
              | agg cs =>
                obtain ⟨us, rfl, hc⟩ := hv
                obtain ⟨q1, q2, q3⟩ := encCs_refs hc
                refine ⟨us.map (ren0 (idx o)), rfl, ?_⟩
                rw [q2]
                exact q3 _
              | new b =>
                have hkl := hk (by simp [newB])
                cases b with
                | arr ty deep t =>
                  obtain ⟨n, rfl, hlen⟩ := (show RV0 hpF (.ow (ordF o k)) y from hv)
                  obtain ⟨b, tb, e1, e2, e3, e4, e5⟩ := hget k hkl
                  have hn := hlen tb e2
                  show RV0 _ (.ow k) (ren2 (idx o) (.ar (ordF o k) 0 n))
                  have : ren2 (idx o) (.ar (ordF o k) 0 n) = .ar k 0 n := by simp only [ren2, ren1, ren0, hidx k hkl]
                  rw [this]
                  refine ⟨n, rfl, fun b' hb' => ?_⟩
                  rw [e5] at hb'
                  cases hb'
                  rw [← e3]; exact hn
                | box ty cs =>
                  have hy : y = .rf (ordF o k) 0 0 := hv
                  subst hy
                  show ren2 (idx o) (.rf (ordF o k) 0 0) = .rf k 0 0
                  simp only [ren2, ren1, ren0, hidx k hkl]
              | ref j isb =>
                cases isb with
                | false =>
                  obtain ⟨n, rfl, hlen⟩ := (show RV0 hpF (.ow (ordF o j)) y from hv)
                  have hjl := href j false rfl
                  obtain ⟨b, tb, e1, e2, e3, e4, e5⟩ := hget j hjl
                  have hn := hlen tb e2
                  show RV0 _ (.ow j) (ren2 (idx o) (.ar (ordF o j) 0 n))
                  have : ren2 (idx o) (.ar (ordF o j) 0 n) = .ar j 0 n := by simp only [ren2, ren1, ren0, hidx j hjl]
                  rw [this]
                  refine ⟨n, rfl, fun b' hb' => ?_⟩
                  rw [e5] at hb'
                  cases hb'
                  rw [← e3]; exact hn
                | true =>
                  have hy : y = .rf (ordF o j) 0 0 := hv
                  subst hy
                  have hjl := href j true rfl
                  show ren2 (idx o) (.rf (ordF o j) 0 0) = .rf j 0 0
                  simp only [ren2, ren1, ren0, hidx j hjl]
              | clo f =>
                obtain ⟨us, rfl, hc⟩ := (show ∃ us, y = V.cl f us ∧ RC (RV0 hpF) [] us from hv)
                cases us with
                | nil => exact ⟨[], rfl, trivial⟩
                | cons a l => exact hc.elim
            intro t
            show RV2 (encI id 0 l d).2 (getV (encI id 0 l d).1 t) (lk .any (((keepI l).map (·.1)).map fun s => (s, ren2 (idx o) (st'.tm s))) t)
            rw [keep_slots]
            refine tm_rel l 0 d W.vals (by rw [W.nblk]; simp) (fun s j isb hm => W.rlt s j isb hm) hren t
          · -- blocks
            have hj : j < o.length := by
              have := mem_of_getB hb
              rw [show (encSt l d).hp = (encI id 0 l d).2 from rfl, W.nblk id] at this
              simpa using this
            obtain ⟨b', tb, e1, e2, e3, e4, e5⟩ := hget j hj
            rw [show (encSt l d).hp = (encI id 0 l d).2 from rfl, e5] at hb
            cases hb
            obtain ⟨k, hk, hrb⟩ := W.rh _ tb e2
            refine ⟨renB (idx o) k, ?_, ?_⟩
            · show (blksOf st'.hp o)[j]? = _
              unfold blksOf
              rw [List.getElem?_map]
              have hoj : o[j]? = some (ordF o j) := by simp [ordF, List.getD, hj]
              rw [hoj]
              simp only [Option.map_some, hk, Option.getD_some]
            · obtain ⟨a, x', rfl⟩ := e1
              exact (encB_refs (e4 _ [] k hrb ⟨a, x', rfl⟩)).2 _ _
      · cases h
    · cases h
  · cases h

theorem canon_rel {e : Nat} {l : List Item} {st : TSt} {s : St} {d : denI l} (hs : RS st s) (h : decSt e l st = some d) : ∃ s', (∀ K : St → Prop, K s' → canon e (keepI l) s K) ∧ RS (encSt l d) s' := by
  obtain ⟨st', o, h1, h2, h3, h4, _, _, h5⟩ := canon_rel' hs h
  refine ⟨_, fun K hK => ?_, h5⟩
  unfold canon
  rw [h1]
  simp only [caseO_some]
  unfold canon0
  rw [h2]
  exact ⟨h3, h4, hK⟩
end Go.Proofs.Ytcmihlhmeonmfaa.Ev
