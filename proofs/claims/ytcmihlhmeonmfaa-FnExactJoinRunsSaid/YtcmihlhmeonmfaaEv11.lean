/- A literal, a slice of a slice, an append: what they do in memory is what the evaluator says. -/
import Derived.Test.YtcmihlhmeonmfaaEv10
namespace Go.Proofs.Ytcmihlhmeonmfaa.Ev
open Go
set_option linter.unusedVariables false
set_option linter.unusedSimpArgs false

variable {P : Program} {w w' w0 : World} {E E' : Env} {hp hp' : Hp} {G G' U A W F : Nat → Prop} {B : Nat → Prop} {ρ : Operand → V} {ρr : Operand → Value}

theorem HpWf.kill (h : HpWf B hp) (l : List Nat) : HpWf B (kill hp l) := fun id k hk => h id k (kill_some l hp id k hk).1

theorem Free.grow {b : Nat} (h : Free w0 U E hp G w b) (hs : w.heap.size ≤ w'.heap.size) : Free w0 U E hp G w' b := ⟨Nat.lt_of_lt_of_le h.1 hs, h.2⟩

/-- A new row of ours: of cells that were ours and are used up, or that are only read. -/
theorem newArr (hI : HpInv w0 U A E G hp w) (hw : HpWf B hp) {b : Nat} (hb : ¬ B b) {kills : List Nat} (hf : Fr W w w') (hW : ∀ y, W y → ¬ G y ∧ ¬ Own E (kill hp kills) y ∧ (U y ∨ w0.heap.size ≤ y))
    {e : TypeId} {size : Nat} {deep : Bool} {rows : List (List V)} {mb : Option Nat} (hsz : 0 < size) (hrows : ∀ (i : Nat) (row : List V), rows[i]? = some row → row.length = size)
    (hmb : (mb = none ∧ rows = []) ∨ ∃ nb cur cap, mb = some nb ∧ w'.heap[nb]? = some (.cells cur e (0, 0)) ∧ (w.heap.size ≤ nb ∨ Held E hp kills nb) ∧ ¬ F nb ∧ cur.size = cap * size ∧ cap ≤ maxLen ∧ rows.length ≤ cap ∧
      ∀ (i j : Nat) (row : List V) (x : V), rows[i]? = some row → row[j]? = some x → ∃ u, cur[i * size + j]? = some u ∧ Rep w F x u)
    (hF : ∀ y, F y → (deep = false ∧ G y) ∨ Held E hp kills y) (hFW : ∀ y, F y → ¬ W y) :
    ∃ E' G', HpInv w0 U A E' G' (upd (kill hp kills) b (some (arrOf e size deep rows))) w' ∧ Ext B E G hp w E' G' (upd (kill hp kills) b (some (arrOf e size deep rows))) w' ∧ E'.m b = mb := by
  obtain ⟨i1, e1⟩ := hI.dropL (B := B) kills
  have hw1 := hw.kill kills
  have hHlt : ∀ y, Held E hp kills y → y < w.heap.size := fun y hy => (hI.freedL hy).1
  have hFlt : ∀ y, F y → y < w.heap.size := fun y hy => (hF y hy).elim (fun h => (hI.g1 y h.2).1) (hHlt y)
  have hFsame : Same F w w' := fun y hy => hf.block y (hFlt y hy) (hFW y hy)
  have hnbfree : ∀ nb, mb = some nb → Free w0 U E (kill hp kills) G w' nb ∧ ¬ F nb := by
    intro nb hnb
    rcases hmb with ⟨h1, _⟩ | ⟨nb', cur, cap, h1, h2, h3, h4, _⟩
    · rw [hnb] at h1; cases h1
    · rw [hnb] at h1; cases h1
      refine ⟨?_, h4⟩
      rcases h3 with h3 | h3
      · exact i1.new_free hf h3 (heap_lt h2)
      · exact (hI.freedL h3).grow hf.size
  have hHfree : ∀ y, Held E hp kills y → Free w0 U E (kill hp kills) G w y := fun y hy => hI.freedL hy
  cases hd : deep with
  | true =>
    subst hd
    have hFH : ∀ y, F y → Held E hp kills y := fun y hy => (hF y hy).elim (fun h => by cases h.1) (fun h => h)
    obtain ⟨g1, g2⟩ := i1.add hw1 hb hf (fun y hy => ⟨(hW y hy).1, (hW y hy).2.1⟩) (fun y hy => (hW y hy).2.2) (arrOf e size true rows) mb F
      (fun nb hnb => ⟨(hnbfree nb hnb).1, (hnbfree nb hnb).2⟩) (fun y hy => (hHfree y (hFH y hy)).grow hf.size) (by
      unfold BlkRel arrOf
      rcases hmb with ⟨h1, h2⟩ | ⟨nb, cur, cap, h1, h2, h3, h4, h5, h6, h7, h8⟩
      · exact .inl ⟨h2, by simp [upd, h1]⟩
      · refine .inr ⟨nb, cur, cap, by simp [upd, h1], h2, hsz, h5, h6, h7, hrows, fun i j row x hi hj => ?_⟩
        obtain ⟨u, hu, hr⟩ := h8 i j row x hi hj
        refine ⟨u, hu, hr.same hFsame fun y hy => ?_⟩
        simpa only [if_true, upd] using hy)
    exact ⟨_, _, g1, e1.trans g2 fun _ h => h, by simp [upd]⟩
  | false =>
    subst hd
    obtain ⟨i2, e2⟩ := i1.grow (B := B) (G' := fun y => G y ∨ F y) (Fr.refl (fun _ => False) w) Loose.none (fun _ h => h.elim) (fun y hy => .inl hy) (fun y hy => by
      rcases hy with hg | hy
      · exact .inl hg
      · rcases hF y hy with h | h
        · exact .inl h.2
        · exact .inr (hHfree y h))
    obtain ⟨g1, g2⟩ := i2.add hw1 hb hf (fun y hy => ⟨fun hg => hg.elim (hW y hy).1 (fun h => hFW y h hy), (hW y hy).2.1⟩) (fun y hy => (hW y hy).2.2) (arrOf e size false rows) mb (fun _ => False)
      (fun nb hnb => by
        obtain ⟨⟨f1, f2, f3, f4⟩, f5⟩ := hnbfree nb hnb
        exact ⟨⟨f1, fun hg => hg.elim f2 f5, f3, f4⟩, fun h => h⟩) (fun y hy => hy.elim) (by
      unfold BlkRel arrOf
      rcases hmb with ⟨h1, h2⟩ | ⟨nb, cur, cap, h1, h2, h3, h4, h5, h6, h7, h8⟩
      · exact .inl ⟨h2, by simp [upd, h1]⟩
      · refine .inr ⟨nb, cur, cap, by simp [upd, h1], h2, hsz, h5, h6, h7, hrows, fun i j row x hi hj => ?_⟩
        obtain ⟨u, hu, hr⟩ := h8 i j row x hi hj
        exact ⟨u, hu, hr.same hFsame fun y hy => .inr hy⟩)
    exact ⟨_, _, g1, (e1.trans e2 fun _ h => h).trans g2 fun _ h => h, by simp [upd]⟩

theorem kill_append (hp : Hp) : ∀ (l : List Nat), kill hp l = kill hp l := fun _ => rfl

/-- The parts of a literal, laid one after the other. -/
theorem fillParts (hI : HpInv w0 U A E G hp w) (hρ : ∀ x, VR2 w E hp G (ρ x) (ρr x)) {size : Nat} (hs : 0 < size) : ∀ (parts : List (Nat × Operand)) (n : Nat) (rows : List (List V)) (kills : List Nat) (deep : Bool) (u : Array Value),
    closeParts hp ρ size n parts = some (rows, kills, deep) → u.size = (n + parts.length) * size →
    rows.length = parts.length ∧ (∀ (i : Nat) (row : List V), rows[i]? = some row → row.length = size) ∧
    ∃ u', Instr.fill (fun i => some (i * size, size)) u (parts.map fun p => (p.1, ρr p.2)) = some u' ∧ u'.size = u.size ∧ (∀ q, q < n * size → u'[q]? = u[q]?) ∧
      ∀ (i j : Nat) (row : List V) (x : V), rows[i]? = some row → row[j]? = some x → ∃ v, u'[(n + i) * size + j]? = some v ∧ Rep w (fun y => (deep = false ∧ G y) ∨ Held E hp kills y) x v
  | [], n, rows, kills, deep, u, h, hu => by
    simp only [closeParts, Option.some.injEq, Prod.mk.injEq] at h
    obtain ⟨rfl, rfl, rfl⟩ := h
    exact ⟨rfl, fun i row h => by simp at h, u, rfl, rfl, fun _ _ => rfl, fun i j row x h => by simp at h⟩
  | (k, x) :: l, n, rows, kills, deep, u, h, hu => by
    simp only [closeParts] at h
    split at h
    · rename_i hc
      obtain ⟨hkn, hlen⟩ := hc
      subst hkn
      split at h
      · rename_i row a d rows' as ds h1 h2
        cases h
        obtain ⟨hok, hcl, _⟩ := closed_all h1
        have hcells := flat_cells (hρ x) hok
        obtain ⟨hrel, _⟩ := closeCells_rel hI h1 hcells
        have hsz : (ρr x).cells.size = size := by have := hcells.length; simp at this; omega
        simp only [List.length_cons] at hu
        have hbig : k * size + size ≤ u.size := by
          have := Nat.mul_le_mul_right size (show k + 1 ≤ k + (l.length + 1) by omega)
          rw [hu]; rwa [Nat.add_mul, Nat.one_mul] at this
        have hset := foldl_set (ρr x).cells.toList 0 (k * size) u (by simp; omega)
        have hset' : ((ρr x).cells.zipIdx.foldl (fun cs (p : Value × Nat) => cs.setIfInBounds (k * size + p.2) p.1) u).toList = u.toList.take (k * size) ++ (ρr x).cells.toList ++ u.toList.drop (k * size + size) := by
          rw [← Array.foldl_toList]
          simp only [Array.toList_zipIdx, Nat.add_zero, Array.length_toList] at hset ⊢
          rw [hset, hsz]
        generalize hu1 : (ρr x).cells.zipIdx.foldl (fun cs (p : Value × Nat) => cs.setIfInBounds (k * size + p.2) p.1) u = u1 at hset'
        have hu1s : u1.size = u.size := by
          have := congrArg List.length hset'
          simp at this
          omega
        obtain ⟨r1, r2, u', r3, r4, r5, r6⟩ := fillParts hI hρ hs l (k + 1) rows' as ds u1 h2 (by rw [hu1s, hu]; congr 1; omega)
        refine ⟨by simp [r1], ?_, u', ?_, r4.trans hu1s, ?_, ?_⟩
        · intro i rw' hi
          cases i with
          | zero => simp at hi; subst hi; omega
          | succ i => exact r2 i rw' (by simpa using hi)
        · simp only [List.map_cons, Instr.fill]
          rw [if_neg (by simp only [hsz, ne_eq, not_true_eq_false, decide_false, Bool.false_or, decide_eq_true_eq]; omega)]
          rw [hu1]
          exact r3
        · intro q hq
          have hq' : q < (k + 1) * size := by rw [Nat.add_mul]; omega
          rw [r5 q hq']
          have : u1.toList[q]? = u.toList[q]? := by
            rw [hset', List.getElem?_append, List.getElem?_append]
            simp only [List.length_append, List.length_take, Array.length_toList]
            rw [if_pos (by omega), if_pos (by omega), List.getElem?_take, if_pos hq]
          simpa using this
        · intro i j rw' p hi hj
          have hm : ∀ l', (∀ q ∈ l', q ∈ a ++ as) → ∀ y, Held E hp l' y → Held E hp (a ++ as) y := fun l' hl' y ⟨id, e1, e2⟩ => ⟨id, hl' id e1, e2⟩
          cases i with
          | zero =>
            simp at hi
            subst hi
            obtain ⟨v, hv, hr⟩ := hrel.get j p hj
            have hjs : j < size := by
              have := (List.getElem?_eq_some_iff.1 hj).1; omega
            refine ⟨v, ?_, hr.mono fun y hy => ?_⟩
            · rw [Nat.add_zero, r5 _ (by rw [Nat.add_mul]; omega)]
              have : u1.toList[k * size + j]? = some v := by
                rw [hset', List.getElem?_append, List.getElem?_append]
                simp only [List.length_append, List.length_take, Array.length_toList]
                rw [if_pos (by omega), if_neg (by omega)]
                rw [show k * size + j - min (k * size) u.size = j by omega]
                exact hv
              simpa using this
            · rcases hy with ⟨hd, hg⟩ | hh
              · exact .inl ⟨by simp [hd], hg⟩
              · exact .inr (hm a (fun q hq => by simp [hq]) y hh)
          | succ i =>
            obtain ⟨v, hv, hr⟩ := r6 i j rw' p (by simpa using hi) hj
            refine ⟨v, by rw [show k + (i + 1) = k + 1 + i by omega]; exact hv, hr.mono fun y hy => ?_⟩
            rcases hy with ⟨hd, hg⟩ | hh
            · exact .inl ⟨by simp [hd], hg⟩
            · exact .inr (hm as (fun q hq => by simp [hq]) y hh)
      · cases h
    · cases h

theorem wfout_arr {b e n size : Nat} {deep : Bool} {rows : List (List V)} {kills : List Nat} {lo : Nat} (hw : HpWf B hp) : WfOut B b (.ar b lo n) (upd (kill hp kills) b (some (arrOf e size deep rows))) := by
  refine ⟨fun id hid => ?_, fun j kj hj => ?_⟩
  · simp [refs2, refs1, refs0] at hid; subst hid; exact .inr ⟨Nat.le_refl _, by omega⟩
  · by_cases hji : j = b
    · subst hji
      simp only [upd, if_true, Option.some.injEq] at hj
      subst hj
      exact ⟨.inr ⟨Nat.le_refl _, by omega⟩, fun q hq => by simp [refsB, arrOf] at hq⟩
    · simp only [upd, if_neg hji] at hj
      exact ⟨.inl ((hw.kill kills) j kj hj).1, fun q hq => .inl (((hw.kill kills) j kj hj).2 q hq)⟩

theorem caseO_some' {α : Type} {x : Option α} {F : α → Prop} (h : caseO x F) : ∃ y, x = some y ∧ F y := by
  cases x with
  | none => exact h.elim
  | some y => exact ⟨y, rfl, h⟩

theorem build_sound {t : TypeId} {len : Nat} {parts : Array (Nat × Operand)} {b : Nat} {o : Oper} {a : Act} {K : Cont} (c : MCtx P w0 U A B E G hp w ρ a.eval b) (ho : o.op = .buildSlice t len parts) (h : weBuildSlice P t len parts.toList ρ hp b K) :
    ∃ x hp' cls, K x hp' cls ∧ StepsTo P w0 U A B E G hp w o a x hp' ∧ WfOut B b x hp' := by
  unfold weBuildSlice at h
  obtain ⟨e, he, h⟩ := caseO_some' h
  obtain ⟨d, hd, h⟩ := caseO_some' h
  cases len with
  | zero =>
    obtain ⟨hp0, hK⟩ := h
    obtain ⟨g1, g2⟩ := c.inv.grow (B := B) (G' := G) (Fr0.alloc w (.cells #[] e)) Loose.none (fun _ h => h.elim) (fun _ h => h) (fun _ h => .inl h)
    refine ⟨_, _, _, hK, ?_, fun id hid => by simp [refs2, refs1, refs0] at hid, c.wf.more b⟩
    have hpa : parts = #[] := by apply Array.ext'; simpa using hp0
    refine MGives.steps (mgives_of ⟨_, fun o ho => by simp only [execOp, ho] <;> rfl, .slice (some ⟨w.heap.size, 0, none⟩) 0 0, _, E, G, ?_, g1, Rep.em _, g2⟩) ho
    subst hpa
    unfold Instr.buildSlice
    simp only [Sem.run_bind, run_underlying (elem_under he), Result.andThen_ok, run_size hd, Nat.zero_mul, if_true]
    rw [if_neg (by omega)]
    have hr0 : ∀ z : Array Value, (Array.range 0).map (fun x => z[x % z.size]!) = #[] := fun z => by simp [Array.range]
    simp only [Sem.run_bind, Sem.run_pure, Result.andThen_ok, List.map_toArray, List.map_nil, hr0, Instr.fill]
    rfl
  | succ len =>
    obtain ⟨⟨rows, kills, deep⟩, hz, hlen, hbig, hnd, hK⟩ := caseO_some' h
    simp only at hlen hnd hK
    have hpos := tyOf_pos hd
    obtain ⟨z, hzr, hzl, hzs⟩ := zero_run (w := w) (E := E) (hp := hp) (G := G) hd
    obtain ⟨r1, r2, u', r3, r4, r5, r6⟩ := fillParts c.inv c.rel hpos parts.toList 0 rows kills deep ((Array.range ((len + 1) * d.size)).map fun i => z.cells[i % z.cells.size]!) hz (by
      simp only [Array.size_map, Array.size_range, Nat.zero_add]
      have : parts.toList.length = rows.length := by
        have := (fillParts c.inv c.rel hpos parts.toList 0 rows kills deep ((Array.range (parts.toList.length * d.size)).map fun i => z.cells[i % z.cells.size]!) hz (by simp)).1
        exact this.symm
      rw [this, hlen])
    have hus : u'.size = (len + 1) * d.size := by rw [r4]; simp
    have hfr := Fr0.alloc w (.cells u' e)
    obtain ⟨E', G', g1, g2, g3⟩ := newArr (F := fun y => (deep = false ∧ G y) ∨ Held E hp kills y) (mb := some w.heap.size) (e := e) (deep := deep) c.inv c.wf (c.new 0 (by omega)) (kills := kills) hfr (fun y h => h.elim) hpos r2
      (.inr ⟨w.heap.size, u', len + 1, rfl, alloc_new w _, .inl (Nat.le_refl _), fun hh => by
        rcases hh with ⟨_, hg⟩ | hh
        · have := (c.inv.g1 _ hg).1; omega
        · have := (c.inv.freedL hh).1; omega, hus, by simp only [maxLen]; have := Nat.le_mul_of_pos_right (len + 1) hpos; omega, by omega, fun i j row x hi hj => by
        have := r6 i j row x hi hj
        simpa using this⟩) (fun y h => h) (fun y _ h => h)
    refine ⟨_, _, _, hK, ?_, wfout_arr c.wf⟩
    refine MGives.steps (mgives_of ⟨_, fun o ho => by simp only [execOp, ho] <;> rfl, .slice (some ⟨w.heap.size, 0, none⟩) (len + 1) (len + 1), _, E', G', ?_, g1, ?_, g2⟩) ho
    · unfold Instr.buildSlice
      simp only [Sem.run_bind, run_underlying (elem_under he), Result.andThen_ok, run_size hd]
      rw [if_neg (by omega)]
      have hne : ¬ (len + 1) * d.size = 0 := Nat.ne_of_gt (Nat.mul_pos (Nat.succ_pos len) hpos)
      simp only [Sem.run_bind, hne, if_false, hzr, Result.andThen_ok, Sem.run_pure]
      have hpm : (parts.map fun (x : Nat × Operand) => match x with | (i, x) => (i, a.eval x)).toList = parts.toList.map fun p => (p.1, a.eval p.2) := by simp
      rw [hpm, r3]
      rfl
    · refine ⟨_, _, rfl, fun k hk => ?_⟩
      simp only [upd, if_true, Option.some.injEq] at hk
      subst hk
      refine ⟨by simp [arrOf], by simp [arrOf, hlen], .inr ⟨w.heap.size, u', _, _, g3, by simp, Nat.le_refl _, alloc_new w _, by simp [arrOf, hus]⟩⟩

end Go.Proofs.Ytcmihlhmeonmfaa.Ev
