/- The evaluator, part 2: Ev13 Ev14 Ev15 Ev16 Ev17 Ev18 Ev19 Ev20 Ev21 Ev22 EvN Ev24 Ev27 Ev28 Ev29 Ev32. -/
import Derived.Test.YtnhibkgoinnmcaaDoorEvMa

/-! #### Ev13 -/
section
/- An append: what it does in memory is what the evaluator says. -/
namespace Go.Proofs.YtnhibkgoinnmcaaDoor.Ev
open Go
set_option linter.unusedVariables false
set_option linter.unusedSimpArgs false

variable {P : Program} {w w' w0 : World} {E E' : Env} {hp hp' : Hp} {G G' U A W F S : Nat → Prop} {B : Nat → Prop} {ρ : Operand → V} {ρr : Operand → Value}

theorem run_append_zero {t ty e : TypeId} {i : TypeInfo} (ht : P.underlying t = some (.slice e)) (hi : P.info? e = some i) (a xa : Option Addr) (n cap xc : Nat) (hn : n ≤ cap) :
    (Builtin.append_ #[t, t] ty #[.slice a n cap, .slice xa 0 xc]).run P w = .ok (.slice a n cap) w := by
  have hf : (Builtin.firstCells i.size 0 (.slice xa 0 xc)).run P w = .ok #[] w := by
    cases xa with
    | none => rfl
    | some x => simp [Builtin.firstCells, loadCells, loadCellsFrom]
  cases a with
  | none => simp [Builtin.append_, run_underlying ht, sizeOf, typeInfo, hi, Builtin.lenOf, hn, hf]
  | some a => simp [Builtin.append_, run_underlying ht, sizeOf, typeInfo, hi, Builtin.lenOf, hn, hf, storeCells]

theorem append_exec {s x : Operand} {t : TypeId} {o : Oper} {a : Act} {y : Value} (ho : o.op = .call { callee := .builtin .append, args := #[s, x], argTypes := #[t, t] })
    (h : (Builtin.append_ #[t, t] o.type #[a.eval s, a.eval x]).run P w = .ok y w') : (execOp a.eval o).run P w = .ok (.value y) w' := by
  simp only [execOp, ho, resolve, invoke, builtin, Sem.run_bind, Sem.run_pure, Result.andThen_ok, List.map_toArray, List.map_cons, List.map_nil, h]

theorem steps_value {o : Oper} {a : Act} {x : V} {y : Value} {w' : World} {E' : Env} {G' : Nat → Prop} (hr : (execOp a.eval o).run P w = .ok (.value y) w') (h : HpInv w0 U A E' G' hp' w') (hv : VR2 w' E' hp' G' x y) (he : Ext B E G hp w E' G' hp' w') : StepsTo P w0 U A B E G hp w o a x hp' := by
  intro next Q hn
  unfold Oper.wp
  rw [hr]
  exact hn y w' E' G' h hv he

theorem drew_heap (w : World) : w.drew.heap = w.heap := rfl

theorem fr_grow (w : World) (o : Obj) : Fr0 w (w.drew.alloc o) := (Fr0.drew w).trans (Fr0.alloc w.drew o)

theorem grow_new (w : World) (o : Obj) : (w.drew.alloc o).heap[w.heap.size]? = some o := alloc_new w.drew o

/-- The cells of a grown row. -/
theorem grown_get {olds news : List Value} {z : Array Value} {m : Nat} {q : Nat} {u : Value} (h : (olds ++ news)[q]? = some u) : (olds.toArray ++ news.toArray ++ Builtin.zeroCells z m)[q]? = some u := by
  have hlt : q < (olds ++ news).length := (List.getElem?_eq_some_iff.1 h).1
  rw [Array.getElem?_append]
  rw [if_pos (by simpa using hlt)]
  have : olds.toArray ++ news.toArray = (olds ++ news).toArray := by simp
  rw [this]
  simpa using h

theorem rows_append {k1 rows : List (List V)} {n size : Nat} (hn : k1.length = n) {olds news : List Value} (ho : olds.length = n * size) {Q : V → Value → Prop}
    (h1 : ∀ (i j : Nat) (row : List V) (x : V), k1[i]? = some row → row[j]? = some x → ∃ u, olds[i * size + j]? = some u ∧ Q x u)
    (h2 : ∀ (i j : Nat) (row : List V) (x : V), rows[i]? = some row → row[j]? = some x → ∃ u, news[i * size + j]? = some u ∧ Q x u)
    (hl : ∀ (i : Nat) (row : List V), (k1 ++ rows)[i]? = some row → row.length = size) :
    ∀ (i j : Nat) (row : List V) (x : V), (k1 ++ rows)[i]? = some row → row[j]? = some x → ∃ u, (olds ++ news)[i * size + j]? = some u ∧ Q x u := by
  intro i j row x hi hj
  have hjs : j < size := by rw [← hl i row hi]; exact (List.getElem?_eq_some_iff.1 hj).1
  rw [List.getElem?_append] at hi
  split at hi
  · rename_i hlt
    obtain ⟨u, hu, hq⟩ := h1 i j row x hi hj
    refine ⟨u, ?_, hq⟩
    rw [List.getElem?_append_left (List.getElem?_eq_some_iff.1 hu).1]
    exact hu
  · rename_i hge
    obtain ⟨u, hu, hq⟩ := h2 _ j row x hi hj
    refine ⟨u, ?_, hq⟩
    have hle : n * size ≤ i * size := Nat.mul_le_mul_right _ (by omega)
    rw [List.getElem?_append_right (by omega)]
    rw [← hu]
    congr 1
    rw [ho, hn, Nat.sub_mul]
    omega

/-- The row of a slice of ours from its beginning, in memory: either there is none, or it lies in a block. -/
theorem own_at (hI : HpInv w0 U A E G hp w) {id n : Nat} {k : Blk} {y : Value} (hy : VR2 w E hp G (.ar id 0 n) y) (hk : hp id = some k) (hkk : k.kind = .arr) :
    ∃ a cap, y = .slice a n cap ∧ n ≤ cap ∧ n ≤ k.rows.length ∧ ((n = 0 ∧ cap = 0) ∨ ∃ b cur, a = some ⟨b, 0, none⟩ ∧ E.m id = some b ∧ w.heap[b]? = some (.cells cur k.ty (0, 0)) ∧ cap ≤ maxLen ∧ cur.size = cap * k.size ∧
      ∀ (i j : Nat) (row : List V) (x : V), (k.rows.take n)[i]? = some row → row[j]? = some x → ∃ u, cur[i * k.size + j]? = some u ∧ Rep w (if k.deep = true then E.N id else G) x u) ∧
      (∀ (i : Nat) (row : List V), k.rows[i]? = some row → row.length = k.size ∨ E.m id = none) := by
  obtain ⟨a, cap, hy, hrel⟩ := hy
  obtain ⟨h1, h2, h3⟩ := hrel k hk
  have hb := hI.blk id k hk
  unfold BlkRel at hb
  simp only [hkk] at hb
  have hncap : n ≤ cap := by rcases h3 with ⟨q1, q2⟩ | ⟨_, _, _, _, _, _, q3, _⟩ <;> omega
  rcases hb with ⟨q1, q2⟩ | ⟨b', cur', cap', q1, q2, q3, q4, q5, q6, q7, q8⟩
  · refine ⟨a, cap, hy, hncap, by omega, ?_, fun i row hi => .inr q2⟩
    rcases h3 with h3 | ⟨b, cur, ty, fz, hm, _⟩
    · exact .inl h3
    · rw [q2] at hm; cases hm
  · refine ⟨a, cap, hy, hncap, by omega, ?_, fun i row hi => .inl (q7 i row hi)⟩
    rcases h3 with h3 | ⟨b, cur, ty, fz, hm, ha, hn, hh, hs⟩
    · exact .inl h3
    · rw [hm] at q1
      cases q1
      rw [hh] at q2
      cases q2
      have hcc : cap' = cap := by
        have : (0 + cap) * k.size = cap' * k.size := by rw [← hs, q4]
        have := Nat.eq_of_mul_eq_mul_right q3 this
        omega
      subst hcc
      refine .inr ⟨b', cur', by rw [ha]; simp, hm, hh, q5, q4, fun i j row x hi hj => ?_⟩
      have hi' : k.rows[i]? = some row := by
        rw [List.getElem?_take] at hi
        split at hi
        · exact hi
        · cases hi
      obtain ⟨u, hu, hr⟩ := q8 i j row x hi' hj
      refine ⟨u, hu, ?_⟩
      cases hd : k.deep <;> simp [hd] at hr ⊢ <;> exact hr

theorem append_new {s x : Operand} {t e : TypeId} {d : TyD} {b : Nat} {o : Oper} {a : Act} (c : MCtx P w0 U A B E G hp w ρ a.eval b) (ho : o.op = .call { callee := .builtin .append, args := #[s, x], argTypes := #[t, t] })
    (he : (tyOf P t).bind (·.elem) = some e) (hd : tyOf P e = some d) {rows : List (List V)} {kills : List Nat} {deep : Bool} (hsrc : SrcRel w E hp G d.size rows kills deep (a.eval x))
    (hb1 : rows.length * d.bytes ≤ maxBytes) (hb2 : rows.length * d.size ≤ maxBytes) (hrl : ∀ r ∈ rows, r.length = d.size) {sa : Option Addr} (hs : a.eval s = .slice sa 0 0) {extra : List Nat} :
    StepsTo P w0 U A B E G hp w o a (.ar b 0 rows.length) (upd (kill hp (extra ++ kills)) b (some (arrOf e d.size deep rows))) := by
  obtain ⟨i, u, z, hi, hu, hz, hs0, hzs, hone, hdd⟩ := tyOf_some hd
  have hds : d.size = i.size := by rw [hdd]
  have hdb : d.bytes = i.bytes := by rw [hdd]
  have hpos := tyOf_pos hd
  have ht := elem_under he
  obtain ⟨xa, xc, hx, hor⟩ := hsrc.rel hrl
  have hmono : ∀ y, ((deep = false ∧ G y) ∨ Held E hp kills y) → (deep = false ∧ G y) ∨ Held E hp (extra ++ kills) y := fun y hy => hy.imp (fun h => h) fun ⟨id, h1, h2⟩ => ⟨id, by simp [h1], h2⟩
  have hrows : ∀ (i : Nat) (row : List V), rows[i]? = some row → row.length = d.size := fun i row hi => hrl row (List.mem_of_getElem? hi)
  rcases hor with h0 | ⟨ad, news, hxa, hnl, hnc, hn1, hnr⟩
  · subst h0
    obtain ⟨E', G', g1, g2, g3⟩ := newArr (F := fun _ => False) (mb := none) (e := e) (deep := deep) (rows := []) c.inv c.wf (c.new 0 (by omega)) (kills := extra ++ kills) (Fr.refl (fun _ => False) w) (fun y h => h.elim) hpos (fun i row hi => by simp at hi)
      (.inl ⟨rfl, rfl⟩) (fun y h => h.elim) (fun y h => h.elim)
    refine steps_value (append_exec ho (by rw [hs, hx]; exact run_append_zero ht hi sa xa 0 0 xc (Nat.le_refl _))) g1 ?_ g2
    refine ⟨_, _, rfl, fun k hk => ?_⟩
    simp only [upd, if_true, Option.some.injEq] at hk
    subst hk
    exact ⟨by simp [arrOf], by simp [arrOf], .inl ⟨rfl, rfl⟩⟩
  · by_cases hm0 : rows.length = 0
    · have h0 : rows = [] := List.eq_nil_of_length_eq_zero hm0
      subst h0
      obtain ⟨E', G', g1, g2, g3⟩ := newArr (F := fun _ => False) (mb := none) (e := e) (deep := deep) (rows := []) c.inv c.wf (c.new 0 (by omega)) (kills := extra ++ kills) (Fr.refl (fun _ => False) w) (fun y h => h.elim) hpos (fun i row hi => by simp at hi)
        (.inl ⟨rfl, rfl⟩) (fun y h => h.elim) (fun y h => h.elim)
      refine steps_value (append_exec ho (by rw [hs, hx]; exact run_append_zero ht hi sa xa 0 0 xc (Nat.le_refl _))) g1 ?_ g2
      refine ⟨_, _, rfl, fun k hk => ?_⟩
      simp only [upd, if_true, Option.some.injEq] at hk
      subst hk
      exact ⟨by simp [arrOf], by simp [arrOf], .inl ⟨rfl, rfl⟩⟩
    · have hmle : rows.length ≤ rows.length * d.size := Nat.le_mul_of_pos_right _ hpos
      have hm63 : rows.length ≤ maxLen := by unfold maxBytes at hb2; simp only [maxLen]; omega
      have hgc := grownCap_ge w rows.length 0 e
      have hgm := grownCap_le_maxLen w rows.length 0 e hm63
      have hrun : (Builtin.append_ #[t, t] o.type #[.slice sa 0 0, .slice xa rows.length xc]).run P w =
          .ok (.slice (some ⟨w.heap.size, 0, none⟩) rows.length (grownCap w rows.length 0 e)) (w.drew.alloc (.cells (([] : List Value).toArray ++ news.toArray ++ Builtin.zeroCells z.cells (grownCap w rows.length 0 e - rows.length)) e)) := by
        subst hxa
        cases sa with
        | none =>
          have := run_append_nil (P := P) w t o.type e i z ht hi hz ad rows.length xc news (by rw [← hds]; exact hnl) hnc (by omega) (by simp only [maxLen] at hm63; omega) (by rw [← hdb]; unfold maxBytes at hb1; omega)
          simpa using this
        | some b0 =>
          have := run_append_grow (P := P) w t o.type e i z ht hi hz b0 0 0 [] (by simp) (fun j v h => by simp at h) ad rows.length xc news (by rw [← hds]; exact hnl) hnc (by omega) (by simp only [maxLen] at hm63; omega) (growslice_fits (by omega) (by rw [← hdb, Nat.zero_add]; unfold maxBytes at hb1; omega))
          simpa using this
      obtain ⟨E', G', g1, g2, g3⟩ := newArr (F := fun y => (deep = false ∧ G y) ∨ Held E hp kills y) (mb := some w.heap.size) (e := e) (deep := deep) (rows := rows) c.inv c.wf (c.new 0 (by omega)) (kills := extra ++ kills) (fr_grow w (.cells (([] : List Value).toArray ++ news.toArray ++ Builtin.zeroCells z.cells (grownCap w rows.length 0 e - rows.length)) e)) (fun y h => h.elim) hpos hrows
        (.inr ⟨w.heap.size, ([] : List Value).toArray ++ news.toArray ++ Builtin.zeroCells z.cells (grownCap w rows.length 0 e - rows.length), grownCap w rows.length 0 e, rfl, grow_new w _, .inl (Nat.le_refl _), fun hh => by
          rcases hh with ⟨_, hg⟩ | hh
          · have := (c.inv.g1 _ hg).1; omega
          · have := (c.inv.freedL hh).1; omega, by
          simp only [Array.size_append, List.size_toArray, List.length_nil, size_zeroCells, hzs, hnl, hds]
          rw [Nat.zero_add, ← Nat.add_mul]; congr 1; omega, hgm, hgc, fun i' j row x hi' hj => by
          obtain ⟨u, hu, hr⟩ := hnr i' j row x hi' hj
          exact ⟨u, grown_get (by simpa using hu), hr⟩⟩) hmono (fun y _ h => h)
      refine steps_value (append_exec ho (by rw [hs, hx]; exact hrun)) g1 ?_ g2
      refine ⟨_, _, rfl, fun k hk => ?_⟩
      simp only [upd, if_true, Option.some.injEq] at hk
      subst hk
      refine ⟨by simp [arrOf], by simp [arrOf], .inr ⟨w.heap.size, _, _, _, g3, by simp, hgc, grow_new w _, ?_⟩⟩
      simp only [Array.size_append, List.size_toArray, List.length_nil, size_zeroCells, hzs, hnl, hds, arrOf]
      rw [Nat.zero_add, ← Nat.add_mul]; congr 1; omega

end Go.Proofs.YtnhibkgoinnmcaaDoor.Ev
end

/-! #### Ev14 -/
section
/- An append to a row of ours: what it does in memory is what the evaluator says. -/
namespace Go.Proofs.YtnhibkgoinnmcaaDoor.Ev
open Go
set_option linter.unusedVariables false
set_option linter.unusedSimpArgs false

variable {P : Program} {w w' w0 : World} {E E' : Env} {hp hp' : Hp} {G G' U A W F S : Nat → Prop} {B : Nat → Prop} {ρ : Operand → V} {ρr : Operand → Value}

theorem append_own {s x : Operand} {t : TypeId} {d : TyD} {b : Nat} {o : Oper} {a : Act} (c : MCtx P w0 U A B E G hp w ρ a.eval b) (ho : o.op = .call { callee := .builtin .append, args := #[s, x], argTypes := #[t, t] })
    {id n : Nat} {k : Blk} (hs : ρ s = .ar id 0 n) (hk : hp id = some k) (hkk : k.kind = .arr) (hks : k.size = d.size)
    (he : (tyOf P t).bind (·.elem) = some k.ty) (hd : tyOf P k.ty = some d) {rows : List (List V)} {kills : List Nat} {deep : Bool} (hsrc : SrcRel w E hp G d.size rows kills deep (a.eval x))
    (hb1 : (n + rows.length) * d.bytes ≤ maxBytes) (hb2 : (n + rows.length) * d.size ≤ maxBytes) (hrl : ∀ r ∈ rows, r.length = d.size) (hnd : nodupB (id :: kills) = true) :
    StepsTo P w0 U A B E G hp w o a (.ar b 0 (n + rows.length)) (upd (kill hp (id :: kills)) b (some (arrOf k.ty d.size (k.deep && deep) (k.rows.take n ++ rows)))) := by
  obtain ⟨i, u, z, hi, hu, hz, hs0, hzs, hone, hdd⟩ := tyOf_some hd
  have hds : d.size = i.size := by rw [hdd]
  have hdb : d.bytes = i.bytes := by rw [hdd]
  have hpos := tyOf_pos hd
  have ht := elem_under he
  have hlv : liveB k = true := by simp [liveB, hkk]
  have hidk : id ∉ kills := nodupB_cons hnd
  have hsv := c.rel s
  rw [hs] at hsv
  obtain ⟨sa, cap, hsy, hncap, hnrows, hown, hlens⟩ := own_at c.inv hsv hk hkk
  rcases hown with ⟨hn0, hc0⟩ | ⟨nb, cur, hsa, hm, hh, hcm, hcs, hcells⟩
  · -- nothing lies there
    subst hn0
    subst hc0
    have hb1' : rows.length * d.bytes ≤ maxBytes := by simpa using hb1
    have hb2' : rows.length * d.size ≤ maxBytes := by simpa using hb2
    have hsrc' : SrcRel w E hp G d.size rows kills (k.deep && deep) (a.eval x) := ⟨hsrc.ids, fun h => by
      obtain ⟨xa, xc, h1, h2⟩ := hsrc.rel h
      refine ⟨xa, xc, h1, h2.imp (fun h => h) ?_⟩
      rintro ⟨ad, news, q1, q2, q3, q4, q5⟩
      refine ⟨ad, news, q1, q2, q3, q4, fun i j row x hi hj => ?_⟩
      obtain ⟨u, hu, hr⟩ := q5 i j row x hi hj
      exact ⟨u, hu, hr.mono fun y hy => hy.imp (fun h => ⟨by simp [h.1], h.2⟩) (fun h => h)⟩⟩
    have := append_new (extra := [id]) c ho he hd hsrc' hb1' hb2' hrl hsy
    simpa using this
  · obtain ⟨xa, xc, hx, hor⟩ := hsrc.rel hrl
    have hHeld : ∀ y, Held E hp kills y → Held E hp (id :: kills) y := fun y ⟨j, h1, h2⟩ => ⟨j, by simp [h1], h2⟩
    have hNheld : ∀ y, E.N id y → Held E hp (id :: kills) y := fun y hy => ⟨id, by simp, k, hk, hlv, .inr hy⟩
    have hnbheld : Held E hp (id :: kills) nb := ⟨id, by simp, k, hk, hlv, .inl hm⟩
    have hNnb : ∀ y, E.N id y → y ≠ nb := fun y hy he => c.inv.self id k nb hk hlv hm (he ▸ hy)
    have hGnb : ∀ y, G y → y ≠ nb := fun y hg he => c.inv.g2 y hg (he ▸ ⟨id, k, hk, hlv, .inl hm⟩)
    have hHnb : ∀ y, Held E hp kills y → y ≠ nb := by
      rintro y ⟨j, hj, kj, hkj, hlj, hoj⟩ he
      subst he
      have := c.inv.dis j kj id k hkj hlj hk hlv y hoj (.inl hm)
      exact hidk (this ▸ hj)
    let F : Nat → Prop := fun y => (((k.deep && deep) = false ∧ G y) ∨ Held E hp (id :: kills) y) ∧ y ≠ nb
    have hold : ∀ (i j : Nat) (row : List V) (x : V), (k.rows.take n)[i]? = some row → row[j]? = some x → ∃ u, cur[i * d.size + j]? = some u ∧ Rep w F x u := by
      intro i j row x hi hj
      obtain ⟨u, hu, hr⟩ := hcells i j row x hi hj
      rw [← hks]
      refine ⟨u, hu, hr.mono fun y hy => ?_⟩
      cases hkd : k.deep with
      | true => rw [hkd, if_pos rfl] at hy; exact ⟨.inr (hNheld y hy), hNnb y hy⟩
      | false => rw [hkd, if_neg (by simp)] at hy; exact ⟨.inl ⟨by simp [hkd], hy⟩, hGnb y hy⟩
    have hsrcF : ∀ y, ((deep = false ∧ G y) ∨ Held E hp kills y) → F y := by
      intro y hy
      rcases hy with ⟨h1, h2⟩ | h
      · exact ⟨.inl ⟨by simp [h1], h2⟩, hGnb y h2⟩
      · exact ⟨.inr (hHeld y h), hHnb y h⟩
    have hlenall : ∀ (i : Nat) (row : List V), (k.rows.take n ++ rows)[i]? = some row → row.length = d.size := by
      intro i row hi
      rw [List.getElem?_append] at hi
      split at hi
      · rw [List.getElem?_take] at hi
        split at hi
        · rcases hlens i row hi with h | h
          · omega
          · rw [hm] at h; cases h
        · cases hi
      · exact hrl row (List.mem_of_getElem? hi)
    have htl : (k.rows.take n).length = n := by simp; omega
    have hFdef : ∀ y, F y → (((k.deep && deep) = false ∧ G y) ∨ Held E hp (id :: kills) y) := fun y hy => hy.1
    have hcap63 : n + rows.length ≤ maxLen := by
      have := Nat.le_mul_of_pos_right (n + rows.length) hpos
      unfold maxBytes at hb2; simp only [maxLen]; omega
    have hvr : ∀ (w' : World) (E' : Env) (G' : Nat → Prop) (bb : Nat) (cc : Nat) (cu : Array Value) (ty : TypeId) (fz : Nat × Nat), E'.m b = some bb → n + rows.length ≤ cc → w'.heap[bb]? = some (.cells cu ty fz) → cu.size = cc * d.size →
        VR2 w' E' (upd (kill hp (id :: kills)) b (some (arrOf k.ty d.size (k.deep && deep) (k.rows.take n ++ rows)))) G' (.ar b 0 (n + rows.length)) (.slice (some ⟨bb, 0, none⟩) (n + rows.length) cc) := by
      intro w' E' G' bb cc cu ty fz h1 h2 h3 h4
      refine ⟨_, _, rfl, fun k' hk' => ?_⟩
      simp only [upd, if_true, Option.some.injEq] at hk'
      subst hk'
      refine ⟨by simp [arrOf], by simp [arrOf, htl], .inr ⟨bb, cu, ty, fz, h1, by simp, h2, h3, by simpa [arrOf] using h4⟩⟩
    by_cases hm0 : rows.length = 0
    · have h0 : rows = [] := List.eq_nil_of_length_eq_zero hm0
      subst h0
      obtain ⟨E', G', g1, g2, g3⟩ := newArr (F := F) (mb := some nb) (e := k.ty) (size := d.size) (deep := k.deep && deep) (rows := k.rows.take n ++ []) c.inv c.wf (c.new 0 (by omega)) (kills := id :: kills) (Fr.refl (fun _ => False) w) (fun y h => h.elim) hpos hlenall
        (.inr ⟨nb, cur, cap, rfl, hh, .inr hnbheld, fun hf => hf.2 rfl, by rw [hcs, hks], hcm, by simp; omega, fun i j row x hi hj => hold i j row x (by simpa using hi) hj⟩) hFdef (fun y _ h => h)
      refine steps_value (append_exec ho (by rw [hsy, hx]; exact run_append_zero ht hi sa xa n cap xc hncap)) g1 ?_ g2
      rw [hsa]
      exact hvr w E' G' nb cap cur _ _ g3 (by simpa using hncap) hh (by rw [hcs, hks])
    · rcases hor with h0 | ⟨ad, news, hxa, hnl, hnc, hn1, hnr⟩
      · exact absurd (by rw [h0]; rfl) hm0
      have hrowsF : ∀ (i j : Nat) (row : List V) (x : V), rows[i]? = some row → row[j]? = some x → ∃ u, news[i * d.size + j]? = some u ∧ Rep w F x u := by
        intro i j row x hi hj
        obtain ⟨u, hu, hr⟩ := hnr i j row x hi hj
        exact ⟨u, hu, hr.mono hsrcF⟩
      have holds : ∀ (j : Nat) (v : Value), (cur.toList.take (n * d.size))[j]? = some v → w.cell? ((⟨nb, 0, none⟩ : Addr).add j) = some v := by
        intro j v hj
        rw [addr_add, cell_at hh]
        rw [List.getElem?_take] at hj
        split at hj
        · simpa using hj
        · cases hj
      have hnsz : n * d.size ≤ cur.size := by rw [hcs, hks]; exact Nat.mul_le_mul_right _ hncap
      have hol : (cur.toList.take (n * d.size)).length = n * d.size := by simp; omega
      have holdT : ∀ (i j : Nat) (row : List V) (x : V), (k.rows.take n)[i]? = some row → row[j]? = some x → ∃ u, (cur.toList.take (n * d.size))[i * d.size + j]? = some u ∧ Rep w F x u := by
        intro i j row x hi hj
        obtain ⟨u, hu, hr⟩ := hold i j row x hi hj
        refine ⟨u, ?_, hr⟩
        have hil : i < n := by have := (List.getElem?_eq_some_iff.1 hi).1; omega
        have hjs : j < d.size := by
          rw [← hlenall i row (by rw [List.getElem?_append_left (by omega)]; exact hi)]
          exact (List.getElem?_eq_some_iff.1 hj).1
        have : i * d.size + j < n * d.size := by
          have := Nat.mul_le_mul_right d.size (show i + 1 ≤ n by omega)
          rw [Nat.add_mul, Nat.one_mul] at this; omega
        rw [List.getElem?_take, if_pos this]
        simpa using hu
      have hall := rows_append htl hol holdT hrowsF hlenall
      subst hxa
      by_cases hroom : n + rows.length ≤ cap
      · -- in place
        have hfit : n * i.size + news.length ≤ cur.size := by
          rw [hnl, ← hds, ← Nat.add_mul, hcs, hks]; exact Nat.mul_le_mul_right _ hroom
        have hrun := run_append_room (P := P) w t o.type k.ty i ht hi nb n cap cur hh ad rows.length xc news (by rw [← hds]; exact hnl) hnc hn1 hroom hfit
        have hsize : (cur.toList.take (n * i.size) ++ news ++ cur.toList.drop (n * i.size + news.length)).toArray.size = cur.size := by
          simp; omega
        have hfr := Fr.setRow hh hsize
        have hcell : ∀ (i' j : Nat) (row : List V) (x : V), (k.rows.take n ++ rows)[i']? = some row → row[j]? = some x → ∃ u, (cur.toList.take (n * i.size) ++ news ++ cur.toList.drop (n * i.size + news.length)).toArray[i' * d.size + j]? = some u ∧ Rep w F x u := by
          intro i' j row x hi' hj
          obtain ⟨u, hu, hr⟩ := hall i' j row x hi' hj
          refine ⟨u, ?_, hr⟩
          rw [← hds]
          simp only [List.getElem?_toArray]
          rw [List.getElem?_append_left (List.getElem?_eq_some_iff.1 hu).1]
          exact hu
        obtain ⟨E', G', g1, g2, g3⟩ := newArr (F := F) (mb := some nb) (e := k.ty) (size := d.size) (deep := k.deep && deep) (rows := k.rows.take n ++ rows) c.inv c.wf (c.new 0 (by omega)) (kills := id :: kills) hfr
          (fun y hy => by
            subst hy
            have hf := c.inv.freedL hnbheld
            exact ⟨hf.2.1, hf.2.2.1, hf.2.2.2⟩) hpos hlenall
          (.inr ⟨nb, _, cap, rfl, setRow_heap w nb cur _ _ _ hh, .inr hnbheld, fun hf => hf.2 rfl, by rw [hsize, hcs, hks], hcm, by simp; omega, hcell⟩) hFdef (fun y hy => hy.2)
        refine steps_value (append_exec ho (by rw [hsy, hx, hsa]; exact hrun)) g1 ?_ g2
        exact hvr _ E' G' nb cap _ _ _ g3 hroom (setRow_heap w nb cur _ _ _ hh) (by rw [hsize, hcs, hks])
      · -- a new row
        have hgc := grownCap_ge w (n + rows.length) cap k.ty
        have hgm := grownCap_le_maxLen w (n + rows.length) cap k.ty hcap63
        have hrun := run_append_grow (P := P) w t o.type k.ty i z ht hi hz ⟨nb, 0, none⟩ n cap (cur.toList.take (n * d.size)) (by rw [hol, hds]) holds ad rows.length xc news (by rw [← hds]; exact hnl) hnc (by omega) (by simp only [maxLen] at hcap63; omega) (growslice_fits (by omega) (by rw [← hdb]; unfold maxBytes at hb1; omega))
        have hsize : ((cur.toList.take (n * d.size)).toArray ++ news.toArray ++ Builtin.zeroCells z.cells (grownCap w (n + rows.length) cap k.ty - (n + rows.length))).size = grownCap w (n + rows.length) cap k.ty * d.size := by
          simp only [Array.size_append, List.size_toArray, size_zeroCells, hzs, hnl, hol]
          rw [← hds, ← Nat.add_mul, ← Nat.add_mul]; congr 1; omega
        obtain ⟨E', G', g1, g2, g3⟩ := newArr (F := F) (mb := some w.heap.size) (e := k.ty) (size := d.size) (deep := k.deep && deep) (rows := k.rows.take n ++ rows) c.inv c.wf (c.new 0 (by omega)) (kills := id :: kills)
          (fr_grow w (.cells ((cur.toList.take (n * d.size)).toArray ++ news.toArray ++ Builtin.zeroCells z.cells (grownCap w (n + rows.length) cap k.ty - (n + rows.length))) k.ty)) (fun y h => h.elim) hpos hlenall
          (.inr ⟨w.heap.size, _, grownCap w (n + rows.length) cap k.ty, rfl, grow_new w _, .inl (Nat.le_refl _), fun hf => by
            rcases hf.1 with ⟨_, hg⟩ | hh'
            · have := (c.inv.g1 _ hg).1; omega
            · have := (c.inv.freedL hh').1; omega, hsize, hgm, by simp; omega, fun i' j row x hi' hj => by
            obtain ⟨u, hu, hr⟩ := hall i' j row x hi' hj
            exact ⟨u, grown_get hu, hr⟩⟩) hFdef (fun y _ h => h)
        refine steps_value (append_exec ho (by rw [hsy, hx, hsa]; exact hrun)) g1 ?_ g2
        exact hvr _ E' G' _ _ _ _ _ g3 hgc (grow_new w _) hsize

theorem append_sound {args : Array Operand} {tys : Array TypeId} {s x : Operand} {b : Nat} {o : Oper} {a : Act} {K : Cont} (c : MCtx P w0 U A B E G hp w ρ a.eval b) (ho : o.op = .call { callee := .builtin .append, args := args, argTypes := tys }) (hargs : args.toList = [s, x])
    (h : weAppend P tys.toList (ρ s) (ρ x) hp b K) : ∃ y hp' cls, K y hp' cls ∧ StepsTo P w0 U A B E G hp w o a y hp' ∧ WfOut B b y hp' := by
  unfold weAppend at h
  split at h
  · rename_i t t' htys
    obtain ⟨e, he, ha1⟩ := caseO_some' h
    obtain ⟨d, hd, ha2⟩ := caseO_some' ha1
    obtain ⟨rfl, ha3⟩ := ha2
    clear h ha1
    have ha : args = #[s, x] := by apply Array.ext'; simpa using hargs
    have ht : tys = #[t', t'] := by apply Array.ext'; simpa using htys
    subst ha
    subst ht
    obtain ⟨rows, kills, deep, h, hsrc⟩ := src_sound c.inv (c.rel x) ha3
    split at h
    · rename_i hs
      obtain ⟨hb1, hb2, hrl, hnd, hK⟩ := h
      have hsv := c.rel s
      rw [hs] at hsv
      obtain ⟨sa, hsy⟩ := vr2_em hsv
      exact ⟨_, _, _, hK, by simpa using append_new (extra := []) c ho he hd hsrc hb1 hb2 hrl hsy, wfout_arr c.wf⟩
    · rename_i id lo n hs
      obtain ⟨k, hk, hkk, rfl, rfl, hks, hnd, hb1, hb2, hrl, hK⟩ := caseO_some' h
      exact ⟨_, _, _, hK, append_own c ho hs hk hkk hks he hd hsrc hb1 hb2 hrl hnd, wfout_arr c.wf⟩
    · exact h.elim
  · exact h.elim

end Go.Proofs.YtnhibkgoinnmcaaDoor.Ev
end

/-! #### Ev15 -/
section
/- A call: how the evaluator's blocks are handed over and taken back. -/
namespace Go.Proofs.YtnhibkgoinnmcaaDoor.Ev
open Go
set_option linter.unusedVariables false
set_option linter.unusedSimpArgs false

variable {P : Program} {w w' w0 : World} {E E' : Env} {hp hp' : Hp} {G G' U A W F S : Nat → Prop} {B : Nat → Prop} {ρ : Operand → V} {ρr : Operand → Value}

/-- Blocks' numbers are turned: the same blocks lie behind the new ones. -/
structure Turn (f : Nat → Option Nat) (E : Env) (hp : Hp) (E' : Env) (hp' : Hp) : Prop where
  at' : ∀ id j, f id = some j → ∀ k', hp' j = some k' → ∃ k, hp id = some k ∧ (k'.kind = .box ↔ k.kind = .box) ∧ k'.size = k.size ∧ k'.rows.length = k.rows.length ∧ E'.m j = E.m id

theorem Turn.vr0 {f : Nat → Option Nat} (h : Turn f E hp E' hp') (hG : (∀ b, G b → G' b)) : ∀ {x : V} {y : Value}, VR0 w E hp G x y → VR0 w E' hp' G' (ren0 f x) y
  | .any, _, _ => trivial
  | .cl g [], y, h => h
  | .cl _ (_ :: _), _, h => h.elim
  | .agg _, _, h => h.elim
  | .tup _, _, h => h.elim
  | .v x, y, h => Rep.mono h hG
  | .em, y, h => Rep.mono h hG
  | .er _, y, h => Rep.mono h hG
  | .im rows, y, h => Rep.mono h hG
  | .ar id lo n, y, hv => by
    simp only [ren0]
    cases hf : f id with
    | none => exact trivial
    | some j =>
      obtain ⟨a, cap, hy, hk⟩ := hv
      refine ⟨a, cap, hy, fun k' hk' => ?_⟩
      obtain ⟨k, h1, h2, h3, h4, h5⟩ := h.at' id j hf k' hk'
      obtain ⟨q1, q2, q3⟩ := hk k h1
      refine ⟨fun hh => q1 (h2.1 hh), by rw [h4]; exact q2, ?_⟩
      rw [h3, h5]
      exact q3
  | .rf id r c, y, hv => by
    simp only [ren0]
    cases hf : f id with
    | none => exact trivial
    | some j =>
      obtain ⟨b, o, hy, hk⟩ := hv
      refine ⟨b, o, hy, fun k' hk' => ?_⟩
      obtain ⟨k, h1, h2, h3, h4, h5⟩ := h.at' id j hf k' hk'
      obtain ⟨q2, q3⟩ := hk k h1
      exact ⟨by rw [h5]; exact q2, by rw [h3]; exact q3⟩
  | .ir row c, y, hv => by
    obtain ⟨b, off, f', hg, hy, hc⟩ := hv
    exact ⟨b, off, f', hG b hg, hy, fun j x hx => ⟨(hc j x hx).1, (hc j x hx).2.mono hG⟩⟩

/-- The same of a value that leads to nothing that is only borrowed. -/
theorem Turn.vr0' {f : Nat → Option Nat} (h : Turn f E hp E' hp') : ∀ {x : V} {y : Value}, noIm0 x = true → VR0 w E hp G x y → VR0 w E' hp' G' (ren0 f x) y
  | .any, _, hn, _ => by simp [noIm0] at hn
  | .cl g [], y, _, h => h
  | .cl _ (_ :: _), _, hn, h => h.elim
  | .agg _, _, hn, h => h.elim
  | .tup _, _, hn, h => h.elim
  | .v x, y, _, h => Rep.scalar rfl h
  | .em, y, hn, h => by simp [noIm0] at hn
  | .er _, y, hn, h => by simp [noIm0] at hn
  | .im rows, y, hn, h => by simp [noIm0] at hn
  | .ar id lo n, y, _, hv => Turn.vr0 (G := fun _ => False) h (fun b hb => hb.elim) (x := .ar id lo n) hv
  | .rf id r c, y, _, hv => Turn.vr0 (G := fun _ => False) h (fun b hb => hb.elim) (x := .rf id r c) hv
  | .ir row c, y, hn, hv => by simp [noIm0] at hn

theorem VL.map {R R' : V → Value → Prop} {f : V → V} : ∀ {xs : List V} {ys : List Value}, VL R xs ys → (∀ x ∈ xs, ∀ y, R x y → R' (f x) y) → VL R' (xs.map f) ys
  | [], [], _, _ => trivial
  | x :: xs, y :: ys, h, hm => ⟨hm x (by simp) y h.1, VL.map h.2 fun x hx => hm x (by simp [hx])⟩
  | [], _ :: _, h, _ => h.elim
  | _ :: _, [], h, _ => h.elim

theorem Turn.vr1 {f : Nat → Option Nat} (h : Turn f E hp E' hp') (hG : ∀ b, G b → G' b) {x : V} {y : Value} (hv : VR1 w E hp G x y) : VR1 w E' hp' G' (ren1 f x) y := by
  cases x with
  | agg cs => obtain ⟨us, rfl, hl⟩ := hv; exact ⟨us, rfl, hl.map fun x _ y hx => h.vr0 hG hx⟩
  | cl g caps => obtain ⟨us, rfl, hl⟩ := hv; exact ⟨us, rfl, hl.map fun x _ y hx => h.vr0 hG hx⟩
  | v a => exact (h.vr0 hG (x := .v a) hv).to1
  | em => exact (h.vr0 hG (x := .em) hv).to1
  | er e => exact (h.vr0 hG (x := .er e) hv).to1
  | im a => exact (h.vr0 hG (x := .im a) hv).to1
  | ar a b c => exact (h.vr0 hG (x := .ar a b c) hv).to1
  | rf a b c => exact (h.vr0 hG (x := .rf a b c) hv).to1
  | ir a b => exact (h.vr0 hG (x := .ir a b) hv).to1
  | tup a => exact hv.elim
  | any => exact trivial

theorem Turn.vr2 {f : Nat → Option Nat} (h : Turn f E hp E' hp') (hG : ∀ b, G b → G' b) {x : V} {y : Value} (hv : VR2 w E hp G x y) : VR2 w E' hp' G' (ren2 f x) y := by
  cases x with
  | tup vs => obtain ⟨us, rfl, hl⟩ := hv; exact ⟨us, rfl, hl.map fun x _ y hx => h.vr1 hG hx⟩
  | agg a => exact (h.vr1 hG (x := .agg a) hv).to2
  | cl a b => exact (h.vr1 hG (x := .cl a b) hv).to2
  | v a => exact (h.vr1 hG (x := .v a) hv).to2
  | em => exact (h.vr1 hG (x := .em) hv).to2
  | er e => exact (h.vr1 hG (x := .er e) hv).to2
  | im a => exact (h.vr1 hG (x := .im a) hv).to2
  | ar a b c => exact (h.vr1 hG (x := .ar a b c) hv).to2
  | rf a b c => exact (h.vr1 hG (x := .rf a b c) hv).to2
  | ir a b => exact (h.vr1 hG (x := .ir a b) hv).to2
  | any => exact trivial

theorem Turn.vr2' {f : Nat → Option Nat} (h : Turn f E hp E' hp') {x : V} {y : Value} (hn : noIm x = true) (hv : VR2 w E hp G x y) : VR2 w E' hp' G' (ren2 f x) y := by
  cases x with
  | tup vs =>
    obtain ⟨us, rfl, hl⟩ := hv
    refine ⟨us, rfl, hl.map fun x hx y hv => ?_⟩
    have hnx := List.all_eq_true.1 hn x hx
    cases x with
    | agg cs => obtain ⟨us, rfl, hl⟩ := hv; exact ⟨us, rfl, hl.map fun x hx y hv => h.vr0' (List.all_eq_true.1 hnx x hx) hv⟩
    | cl g caps =>
      cases caps with
      | nil => obtain ⟨us, h1, hl⟩ := hv; exact ⟨us, h1, hl.map (f := ren0 f) fun x hx => by simp at hx⟩
      | cons a l => simp [noIm0] at hnx
    | v a => exact (h.vr0' (x := .v a) hnx hv).to1
    | em => exact (h.vr0' (x := .em) hnx hv).to1
    | er e => exact (h.vr0' (x := .er e) hnx hv).to1
    | im a => exact (h.vr0' (x := .im a) hnx hv).to1
    | ar a b c => exact (h.vr0' (G := G) (x := .ar a b c) hnx hv).to1
    | rf a b c => exact (h.vr0' (G := G) (x := .rf a b c) hnx hv).to1
    | ir a b => exact (h.vr0' (x := .ir a b) hnx hv).to1
    | tup a => exact hv.elim
    | any => exact trivial
  | agg cs => obtain ⟨us, rfl, hl⟩ := hv; exact ⟨us, rfl, hl.map fun x hx y hv => h.vr0' (List.all_eq_true.1 hn x hx) hv⟩
  | cl g caps =>
    cases caps with
    | nil => obtain ⟨us, h1, hl⟩ := hv; exact ⟨us, h1, hl.map (f := ren0 f) fun x hx => by simp at hx⟩
    | cons a l => simp [noIm, noIm0] at hn
  | v a => exact (h.vr0' (x := .v a) hn hv).to1.to2
  | em => exact (h.vr0' (x := .em) hn hv).to1.to2
  | er e => exact (h.vr0' (x := .er e) hn hv).to1.to2
  | im a => exact (h.vr0' (x := .im a) hn hv).to1.to2
  | ar a b c => exact (h.vr0' (G := G) (x := .ar a b c) hn hv).to1.to2
  | rf a b c => exact (h.vr0' (G := G) (x := .rf a b c) hn hv).to1.to2
  | ir a b => exact (h.vr0' (x := .ir a b) hn hv).to1.to2
  | any => exact trivial

/-- A value handed over to be read. -/
theorem lend0_rel (hI : HpInv w0 U A E G hp w) {x x' : V} {y : Value} {lent : List Nat} (h : lend0 hp x = some x') (hl : ∀ i ∈ arIds0 x, i ∈ lent) (hv : VR0 w E hp G x y) :
    VR0 w E hp (fun b => G b ∨ Held E hp lent b) x' y ∧ (∀ i ∈ refs0 x', i ∈ refs0 x) ∧ okCell x' = okCell x := by
  have hG : ∀ b, G b → G b ∨ Held E hp lent b := fun _ h => .inl h
  cases x with
  | ar id lo n =>
    simp only [lend0] at h
    split at h
    · rename_i k hk
      have hin : id ∈ lent := hl id (by simp [arIds0])
      have hrep : k.kind ≠ .box → VR0 w E hp (fun b => G b ∨ Held E hp lent b) (.im ((k.rows.take (lo + n)).drop lo)) y := by
        intro hkb
        refine (ar_im hI hv hk (S := fun b => G b ∨ Held E hp lent b) (fun b hb => ?_) (fun b hb => ?_)).vr0
        · cases hkk : k.kind with
          | box => exact absurd hkk hkb
          | arr => exact .inr ⟨id, hin, k, hk, by simp [liveB, hkk], .inl hb⟩
          | frz =>
            have := hI.blk id k hk
            unfold BlkRel at this
            simp only [hkk] at this
            rcases this with ⟨_, h2⟩ | ⟨b', _, _, _, h1, h1', _⟩
            · rw [hb] at h2; cases h2
            · rw [hb] at h1; cases h1; exact .inl h1'
        · by_cases hc : k.kind = .arr ∧ k.deep = true
          · rw [if_pos hc] at hb; exact .inr ⟨id, hin, k, hk, by simp [liveB, hc.1], .inr hb⟩
          · rw [if_neg hc] at hb; exact .inl hb
      split at h
      · cases h
      · rename_i hkb
        cases h
        exact ⟨hrep (by simpa using hkb), by simp [refs0], rfl⟩
    · cases h
  | em =>
    cases h
    have hv' : Rep w G .em y := hv
    cases hv' with
    | em a => exact ⟨Rep.im0 a 0, by simp [refs0], rfl⟩
  | er e => cases h; exact ⟨Rep.mono hv hG, fun _ h => h, rfl⟩
  | tup vs => cases h
  | agg cs => cases h
  | cl g caps =>
    cases caps with
    | nil => cases h; exact ⟨hv, fun _ h => h, rfl⟩
    | cons a l => cases h
  | v a => cases h; exact ⟨Rep.mono hv hG, fun _ h => h, rfl⟩
  | im a => cases h; exact ⟨Rep.mono hv hG, fun _ h => h, rfl⟩
  | rf a b c => cases h; exact ⟨hv, fun _ h => h, rfl⟩
  | ir row c =>
    cases h
    obtain ⟨b, off, f, hg, hy, hc⟩ := hv
    exact ⟨⟨b, off, f, .inl hg, hy, fun j x hx => ⟨(hc j x hx).1, (hc j x hx).2.mono hG⟩⟩, fun _ h => h, rfl⟩
  | any => cases h; exact ⟨trivial, fun _ h => h, rfl⟩

theorem lendL_rel (hI : HpInv w0 U A E G hp w) {lent : List Nat} : ∀ {xs xs' : List V} {ys : List Value}, lendL hp xs = some xs' → (∀ i ∈ xs.flatMap arIds0, i ∈ lent) → VL (VR0 w E hp G) xs ys →
    VL (VR0 w E hp (fun b => G b ∨ Held E hp lent b)) xs' ys ∧ ∀ i ∈ xs'.flatMap refs0, i ∈ xs.flatMap refs0
  | [], xs', ys, h, _, hv => by
    simp only [lendL, Option.some.injEq] at h
    subst h
    cases ys with
    | nil => exact ⟨trivial, fun _ h => h⟩
    | cons y ys => exact hv.elim
  | x :: xs, xs', ys, h, hl, hv => by
    simp only [lendL] at h
    split at h
    · rename_i y r h1 h2
      cases h
      cases ys with
      | nil => exact hv.elim
      | cons u us =>
        obtain ⟨q1, q2, _⟩ := lend0_rel hI h1 (lent := lent) (fun i hi => hl i (by simp only [List.flatMap_cons, List.mem_append]; exact .inl hi)) hv.1
        obtain ⟨r1, r2⟩ := lendL_rel hI h2 (fun i hi => hl i (by simp only [List.flatMap_cons, List.mem_append]; exact .inr hi)) hv.2
        refine ⟨⟨q1, r1⟩, fun i hi => ?_⟩
        simp only [List.flatMap_cons, List.mem_append] at hi ⊢
        exact hi.imp (q2 i) (r2 i)
    · cases h

theorem lend1_rel (hI : HpInv w0 U A E G hp w) {x x' : V} {y : Value} {lent : List Nat} (h : lend1 hp x = some x') (hl : ∀ i ∈ arIds1 x, i ∈ lent) (hv : VR2 w E hp G x y) :
    VR1 w E hp (fun b => G b ∨ Held E hp lent b) x' y ∧ (∀ i ∈ refs1 x', i ∈ refs2 x) := by
  cases x with
  | agg cs =>
    simp only [lend1] at h
    split at h
    · rename_i r hr
      cases h
      obtain ⟨us, rfl, hvl⟩ := hv
      obtain ⟨q1, q2⟩ := lendL_rel hI hr hl hvl
      exact ⟨⟨us, rfl, q1⟩, q2⟩
    · cases h
  | cl g caps =>
    simp only [lend1] at h
    split at h
    · rename_i r hr
      cases h
      obtain ⟨us, rfl, hvl⟩ := hv
      obtain ⟨q1, q2⟩ := lendL_rel hI hr hl hvl
      exact ⟨⟨us, rfl, q1⟩, q2⟩
    · cases h
  | tup vs => cases h
  | v a => obtain ⟨q1, q2, _⟩ := lend0_rel hI (x := .v a) h hl hv; exact ⟨q1.to1, fun i hi => by cases h; exact q2 i hi⟩
  | em => obtain ⟨q1, q2, _⟩ := lend0_rel hI (x := .em) h hl hv; exact ⟨q1.to1, fun i hi => by cases h; exact q2 i hi⟩
  | er e => obtain ⟨q1, q2, _⟩ := lend0_rel hI (x := .er e) h hl hv; exact ⟨q1.to1, fun i hi => by cases h; exact q2 i hi⟩
  | im a => obtain ⟨q1, q2, _⟩ := lend0_rel hI (x := .im a) h hl hv; exact ⟨q1.to1, fun i hi => by cases h; exact q2 i hi⟩
  | ar a b c =>
    obtain ⟨q1, q2, _⟩ := lend0_rel hI (x := .ar a b c) h hl hv
    refine ⟨q1.to1, fun i hi => ?_⟩
    simp only [lend1, lend0] at h
    split at h
    · split at h
      · cases h
      · cases h; exact q2 i hi
    · cases h
  | rf a b c => obtain ⟨q1, q2, _⟩ := lend0_rel hI (x := .rf a b c) h hl hv; exact ⟨q1.to1, fun i hi => by cases h; exact q2 i hi⟩
  | ir a b => obtain ⟨q1, q2, _⟩ := lend0_rel hI (x := .ir a b) h hl hv; exact ⟨q1.to1, fun i hi => by cases h; exact q2 i hi⟩
  | any => cases h; exact ⟨trivial, fun i hi => hi⟩

end Go.Proofs.YtnhibkgoinnmcaaDoor.Ev
end

/-! #### Ev16 -/
section
/- A call: how the evaluator's blocks are handed over. -/
namespace Go.Proofs.YtnhibkgoinnmcaaDoor.Ev
open Go
set_option linter.unusedVariables false
set_option linter.unusedSimpArgs false

variable {P : Program} {w w' w0 : World} {E E' : Env} {hp hp' : Hp} {G G' U A W F S : Nat → Prop} {B : Nat → Prop} {ρ : Operand → V} {ρr : Operand → Value}

theorem close_spec (hp : Hp) : ∀ (n : Nat) (todo acc order : List Nat), close hp n todo acc = some order → acc.Nodup → (∀ id ∈ acc, ∃ k, hp id = some k) →
    order.Nodup ∧ (∀ id ∈ order, ∃ k, hp id = some k) ∧ (∀ id ∈ acc, id ∈ order) ∧ ∀ id ∈ todo, id ∈ order ∨ hp id = none
  | 0, _, _, _, h, _, _ => by simp [close] at h
  | n + 1, [], acc, order, h, hn, hs => by
    simp only [close, Option.some.injEq] at h
    subst h
    exact ⟨hn, hs, fun _ h => h, fun id hid => by simp at hid⟩
  | n + 1, i :: l, acc, order, h, hn, hs => by
    simp only [close] at h
    split at h
    · rename_i hc
      obtain ⟨h1, h2, h3, h4⟩ := close_spec hp n l acc order h hn hs
      refine ⟨h1, h2, h3, fun id hid => ?_⟩
      rcases List.mem_cons.1 hid with rfl | hid
      · exact .inl (h3 _ (by simpa using hc))
      · exact h4 id hid
    · rename_i hc
      split at h
      · rename_i hnone
        obtain ⟨h1, h2, h3, h4⟩ := close_spec hp n l acc order h hn hs
        refine ⟨h1, h2, h3, fun id hid => ?_⟩
        rcases List.mem_cons.1 hid with rfl | hid
        · exact .inr hnone
        · exact h4 id hid
      · rename_i k hk
        obtain ⟨h1, h2, h3, h4⟩ := close_spec hp n _ _ order h (by
          rw [List.nodup_append]
          refine ⟨hn, by simp, fun a ha b hb => ?_⟩
          simp at hb
          subst hb
          intro he
          subst he
          exact hc (by simpa using ha)) (by
          intro id hid
          rcases List.mem_append.1 hid with hid | hid
          · exact hs id hid
          · simp at hid; subst hid; exact ⟨k, hk⟩)
        refine ⟨h1, h2, fun id hid => h3 id (by simp [hid]), fun id hid => ?_⟩
        rcases List.mem_cons.1 hid with rfl | hid
        · exact .inl (h3 _ (by simp))
        · exact h4 id (by simp [hid])

theorem idx_some {order : List Nat} {id j : Nat} (h : idx order id = some j) : order[j]? = some id := by
  unfold idx at h
  rw [List.idxOf?_eq_some_iff] at h
  obtain ⟨hj, h1, _⟩ := h
  rw [List.getElem?_eq_getElem hj]
  simpa using h1

theorem idx_get {order : List Nat} (hn : order.Nodup) {id j : Nat} (h : order[j]? = some id) : idx order id = some j := by
  unfold idx
  rw [List.idxOf?_eq_some_iff]
  have hj := (List.getElem?_eq_some_iff.1 h).1
  have he := (List.getElem?_eq_some_iff.1 h).2
  refine ⟨hj, by simpa using he, fun i hi hh => ?_⟩
  have := (List.getElem_inj (h₀ := by omega) (h₁ := hj) hn).1 (hh.trans he.symm)
  omega

/-- The callee's blocks: those of an order. -/
def envOf (E : Env) (order : List Nat) : Env := ⟨fun j => (order[j]?).bind E.m, fun j x => ∃ id, order[j]? = some id ∧ E.N id x⟩

theorem blksOf_get {order : List Nat} {j : Nat} {k' : Blk} (h : lkB (blksOf hp order) j = some k') : ∃ id, order[j]? = some id ∧ k' = renB (idx order) ((hp id).getD default) := by
  unfold lkB blksOf at h
  rw [List.getElem?_map, Option.map_eq_some_iff] at h
  obtain ⟨id, h1, h2⟩ := h
  exact ⟨id, h1, h2.symm⟩

theorem renB_shape (f : Nat → Option Nat) (k : Blk) : (renB f k).kind = k.kind ∧ (renB f k).size = k.size ∧ (renB f k).ty = k.ty ∧ (renB f k).deep = k.deep ∧ (renB f k).rows.length = k.rows.length := by
  unfold renB
  split <;> simp

theorem renB_rows (f : Nat → Option Nat) (k : Blk) (h : k.kind ≠ .box) : (renB f k).rows = k.rows := by
  unfold renB
  split
  · rename_i hk; exact absurd hk h
  · rfl

theorem turn_in {order : List Nat} (hs : ∀ id ∈ order, ∃ k, hp id = some k) : Turn (idx order) E hp (envOf E order) (lkB (blksOf hp order)) := by
  refine ⟨fun id j hj k' hk' => ?_⟩
  have h1 := idx_some hj
  obtain ⟨id', h2, h3⟩ := blksOf_get hk'
  rw [h1] at h2
  cases h2
  obtain ⟨k, hk⟩ := hs id (List.mem_of_getElem? h1)
  obtain ⟨r1, r2, r3, r4, r5⟩ := renB_shape (idx order) k
  rw [hk, Option.getD_some] at h3
  subst h3
  exact ⟨k, hk, by rw [r1], r2, r5, by simp [envOf, h1]⟩

theorem own_in {order : List Nat} (hs : ∀ id ∈ order, ∃ k, hp id = some k) {b : Nat} (h : Own (envOf E order) (lkB (blksOf hp order)) b) : ∃ id ∈ order, ∃ k, hp id = some k ∧ liveB k = true ∧ OwnBy E id b := by
  obtain ⟨j, k', hk', hl, ho⟩ := h
  obtain ⟨id, h1, h2⟩ := blksOf_get hk'
  obtain ⟨k, hk⟩ := hs id (List.mem_of_getElem? h1)
  rw [hk, Option.getD_some] at h2
  subst h2
  refine ⟨id, List.mem_of_getElem? h1, k, hk, by unfold liveB at hl ⊢; rw [(renB_shape (idx order) k).1] at hl; exact hl, ?_⟩
  rcases ho with ho | ⟨id', h3, ho⟩
  · left; simpa [envOf, h1] using ho
  · rw [h1] at h3; cases h3; exact .inr ho

/-- A block, at another number. -/
theorem BlkRel.turn {f : Nat → Option Nat} {id j : Nat} {k : Blk} (hm : E'.m j = E.m id) (hN : ∀ x, E.N id x → E'.N j x) (hG : (k.kind = .frz ∨ (k.kind = .arr ∧ k.deep = false)) → ∀ b, G b → G' b)
    (hv : k.kind = .box → ∀ row ∈ k.rows, ∀ x ∈ row, ∀ y, VR0 w E hp G x y → VR0 w E' hp' G' (ren0 f x) y) (h : BlkRel w E hp G id k) : BlkRel w E' hp' G' j (renB f k) := by
  obtain ⟨r1, r2, r3, r4, r5⟩ := renB_shape f k
  unfold BlkRel at h ⊢
  rw [r1]
  cases hk : k.kind with
  | box =>
    simp only [hk] at h ⊢
    obtain ⟨b, row, cur, h1, h2, h3, h4, h5, h6⟩ := h
    have hrows : (renB f k).rows = [row.map (ren0 f)] := by unfold renB; rw [hk]; simp [h3]
    refine ⟨b, row.map (ren0 f), cur, by rw [hm]; exact h1, by rw [r3]; exact h2, hrows, by rw [r2, h4]; simp, by rw [r2]; exact h5, ?_⟩
    exact h6.map fun x hx y hxy => ⟨hv hk row (by rw [h3]; simp) x hx y hxy.1, hxy.2⟩
  | arr =>
    have hrows := renB_rows f k (by simp [hk])
    simp only [hk] at h ⊢
    rw [hrows, r2, r3, r4]
    rcases h with ⟨h1, h2⟩ | ⟨b, cur, cap, h1, h2, h3, h4, h5, h6, h7, h8⟩
    · exact .inl ⟨h1, by rw [hm]; exact h2⟩
    · refine .inr ⟨b, cur, cap, by rw [hm]; exact h1, h2, h3, h4, h5, h6, h7, fun i q row x hi hq => ?_⟩
      obtain ⟨u, hu, hr⟩ := h8 i q row x hi hq
      refine ⟨u, hu, ?_⟩
      cases hd : k.deep with
      | true => simp only [hd, if_true] at hr ⊢; exact hr.mono hN
      | false => simp only [hd, Bool.false_eq_true, if_false] at hr ⊢; exact hr.mono (hG (.inr ⟨hk, hd⟩))
  | frz =>
    have hrows := renB_rows f k (by simp [hk])
    simp only [hk] at h ⊢
    rw [hrows, r2, r3]
    rcases h with ⟨h1, h2⟩ | ⟨b, cur, cap, fz, h1, h1', h2, h3, h4, h5, h6, h7, h8⟩
    · exact .inl ⟨h1, by rw [hm]; exact h2⟩
    · refine .inr ⟨b, cur, cap, fz, by rw [hm]; exact h1, hG (.inl hk) b h1', h2, h3, h4, h5, h6, h7, fun i q row x hi hq => ?_⟩
      obtain ⟨u, hu, hr⟩ := h8 i q row x hi hq
      exact ⟨u, hu, hr.mono (hG (.inl hk))⟩

/-- The blocks as the callee holds them. -/
theorem call_in (hI : HpInv w0 U A E G hp w) {order lent : List Nat} (hn : order.Nodup) (hs : ∀ id ∈ order, ∃ k, hp id = some k) (hdis : ∀ id ∈ order, id ∉ lent) :
    HpInv w (Own (envOf E order) (lkB (blksOf hp order))) (fun b => G b ∨ Held E hp lent b) (envOf E order) (fun b => G b ∨ Held E hp lent b) (lkB (blksOf hp order)) w := by
  refine ⟨Fr.refl _ w, ?_, ?_, ?_, ?_, ?_, ?_⟩
  · intro b hb
    refine ⟨?_, .inl hb⟩
    rcases hb with hb | ⟨id, _, k, hk, hl, ho⟩
    · exact (hI.g1 b hb).1
    · exact (hI.o1 b ⟨id, k, hk, hl, ho⟩).1
  · intro b hb ho
    obtain ⟨id, hid, k, hk, hl, ho⟩ := own_in hs ho
    rcases hb with hb | ⟨id', hid', k', hk', hl', ho'⟩
    · exact hI.g2 b hb ⟨id, k, hk, hl, ho⟩
    · have := hI.dis id k id' k' hk hl hk' hl' b ho ho'
      exact hdis id hid (this ▸ hid')
  · intro b ho
    obtain ⟨id, hid, k, hk, hl, ho'⟩ := own_in hs ho
    exact ⟨(hI.o1 b ⟨id, k, hk, hl, ho'⟩).1, .inl ho⟩
  · intro j k' j' k'' hj hl hj' hl' b ho ho'
    obtain ⟨id, h1, h2⟩ := blksOf_get hj
    obtain ⟨id', h1', h2'⟩ := blksOf_get hj'
    obtain ⟨k, hk⟩ := hs id (List.mem_of_getElem? h1)
    obtain ⟨k1, hk1⟩ := hs id' (List.mem_of_getElem? h1')
    rw [hk, Option.getD_some] at h2
    rw [hk1, Option.getD_some] at h2'
    subst h2
    subst h2'
    have hl1 : liveB k = true := by unfold liveB at hl ⊢; rw [(renB_shape (idx order) k).1] at hl; exact hl
    have hl2 : liveB k1 = true := by unfold liveB at hl' ⊢; rw [(renB_shape (idx order) k1).1] at hl'; exact hl'
    have e1 : OwnBy E id b := by
      rcases ho with ho | ⟨i, h3, ho⟩
      · left; simpa [envOf, h1] using ho
      · rw [h1] at h3; cases h3; exact .inr ho
    have e2 : OwnBy E id' b := by
      rcases ho' with ho | ⟨i, h3, ho⟩
      · left; simpa [envOf, h1'] using ho
      · rw [h1'] at h3; cases h3; exact .inr ho
    have := hI.dis id k id' k1 hk hl1 hk1 hl2 b e1 e2
    subst this
    have q1 := idx_get hn h1
    have q2 := idx_get hn h1'
    rw [q1] at q2
    exact Option.some.inj q2
  · intro j k' b hj hl hm hN
    obtain ⟨id, h1, h2⟩ := blksOf_get hj
    obtain ⟨k, hk⟩ := hs id (List.mem_of_getElem? h1)
    rw [hk, Option.getD_some] at h2
    subst h2
    have hl1 : liveB k = true := by unfold liveB at hl ⊢; rw [(renB_shape (idx order) k).1] at hl; exact hl
    obtain ⟨i, h3, hN⟩ := hN
    rw [h1] at h3
    cases h3
    exact hI.self id k b hk hl1 (by simpa [envOf, h1] using hm) hN
  · intro j k' hj
    obtain ⟨id, h1, h2⟩ := blksOf_get hj
    obtain ⟨k, hk⟩ := hs id (List.mem_of_getElem? h1)
    rw [hk, Option.getD_some] at h2
    subst h2
    exact (hI.blk id k hk).turn (by simp [envOf, h1]) (fun x hx => ⟨id, h1, hx⟩) (fun _ b hb => .inl hb) (fun _ row _ x _ y hv => (turn_in hs).vr0 (fun b hb => .inl hb) hv)

end Go.Proofs.YtnhibkgoinnmcaaDoor.Ev
end

/-! #### Ev17 -/
section
/- A call: how the evaluator's blocks are taken back. -/
namespace Go.Proofs.YtnhibkgoinnmcaaDoor.Ev
open Go
set_option linter.unusedVariables false
set_option linter.unusedSimpArgs false

variable {P : Program} {w w' w0 : World} {E E' : Env} {hp hp' : Hp} {G G' U A W F S : Nat → Prop} {B : Nat → Prop} {ρ : Operand → V} {ρr : Operand → Value}

theorem inst_get : ∀ (l : List Blk) (hp : Hp) (b id : Nat) (k : Blk), inst hp b l id = some k → (∃ i, l[i]? = some k ∧ id = b + i) ∨ (hp id = some k ∧ ¬ (b ≤ id ∧ id < b + l.length))
  | [], hp, b, id, k, h => .inr ⟨h, by simp⟩
  | x :: l, hp, b, id, k, h => by
    simp only [inst] at h
    rcases inst_get l _ (b + 1) id k h with ⟨i, h1, h2⟩ | ⟨h1, h2⟩
    · exact .inl ⟨i + 1, by simpa using h1, by omega⟩
    · by_cases hid : id = b
      · subst hid
        simp only [upd, if_true, Option.some.injEq] at h1
        exact .inl ⟨0, by simp [h1], by omega⟩
      · simp only [upd, if_neg hid] at h1
        refine .inr ⟨h1, ?_⟩
        simp only [List.length_cons]
        omega

theorem setAt_get : ∀ (ids : List Nat) (ks : List Blk) (hp : Hp) (id : Nat) (k : Blk), setAt hp ids ks id = some k → (∃ i : Nat, ids[i]? = some id ∧ ks[i]? = some k) ∨ hp id = some k
  | [], ks, hp, id, k, h => .inr (by cases ks <;> exact h)
  | i :: ids, [], hp, id, k, h => .inr h
  | i :: ids, x :: ks, hp, id, k, h => by
    simp only [setAt] at h
    rcases setAt_get ids ks _ id k h with ⟨q, h1, h2⟩ | h1
    · exact .inl ⟨q + 1, by simpa using h1, by simpa using h2⟩
    · by_cases hid : id = i
      · subst hid
        simp only [upd, if_true, Option.some.injEq] at h1
        exact .inl ⟨0, by simp, by simp [h1]⟩
      · simp only [upd, if_neg hid] at h1
        exact .inr h1

/-- What lies at a number behind a call. -/
theorem callHp_get {hp1 : Hp} {order : List Nat} {e b : Nat} {blks : List Blk} (he : e ≤ blks.length) (heo : e ≤ order.length) {id : Nat} {k : Blk} (h : callHp hp1 order e b blks id = some k) :
    (∃ j kj, back order e blks.length b j = some id ∧ blks[j]? = some kj ∧ k = renB (back order e blks.length b) kj) ∨ (hp1 id = some k ∧ id ∉ order ∧ ¬ (b ≤ id ∧ id < b + (blks.length - e))) := by
  unfold callHp at h
  rcases inst_get _ _ _ _ _ h with ⟨i, h1, h2⟩ | ⟨h1, h2⟩
  · left
    rw [List.getElem?_drop, List.getElem?_map, Option.map_eq_some_iff] at h1
    obtain ⟨kj, h3, h4⟩ := h1
    have hlt := (List.getElem?_eq_some_iff.1 h3).1
    refine ⟨e + i, kj, ?_, h3, h4.symm⟩
    unfold back
    rw [if_neg (by omega), if_pos hlt, h2]
    congr 2
    omega
  · simp only [List.length_drop, List.length_map] at h2
    rcases setAt_get _ _ _ _ _ h1 with ⟨i, h3, h4⟩ | h3
    · left
      rw [List.getElem?_take] at h3 h4
      split at h3
      · rename_i hi
        rw [if_pos hi, List.getElem?_map, Option.map_eq_some_iff] at h4
        obtain ⟨kj, h5, h6⟩ := h4
        refine ⟨i, kj, ?_, h5, h6.symm⟩
        unfold back
        rw [if_pos hi]; exact h3
      · cases h3
    · right
      obtain ⟨h5, h6⟩ := kill_some order hp1 id k h3
      exact ⟨h5, h6, h2⟩

theorem back_inj {order : List Nat} {e n b : Nat} (hn : order.Nodup) (hnew : ∀ id ∈ order, ¬ (b ≤ id ∧ id < b + 16)) (hle : n - e ≤ 16) {j j' id : Nat} (h : back order e n b j = some id) (h' : back order e n b j' = some id) : j = j' := by
  unfold back at h h'
  split at h
  · split at h'
    · exact (List.getElem_inj (h₀ := (List.getElem?_eq_some_iff.1 h).1) (h₁ := (List.getElem?_eq_some_iff.1 h').1) hn).1 ((List.getElem?_eq_some_iff.1 h).2.trans (List.getElem?_eq_some_iff.1 h').2.symm)
    · split at h'
      · cases h'
        exact absurd ⟨by omega, by omega⟩ (hnew _ (List.mem_of_getElem? h))
      · cases h'
  · split at h
    · cases h
      split at h'
      · exact absurd ⟨by omega, by omega⟩ (hnew _ (List.mem_of_getElem? h'))
      · split at h'
        · have := Option.some.inj h'
          omega
        · cases h'
    · cases h

/-- The inverse of 'back'. -/
def unback (order : List Nat) (e n b id : Nat) : Option Nat := (List.range n).find? fun j => back order e n b j == some id

theorem unback_of {order : List Nat} {e n b : Nat} (hn : order.Nodup) (hnew : ∀ id ∈ order, ¬ (b ≤ id ∧ id < b + 16)) (hle : n - e ≤ 16) {j id : Nat} (hj : j < n) (h : back order e n b j = some id) : unback order e n b id = some j := by
  unfold unback
  cases hf : (List.range n).find? fun j => back order e n b j == some id with
  | none =>
    have := List.find?_eq_none.1 hf j (by simpa using hj)
    simp [h] at this
  | some j' =>
    have h1 := List.find?_some hf
    have h2 : back order e n b j' = some id := by simpa using h1
    rw [back_inj hn hnew hle h2 h]

theorem unback_none {order : List Nat} {e n b id : Nat} (h1 : id ∉ order) (h2 : ¬ (b ≤ id ∧ id < b + (n - e))) : unback order e n b id = none := by
  unfold unback
  refine List.find?_eq_none.2 fun j hj => ?_
  simp only [List.mem_range] at hj
  simp only [beq_iff_eq]
  intro h
  unfold back at h
  by_cases hje : j < e
  · rw [if_pos hje] at h
    exact h1 (List.mem_of_getElem? h)
  · rw [if_neg hje, if_pos hj] at h
    have := Option.some.inj h
    exact h2 ⟨by omega, by omega⟩

def envBack (E E' : Env) (order : List Nat) (e n b : Nat) : Env :=
  ⟨fun id => match unback order e n b id with | some j => E'.m j | none => E.m id, fun id => match unback order e n b id with | some j => E'.N j | none => E.N id⟩

/-- What is known of a call's blocks behind it. -/
def Kept (n : Nat) (blks blks' : List Blk) (E E' : Env) : Prop := ∀ j, j < n → ∀ k', blks'[j]? = some k' → ∃ k, blks[j]? = some k ∧ (k.kind ≠ .box → k'.kind ≠ .box ∧ k.rows.length ≤ k'.rows.length) ∧ ∀ b, E.m j = some b → k'.size = k.size ∧ E'.m j = some b

theorem call_out {hp1 : Hp} {G1 G3 Ac : Nat → Prop} {order : List Nat} {e b : Nat} {blks' : List Blk} {r : V} {y : Value} {noim : Bool}
    (hI : HpInv w0 U A E G1 hp1 w) (hw : HpWf B hp1) (hnew : ∀ j, j < 16 → ¬ B (b + j)) (hn : order.Nodup) (hs : ∀ id ∈ order, ∃ k, hp1 id = some k) (heo : e ≤ order.length) (heb : e ≤ blks'.length) (hlen : blks'.length - e ≤ 16)
    (hC : HpInv w (Own (envOf E order) (lkB (blksOf hp1 order))) Ac E' G' (lkB blks') w') (hkept : Kept e (blksOf hp1 order) blks' (envOf E order) E')
    (hv : VR2 w' E' (lkB blks') G' r y) (hnoim : noim = true → noIm r = true ∧ blks'.all noImB = true)
    (hG : ∀ b, G1 b → G3 b) (hG3 : ∀ b, G3 b → G1 b ∨ (G' b ∧ (Ac b → G1 b) ∧ noim = false)) (hG' : noim = false → ∀ b, G' b → G3 b) :
    HpInv w0 U A (envBack E E' order e blks'.length b) G3 (callHp hp1 order e b blks') w' ∧
      VR2 w' (envBack E E' order e blks'.length b) (callHp hp1 order e b blks') G3 (ren2 (back order e blks'.length b) r) y ∧
      Ext B E G1 hp1 w (envBack E E' order e blks'.length b) G3 (callHp hp1 order e b blks') w' := by
  have hordB : ∀ id ∈ order, ¬ (b ≤ id ∧ id < b + 16) := by
    intro id hid hh
    obtain ⟨k, hk⟩ := hs id hid
    have h1 := (hw id k hk).1
    have := hnew (id - b) (by omega)
    rw [show b + (id - b) = id by omega] at this
    exact this h1
  have hBn : ∀ id, B id → ¬ (b ≤ id ∧ id < b + 16) := by
    intro id hid hh
    have := hnew (id - b) (by omega)
    rw [show b + (id - b) = id by omega] at this
    exact this hid
  have hub : ∀ {j id}, j < blks'.length → back order e blks'.length b j = some id → unback order e blks'.length b id = some j := fun hj h => unback_of hn hordB hlen hj h
  have hget : ∀ {id k}, callHp hp1 order e b blks' id = some k → (∃ j kj, j < blks'.length ∧ back order e blks'.length b j = some id ∧ unback order e blks'.length b id = some j ∧ blks'[j]? = some kj ∧ k = renB (back order e blks'.length b) kj) ∨
      (hp1 id = some k ∧ id ∉ order ∧ unback order e blks'.length b id = none) := by
    intro id k h
    rcases callHp_get heb heo h with ⟨j, kj, h1, h2, h3⟩ | ⟨h1, h2, h3⟩
    · have hj := (List.getElem?_eq_some_iff.1 h2).1
      exact .inl ⟨j, kj, hj, h1, hub hj h1, h2, h3⟩
    · exact .inr ⟨h1, h2, unback_none h2 h3⟩
  -- what the callee held
  have hUc : ∀ x, Own (envOf E order) (lkB (blksOf hp1 order)) x → Own E hp1 x ∧ ∃ id ∈ order, ∃ k, hp1 id = some k ∧ liveB k = true ∧ OwnBy E id x := by
    intro x hx
    obtain ⟨id, hid, k, hk, hl, ho⟩ := own_in hs hx
    exact ⟨⟨id, k, hk, hl, ho⟩, id, hid, k, hk, hl, ho⟩
  have hfr : Fr (Own (envOf E order) (lkB (blksOf hp1 order))) w w' := hC.fr
  have hGW : ∀ x, G1 x → x < w.heap.size ∧ ¬ Own (envOf E order) (lkB (blksOf hp1 order)) x := fun x hx => ⟨(hI.g1 x hx).1, fun ho => hI.g2 x hx (hUc x ho).1⟩
  have hturn : Turn (back order e blks'.length b) E' (lkB blks') (envBack E E' order e blks'.length b) (callHp hp1 order e b blks') := by
    refine ⟨fun j id hj k' hk' => ?_⟩
    rcases hget hk' with ⟨j', kj, hj', h1, h2, h3, h4⟩ | ⟨h1, h2, h3⟩
    · have : j' = j := back_inj hn hordB hlen h1 hj
      subst this
      obtain ⟨r1, r2, r3, r4, r5⟩ := renB_shape (back order e blks'.length b) kj
      subst h4
      exact ⟨kj, h3, by rw [r1], r2, r5, by simp [envBack, h2]⟩
    · exfalso
      have hjn : j < blks'.length := by
        unfold back at hj
        split at hj
        · omega
        · split at hj
          · assumption
          · cases hj
      rw [hub hjn hj] at h3
      cases h3
  have hvr : ∀ x y, VR0 w' E' (lkB blks') G' x y → (noim = true → noIm0 x = true) → VR0 w' (envBack E E' order e blks'.length b) (callHp hp1 order e b blks') G3 (ren0 (back order e blks'.length b) x) y := by
    intro x y hx hno
    cases hnn : noim with
    | true => exact hturn.vr0' (hno hnn) hx
    | false => exact hturn.vr0 (hG' hnn) hx
  have hres : VR2 w' (envBack E E' order e blks'.length b) (callHp hp1 order e b blks') G3 (ren2 (back order e blks'.length b) r) y := by
    cases hnn : noim with
    | true => exact hturn.vr2' (hnoim hnn).1 hv
    | false => exact hturn.vr2 (hG' hnn) hv
  -- old values
  have hold : ∀ x y, (∀ id ∈ refs0 x, B id) → VR0 w E hp1 G1 x y → VR0 w' (envBack E E' order e blks'.length b) (callHp hp1 order e b blks') G3 x y := by
    intro x y hB hx
    have hsame : Same G1 w w' := hfr.same hGW
    have hshape : ∀ id k', B id → callHp hp1 order e b blks' id = some k' → ∃ k, hp1 id = some k ∧ (k.kind ≠ .box → k'.kind ≠ .box ∧ k.rows.length ≤ k'.rows.length) ∧ ∀ bb, E.m id = some bb → k'.size = k.size ∧ (envBack E E' order e blks'.length b).m id = some bb := by
      intro id k' hid hk'
      rcases hget hk' with ⟨j, kj, hj, h1, h2, h3, h4⟩ | ⟨h1, h2, h3⟩
      · have hje : j < e ∧ order[j]? = some id := by
          unfold back at h1
          by_cases hje : j < e
          · rw [if_pos hje] at h1
            exact ⟨hje, h1⟩
          · rw [if_neg hje, if_pos hj] at h1
            have := Option.some.inj h1
            exact absurd ⟨by omega, by omega⟩ (hBn _ hid)
        obtain ⟨k0, q1, q2, q5⟩ := hkept j hje.1 kj h3
        obtain ⟨id', q6, q7⟩ := blksOf_get (hp := hp1) (order := order) (j := j) (k' := k0) q1
        rw [hje.2] at q6
        cases q6
        obtain ⟨k, hk⟩ := hs id (List.mem_of_getElem? hje.2)
        rw [hk, Option.getD_some] at q7
        obtain ⟨r1, r2, r3, r4, r5⟩ := renB_shape (idx order) k
        obtain ⟨s1, s2, s3, s4, s5⟩ := renB_shape (back order e blks'.length b) kj
        subst h4
        subst q7
        refine ⟨k, hk, by rw [s1, s5, ← r1, ← r5]; exact q2, fun bb hbb => ?_⟩
        obtain ⟨p1, p2⟩ := q5 bb (by simp [envOf, hje.2, hbb])
        refine ⟨by rw [s2, p1, r2], ?_⟩
        simp only [envBack, h2]
        exact p2
      · exact ⟨k', h1, fun h => ⟨h, Nat.le_refl _⟩, fun bb hbb => ⟨rfl, by simpa [envBack, h3] using hbb⟩⟩
    cases x with
    | ar id lo n =>
      obtain ⟨a, cap, hy, hk⟩ := hx
      refine ⟨a, cap, hy, fun k' hk' => ?_⟩
      obtain ⟨k, h1, h2, h5⟩ := hshape id k' (hB id (by simp [refs0])) hk'
      obtain ⟨q1, q2, q3⟩ := hk k h1
      refine ⟨(h2 q1).1, Nat.le_trans q2 (h2 q1).2, q3.imp (fun h => h) ?_⟩
      rintro ⟨bb, cur, ty, fz, s1, s2, s3, s4, s5⟩
      obtain ⟨h3, h5⟩ := h5 bb s1
      obtain ⟨cur', fz', s6, s7⟩ := hfr.shape bb cur ty fz s4
      exact ⟨bb, cur', ty, fz', h5, by rw [h3]; exact s2, s3, s6, by rw [h3, s7]; exact s5⟩
    | rf id r c =>
      obtain ⟨bb, o, hy, hk⟩ := hx
      refine ⟨bb, o, hy, fun k' hk' => ?_⟩
      obtain ⟨k, h1, h2, h5⟩ := hshape id k' (hB id (by simp [refs0])) hk'
      obtain ⟨q2, q3⟩ := hk k h1
      obtain ⟨h3, h5⟩ := h5 bb q2
      exact ⟨h5, by rw [h3]; exact q3⟩
    | ir row c =>
      obtain ⟨bb, off, f, hg, hy, hc⟩ := hx
      refine ⟨bb, off, f, hG bb hg, hy, fun j x hx => ?_⟩
      obtain ⟨h1, h2⟩ := hc j x hx
      exact ⟨by rw [cell_same (hfr.block bb (hGW bb hg).1 (hGW bb hg).2)]; exact h1, h2.same hsame hG⟩
    | v a => exact Rep.same hx hsame hG
    | em => exact Rep.same hx hsame hG
    | er e => exact Rep.same hx hsame hG
    | im rows => exact Rep.same hx hsame hG
    | any => exact trivial
    | agg cs => exact hx.elim
    | tup vs => exact hx.elim
    | cl f caps => cases caps <;> exact hx
  have hc1 : ∀ x, Own E' (lkB blks') x → x < w'.heap.size ∧ (Own (envOf E order) (lkB (blksOf hp1 order)) x ∨ w.heap.size ≤ x) := fun x hx => hC.o1 x hx
  -- who holds a block behind the call
  have hown : ∀ id k x, callHp hp1 order e b blks' id = some k → liveB k = true → OwnBy (envBack E E' order e blks'.length b) id x →
      (∃ j kj, back order e blks'.length b j = some id ∧ blks'[j]? = some kj ∧ liveB kj = true ∧ OwnBy E' j x) ∨ (hp1 id = some k ∧ id ∉ order ∧ OwnBy E id x) := by
    intro id k x hk hl ho
    rcases hget hk with ⟨j, kj, hj, h1, h2, h3, h4⟩ | ⟨h1, h2, h3⟩
    · left
      refine ⟨j, kj, h1, h3, ?_, ?_⟩
      · subst h4; unfold liveB at hl ⊢; rw [(renB_shape _ kj).1] at hl; exact hl
      · rcases ho with ho | ho
        · left; simpa [envBack, h2] using ho
        · right; simpa [envBack, h2] using ho
    · right
      refine ⟨h1, h2, ?_⟩
      rcases ho with ho | ho
      · left; simpa [envBack, h3] using ho
      · right; simpa [envBack, h3] using ho
  have hG1c : ∀ x, G1 x → ¬ Own E' (lkB blks') x := by
    intro x hg ho
    rcases (hc1 x ho).2 with h | h
    · exact hI.g2 x hg (hUc x h).1
    · have := (hI.g1 x hg).1; omega
  have hrest : ∀ id k x, hp1 id = some k → liveB k = true → id ∉ order → OwnBy E id x → ¬ Own E' (lkB blks') x := by
    intro id k x hk hl hid ho hc
    rcases (hc1 x hc).2 with h | h
    · obtain ⟨_, id', hid', k', hk', hl', ho'⟩ := hUc x h
      exact hid (hI.dis id k id' k' hk hl hk' hl' x ho ho' ▸ hid')
    · have := (hI.o1 x ⟨id, k, hk, hl, ho⟩).1; omega
  refine ⟨⟨hI.fr.then hfr (fun x hx => (hI.o1 x (hUc x hx).1).2), ?_, ?_, ?_, ?_, ?_, ?_⟩, hres, ⟨hold⟩⟩
  · intro x hx
    rcases hG3 x hx with hg | ⟨hg, ha, _⟩
    · have := hI.g1 x hg; exact ⟨Nat.lt_of_lt_of_le this.1 hfr.size, this.2⟩
    · have h1 := hC.g1 x hg
      refine ⟨h1.1, ?_⟩
      rcases h1.2 with h | h | h
      · exact (hI.g1 x (ha h)).2
      · exact .inr (hI.o1 x (hUc x h).1).2
      · exact .inr (.inr (Nat.le_trans hI.fr.size h))
  · rintro x hx ⟨id, k, hk, hl, ho⟩
    rcases hown id k x hk hl ho with ⟨j, kj, h1, h2, h3, h4⟩ | ⟨h1, h2, h3⟩
    · have hoc : Own E' (lkB blks') x := ⟨j, kj, h2, h3, h4⟩
      rcases hG3 x hx with hg | ⟨hg, _, _⟩
      · exact hG1c x hg hoc
      · exact hC.g2 x hg hoc
    · rcases hG3 x hx with hg | ⟨hg, ha, _⟩
      · exact hI.g2 x hg ⟨id, k, h1, hl, h3⟩
      · rcases (hC.g1 x hg).2 with h | h | h
        · exact hI.g2 x (ha h) ⟨id, k, h1, hl, h3⟩
        · obtain ⟨_, id', hid', k', hk', hl', ho'⟩ := hUc x h
          exact h2 (hI.dis id k id' k' h1 hl hk' hl' x h3 ho' ▸ hid')
        · have := (hI.o1 x ⟨id, k, h1, hl, h3⟩).1; omega
  · rintro x ⟨id, k, hk, hl, ho⟩
    rcases hown id k x hk hl ho with ⟨j, kj, h1, h2, h3, h4⟩ | ⟨h1, h2, h3⟩
    · have := hc1 x ⟨j, kj, h2, h3, h4⟩
      refine ⟨this.1, ?_⟩
      rcases this.2 with h | h
      · exact (hI.o1 x (hUc x h).1).2
      · exact .inr (Nat.le_trans hI.fr.size h)
    · have := hI.o1 x ⟨id, k, h1, hl, h3⟩
      exact ⟨Nat.lt_of_lt_of_le this.1 hfr.size, this.2⟩
  · intro id k id' k' hk hl hk' hl' x ho ho'
    rcases hown id k x hk hl ho with ⟨j, kj, h1, h2, h3, h4⟩ | ⟨h1, h2, h3⟩
    · rcases hown id' k' x hk' hl' ho' with ⟨j', kj', h1', h2', h3', h4'⟩ | ⟨h1', h2', h3'⟩
      · have := hC.dis j kj j' kj' h2 h3 h2' h3' x h4 h4'
        subst this
        rw [h1] at h1'
        exact Option.some.inj h1'
      · exact absurd ⟨j, kj, h2, h3, h4⟩ (hrest id' k' x h1' hl' h2' h3')
    · rcases hown id' k' x hk' hl' ho' with ⟨j', kj', h1', h2', h3', h4'⟩ | ⟨h1', h2', h3'⟩
      · exact absurd ⟨j', kj', h2', h3', h4'⟩ (hrest id k x h1 hl h2 h3)
      · exact hI.dis id k id' k' h1 hl h1' hl' x h3 h3'
  · intro id k x hk hl hm hN
    rcases hget hk with ⟨j, kj, hj, h1, h2, h3, h4⟩ | ⟨h1, h2, h3⟩
    · refine hC.self j kj x h3 ?_ (by simpa [envBack, h2] using hm) (by simpa [envBack, h2] using hN)
      subst h4; unfold liveB at hl ⊢; rw [(renB_shape _ kj).1] at hl; exact hl
    · exact hI.self id k x h1 hl (by simpa [envBack, h3] using hm) (by simpa [envBack, h3] using hN)
  · intro id k hk
    rcases hget hk with ⟨j, kj, hj, h1, h2, h3, h4⟩ | ⟨h1, h2, h3⟩
    · subst h4
      have hnb : noim = true → noImB kj = true := fun hh => List.all_eq_true.1 (hnoim hh).2 kj (List.mem_of_getElem? h3)
      refine (hC.blk j kj h3).turn (by simp [envBack, h2]) (fun x hx => by simpa [envBack, h2] using hx) (fun hkind x hx => ?_) (fun hkind row hrow x hx y hv => hvr x y hv fun hh => ?_)
      · cases hnn : noim with
        | true =>
          have := hnb hnn
          unfold noImB at this
          rcases hkind with hkind | ⟨hkind, hd⟩
          · simp [hkind] at this
          · simp [hkind, hd] at this
        | false => exact hG' hnn x hx
      · have := hnb hh
        unfold noImB at this
        rw [hkind] at this
        exact List.all_eq_true.1 (List.all_eq_true.1 this row hrow) x hx
    · have hW : Loose E (kill hp1 order) G1 (Own (envOf E order) (lkB (blksOf hp1 order))) := by
        intro x hx
        obtain ⟨q1, id', hid', k', hk', hl', ho'⟩ := hUc x hx
        have hf := hI.freedL (l := order) (x := x) ⟨id', hid', k', hk', hl', ho'⟩
        exact ⟨hf.2.1, hf.2.2.1⟩
      have hk2 : kill hp1 order id = some k := by rw [kill_other order hp1 id h2]; exact h1
      have hblk := hI.blk id k h1
      have hI2 := (hI.dropL (B := B) order).1
      have hNlt := hI2.N_lt hW hk2
      have hMn := hI2.M_nW hW hk2
      unfold BlkRel at hblk ⊢
      cases hkk : k.kind with
      | box =>
        simp only [hkk] at hblk ⊢
        obtain ⟨bb, row, cur, q1, q2, q3, q4, q5, q6⟩ := hblk
        exact ⟨bb, row, cur, by simpa [envBack, h3] using q1, hfr.at (hMn bb q1) q2, q3, q4, q5, q6.mono fun x hx y hxy => ⟨hold x y (fun i hi => (hw id k h1).2 i (mem_refsB hkk (by rw [q3]; simp) hx hi)) hxy.1, hxy.2⟩⟩
      | arr =>
        simp only [hkk] at hblk ⊢
        rcases hblk with ⟨q1, q2⟩ | ⟨bb, cur, cap, q1, q2, q3, q4, q5, q6, q7, q8⟩
        · exact .inl ⟨q1, by simpa [envBack, h3] using q2⟩
        · refine .inr ⟨bb, cur, cap, by simpa [envBack, h3] using q1, hfr.at (hMn bb q1) q2, q3, q4, q5, q6, q7, fun i q row x hi hq => ?_⟩
          obtain ⟨u, hu, hr⟩ := q8 i q row x hi hq
          refine ⟨u, hu, ?_⟩
          cases hd : k.deep with
          | true =>
            simp only [hd, if_true] at hr ⊢
            exact hr.same (hfr.same fun x hx => (hNlt x hx).elim (fun h => h) (fun h => by simp [hkk, hd] at h)) (fun x hx => by simpa [envBack, h3] using hx)
          | false =>
            simp only [hd, Bool.false_eq_true, if_false] at hr ⊢
            exact hr.same (hfr.same hGW) hG
      | frz =>
        simp only [hkk] at hblk ⊢
        rcases hblk with ⟨q1, q2⟩ | ⟨bb, cur, cap, fz, q1, q1', q2, q3, q4, q5, q6, q7, q8⟩
        · exact .inl ⟨q1, by simpa [envBack, h3] using q2⟩
        · refine .inr ⟨bb, cur, cap, fz, by simpa [envBack, h3] using q1, hG bb q1', hfr.at (hMn bb q1) q2, q3, q4, q5, q6, q7, fun i q row x hi hq => ?_⟩
          obtain ⟨u, hu, hr⟩ := q8 i q row x hi hq
          exact ⟨u, hu, hr.same (hfr.same hGW) hG⟩

end Go.Proofs.YtnhibkgoinnmcaaDoor.Ev
end

/-! #### Ev18 -/
section
/- A call comes to what the callee's contract says. -/
namespace Go.Proofs.YtnhibkgoinnmcaaDoor.Ev
open Go
set_option linter.unusedVariables false
set_option linter.unusedSimpArgs false

variable {P : Program} {w w' w0 : World} {E E' : Env} {hp hp' : Hp} {G G' U A W F S : Nat → Prop} {B : Nat → Prop} {ρ : Operand → V} {ρr : Operand → Value}

def KeptA (args : List V) (blks blks' : List Blk) (E E' : Env) : Prop := ∀ j ∈ args.flatMap refs1, ∀ k', blks'[j]? = some k' → ∃ k, blks[j]? = some k ∧ (k.kind ≠ .box → k'.kind ≠ .box ∧ k.rows.length ≤ k'.rows.length) ∧ ∀ b, E.m j = some b → k'.size = k.size ∧ E'.m j = some b

/-- Tables: blocks of memory that stand as they are, and that no one may write. -/
abbrev Tabs := List (Nat × Obj)
def Tab (J : Tabs) (U : Nat → Prop) (w : World) : Prop := ∀ x ∈ J, w.heap[x.1]? = some x.2 ∧ ¬ U x.1

theorem Tab.inner {J : Tabs} (h : Tab J U w0) (hI : HpInv w0 U A E G hp w) {U' : Nat → Prop} (hu : ∀ b, U' b → Own E hp b) : Tab J U' w := by
  intro x hx
  obtain ⟨h1, h2⟩ := h x hx
  have hlt := (Array.getElem?_eq_some_iff.1 h1).1
  refine ⟨(hI.fr.block x.1 hlt h2).trans h1, fun hb => ?_⟩
  rcases (hI.o1 x.1 (hu _ hb)).2 with h3 | h3
  · exact h2 h3
  · omega

/-- What a contract says of a call in the machine. -/
structure CSpec (P : Program) (J : Tabs) (g : FuncId) (args : List V) (blks : List Blk) (r : V) (blks' : List Blk) : Prop where
  enter : ∃ fn, P.funcs[g]? = some fn ∧ okEnter fn = true ∧ fn.body.isSome = true
  calls : idsOK args blks = true → ∀ (w : World) (A : Nat → Prop) (E : Env) (vals : Array Value), Tab J (Own E (lkB blks)) w → HpInv w (Own E (lkB blks)) A E A (lkB blks) w → VL (VR1 w E (lkB blks) A) args vals.toList →
    Calls P g vals w fun e w' => ∃ y E' G', e = .returned y ∧ HpInv w (Own E (lkB blks)) A E' G' (lkB blks') w' ∧ VR2 w' E' (lkB blks') G' r y ∧ KeptA args blks blks' E E'

/-- Contracts of all calls, where tables stand. -/
structure RSpec (P : Program) (J : Tabs) (U : Nat → Prop) (w0 : World) (R : Rel) : Prop where
  tab : Tab J U w0
  spec : ∀ g args blks r blks', R g args blks r blks' → CSpec P J g args blks r blks'

theorem refs0_ren {f : Nat → Option Nat} {x : V} {i : Nat} (h : i ∈ refs0 (ren0 f x)) : ∃ j, f j = some i ∧ j ∈ refs0 x := by
  cases x with
  | ar id lo n =>
    simp only [ren0] at h
    cases hf : f id with
    | none => rw [hf] at h; simp [refs0] at h
    | some j => rw [hf] at h; simp [refs0] at h; subst h; exact ⟨id, hf, by simp [refs0]⟩
  | rf id r c =>
    simp only [ren0] at h
    cases hf : f id with
    | none => rw [hf] at h; simp [refs0] at h
    | some j => rw [hf] at h; simp [refs0] at h; subst h; exact ⟨id, hf, by simp [refs0]⟩
  | cl g caps => cases caps <;> simp [ren0, refs0] at h
  | _ => simp [ren0, refs0] at h

theorem refs1_ren {f : Nat → Option Nat} {x : V} {i : Nat} (h : i ∈ refs1 (ren1 f x)) : ∃ j, f j = some i ∧ j ∈ refs1 x := by
  cases x with
  | agg cs =>
    simp only [ren1, refs1, List.mem_flatMap, List.mem_map] at h
    obtain ⟨_, ⟨a, ha, rfl⟩, hi⟩ := h
    obtain ⟨j, h1, h2⟩ := refs0_ren hi
    exact ⟨j, h1, List.mem_flatMap.2 ⟨a, ha, h2⟩⟩
  | cl g caps =>
    simp only [ren1, refs1, List.mem_flatMap, List.mem_map] at h
    obtain ⟨_, ⟨a, ha, rfl⟩, hi⟩ := h
    obtain ⟨j, h1, h2⟩ := refs0_ren hi
    exact ⟨j, h1, List.mem_flatMap.2 ⟨a, ha, h2⟩⟩
  | ar id lo n =>
    simp only [ren1, ren0] at h
    cases hf : f id with
    | none => rw [hf] at h; simp [refs1, refs0] at h
    | some j => rw [hf] at h; simp [refs1, refs0] at h; subst h; exact ⟨id, hf, by simp [refs1, refs0]⟩
  | rf id r c =>
    simp only [ren1, ren0] at h
    cases hf : f id with
    | none => rw [hf] at h; simp [refs1, refs0] at h
    | some j => rw [hf] at h; simp [refs1, refs0] at h; subst h; exact ⟨id, hf, by simp [refs1, refs0]⟩
  | _ => simp [ren1, ren0, refs1, refs0] at h

theorem refs2_ren {f : Nat → Option Nat} {x : V} {i : Nat} (h : i ∈ refs2 (ren2 f x)) : ∃ j, f j = some i ∧ j ∈ refs2 x := by
  cases x with
  | tup vs =>
    simp only [ren2, refs2, List.mem_flatMap, List.mem_map] at h
    obtain ⟨_, ⟨a, ha, rfl⟩, hi⟩ := h
    obtain ⟨j, h1, h2⟩ := refs1_ren hi
    exact ⟨j, h1, List.mem_flatMap.2 ⟨a, ha, h2⟩⟩
  | agg cs => exact refs1_ren (x := .agg cs) h
  | cl g caps => exact refs1_ren (x := .cl g caps) h
  | ar a b c =>
    simp only [ren2, ren1, ren0] at h
    cases hf : f a with
    | none => rw [hf] at h; simp [refs2, refs1, refs0] at h
    | some j => rw [hf] at h; simp [refs2, refs1, refs0] at h; subst h; exact ⟨a, hf, by simp [refs2, refs1, refs0]⟩
  | rf a b c =>
    simp only [ren2, ren1, ren0] at h
    cases hf : f a with
    | none => rw [hf] at h; simp [refs2, refs1, refs0] at h
    | some j => rw [hf] at h; simp [refs2, refs1, refs0] at h; subst h; exact ⟨a, hf, by simp [refs2, refs1, refs0]⟩
  | _ => simp [ren2, ren1, ren0, refs2, refs1, refs0] at h

theorem refsB_ren {f : Nat → Option Nat} {k : Blk} {i : Nat} (h : i ∈ refsB (renB f k)) : ∃ j, f j = some i ∧ j ∈ refsB k := by
  unfold refsB at h
  rw [(renB_shape f k).1] at h
  split at h
  · rename_i hk
    have : (renB f k).rows = k.rows.map (·.map (ren0 f)) := by unfold renB; rw [hk]
    rw [this] at h
    simp only [List.mem_flatMap, List.mem_map] at h
    obtain ⟨_, ⟨row, hrow, rfl⟩, c, hc, hi⟩ := h
    simp only [List.mem_map] at hc
    obtain ⟨a, ha, rfl⟩ := hc
    obtain ⟨j, h1, h2⟩ := refs0_ren hi
    exact ⟨j, h1, mem_refsB hk hrow ha h2⟩
  · simp at h

theorem freeze_get : ∀ (l : List Nat) (hp : Hp) (id : Nat) (k : Blk), freeze hp l id = some k → ∃ k0, hp id = some k0 ∧ k.rows = k0.rows ∧ (k.kind = .box ↔ k0.kind = .box)
  | [], hp, id, k, h => ⟨k, h, rfl, Iff.rfl⟩
  | i :: l, hp, id, k, h => by
    simp only [freeze] at h
    obtain ⟨k1, h1, h2, h3⟩ := freeze_get l _ id k h
    by_cases hid : id = i
    · subst hid
      simp only [upd, if_true, Option.map_eq_some_iff] at h1
      obtain ⟨k0, h4, h5⟩ := h1
      subst h5
      refine ⟨k0, h4, h2, h3.trans ?_⟩
      cases hk : k0.kind <;> simp [hk]
    · simp only [upd, if_neg hid] at h1
      exact ⟨k1, h1, h2, h3⟩

theorem freeze_other : ∀ (l : List Nat) (hp : Hp) (id : Nat), id ∉ l → freeze hp l id = hp id
  | [], hp, id, _ => rfl
  | i :: l, hp, id, h => by
    simp only [List.mem_cons, not_or] at h
    simp only [freeze]
    rw [freeze_other l _ id h.2]
    simp only [upd, if_neg h.1]

theorem HpWf.freeze (h : HpWf B hp) (l : List Nat) : HpWf B (freeze hp l) := by
  intro id k hk
  obtain ⟨k0, h1, h2, h3⟩ := freeze_get l hp id k hk
  refine ⟨(h id k0 h1).1, fun j hj => (h id k0 h1).2 j ?_⟩
  unfold refsB at hj ⊢
  by_cases hb : k0.kind = .box
  · have := h3.2 hb
    rw [this] at hj
    rw [hb]
    rw [h2] at hj
    exact hj
  · have hb' : k.kind ≠ .box := fun hh => hb (h3.1 hh)
    cases hkk : k.kind with
    | box => exact absurd hkk hb'
    | arr => rw [hkk] at hj; simp at hj
    | frz => rw [hkk] at hj; simp at hj

theorem lend0_kind {x x' : V} (h : lend0 hp x = some x') : ∀ i ∈ arIds0 x, ∀ k, hp i = some k → k.kind ≠ .box := by
  cases x with
  | ar id lo n =>
    intro i hi k hk
    simp [arIds0] at hi
    subst hi
    simp only [lend0, hk] at h
    intro hb
    rw [hb] at h
    cases h
  | _ => intro i hi; simp [arIds0] at hi

theorem lendL_kind : ∀ {xs xs' : List V}, lendL hp xs = some xs' → ∀ i ∈ xs.flatMap arIds0, ∀ k, hp i = some k → k.kind ≠ .box
  | [], _, _, i, hi => by simp at hi
  | x :: xs, xs', h, i, hi => by
    simp only [lendL] at h
    split at h
    · rename_i y r h1 h2
      simp only [List.flatMap_cons, List.mem_append] at hi
      exact hi.elim (lend0_kind h1 i) (lendL_kind h2 i)
    · cases h

theorem lend1_kind {x x' : V} (h : lend1 hp x = some x') : ∀ i ∈ arIds1 x, ∀ k, hp i = some k → k.kind ≠ .box := by
  cases x with
  | agg cs =>
    simp only [lend1] at h
    split at h
    · rename_i r hr; exact lendL_kind hr
    · cases h
  | cl g caps =>
    simp only [lend1] at h
    split at h
    · rename_i r hr; exact lendL_kind hr
    · cases h
  | ar a b c => exact lend0_kind (x := .ar a b c) h
  | _ => intro i hi; simp [arIds1, arIds0] at hi

theorem lendA_kind : ∀ {fs : List Bool} {xs xs' : List V}, lendA hp fs xs = some xs' → ∀ i ∈ lentA fs xs, ∀ k, hp i = some k → k.kind ≠ .box
  | _, [], _, _, i, hi => by simp [lentA] at hi
  | fs, x :: xs, xs', h, i, hi => by
    simp only [lendA] at h
    split at h
    · rename_i y r h1 h2
      simp only [lentA, List.mem_append] at hi
      refine hi.elim (fun hi => ?_) (lendA_kind h2 i)
      split at hi
      · simp at hi
      · rename_i hf
        rw [if_neg hf] at h1
        exact lend1_kind h1 i hi
    · cases h

theorem vl_2_1 : ∀ {xs : List V} {ys : List Value}, xs.all notTup = true → VL (VR2 w E hp G) xs ys → VL (VR1 w E hp G) xs ys
  | [], [], _, _ => trivial
  | x :: xs, y :: ys, h, hv => by
    simp only [List.all_cons, Bool.and_eq_true] at h
    refine ⟨?_, vl_2_1 h.2 hv.2⟩
    cases x with
    | tup vs => simp [notTup] at h
    | _ => exact hv.1
  | [], _ :: _, _, h => h.elim
  | _ :: _, [], _, h => h.elim

theorem blksOf_congr {hp1 : Hp} {order : List Nat} (h : ∀ id ∈ order, hp1 id = hp id) : blksOf hp1 order = blksOf hp order := by
  unfold blksOf
  apply List.map_congr_left
  intro id hid
  rw [h id hid]

theorem own_congr {hp1 : Hp} {id x : Nat} : OwnBy E id x ↔ OwnBy E id x := Iff.rfl

/-- What a call hands back, in the caller's numbers. -/
theorem wfout_call {hp1 : Hp} (hw : HpWf B hp1) {order : List Nat} (hs : ∀ id ∈ order, ∃ k, hp1 id = some k) {e b : Nat} {blks : List Blk} (he : e ≤ blks.length) (heo : e ≤ order.length) (hlen : blks.length - e ≤ 16) (r : V) :
    WfOut B b (ren2 (back order e blks.length b) r) (callHp hp1 order e b blks) := by
  have hb : ∀ j i, back order e blks.length b j = some i → More B b i := by
    intro j i h
    unfold back at h
    by_cases hje : j < e
    · rw [if_pos hje] at h
      obtain ⟨k, hk⟩ := hs i (List.mem_of_getElem? h)
      exact .inl (hw i k hk).1
    · rw [if_neg hje] at h
      split at h
      · have := Option.some.inj h
        exact .inr ⟨by omega, by omega⟩
      · cases h
  refine ⟨fun i hi => ?_, fun id k hk => ?_⟩
  · obtain ⟨j, h1, _⟩ := refs2_ren hi
    exact hb j i h1
  · rcases callHp_get he heo hk with ⟨j, kj, h1, h2, h3⟩ | ⟨h1, h2, h3⟩
    · subst h3
      refine ⟨hb j id h1, fun i hi => ?_⟩
      obtain ⟨q, h4, _⟩ := refsB_ren hi
      exact hb q i h4
    · exact ⟨.inl (hw id k h1).1, fun i hi => .inl ((hw id k h1).2 i hi)⟩

end Go.Proofs.YtnhibkgoinnmcaaDoor.Ev
end

/-! #### Ev19 -/
section
/- A call comes to what the callee's contract says: the step. -/
namespace Go.Proofs.YtnhibkgoinnmcaaDoor.Ev
open Go
set_option linter.unusedVariables false
set_option linter.unusedSimpArgs false

variable {P : Program} {J : Tabs} {w w' w0 : World} {E E' : Env} {hp hp' : Hp} {G G' U A W F S : Nat → Prop} {B : Nat → Prop} {ρ : Operand → V} {ρr : Operand → Value}

theorem vr0_none {x : V} {y : Value} (h : VR0 w E hp G x y) : VR0 w E' (lkB []) G x y := by
  cases x with
  | ar id lo n => obtain ⟨a, cap, hy, _⟩ := h; exact ⟨a, cap, hy, fun k hk => by simp [lkB] at hk⟩
  | rf id r c => obtain ⟨b, o, hy, _⟩ := h; exact ⟨b, o, hy, fun k hk => by simp [lkB] at hk⟩
  | cl f caps => cases caps <;> exact h
  | _ => exact h

theorem vr1_none {x : V} {y : Value} (h : VR1 w E hp G x y) : VR1 w E' (lkB []) G x y := by
  cases x with
  | agg cs => obtain ⟨us, rfl, hl⟩ := h; exact ⟨us, rfl, hl.mono fun x _ y hx => vr0_none (E := E) (hp := hp) hx⟩
  | cl g caps => obtain ⟨us, rfl, hl⟩ := h; exact ⟨us, rfl, hl.mono fun x _ y hx => vr0_none (E := E) (hp := hp) hx⟩
  | v a => exact (vr0_none (E := E) (hp := hp) (x := .v a) h).to1
  | em => exact (vr0_none (E := E) (hp := hp) (x := .em) h).to1
  | er e => exact (vr0_none (E := E) (hp := hp) (x := .er e) h).to1
  | im a => exact (vr0_none (E := E) (hp := hp) (x := .im a) h).to1
  | ar a b c => exact (vr0_none (E := E) (hp := hp) (x := .ar a b c) h).to1
  | rf a b c => exact (vr0_none (E := E) (hp := hp) (x := .rf a b c) h).to1
  | ir a b => exact (vr0_none (E := E) (hp := hp) (x := .ir a b) h).to1
  | tup a => exact h.elim
  | any => exact trivial

theorem call_exec {fo : Operand} {args : Array Operand} {tys : Array TypeId} {o : Oper} {a : Act} {g : FuncId} {us : Array Value} {fn : Func} (ho : o.op = .call { callee := .value fo, args := args, argTypes := tys })
    (hf : a.eval fo = .func (.func g) #[] us) (hfn : P.funcs[g]? = some fn) (h1 : okEnter fn = true) (h2 : fn.body.isSome = true) : (execOp a.eval o).run P w = .ok (.enter g (args.map a.eval ++ us)) w := by
  have hn : (fn.name == "runtime.NumGoroutine") = false := by simpa [okEnter] using h1
  have hb : fn.body.isNone = false := by cases hh : fn.body <;> simp [hh] at h2 ⊢
  simp only [execOp, ho, resolve, hf, Deferred.ofValue, Sem.run_bind, Sem.run_pure, Result.andThen_ok, invoke, callFunc, run_prog, hfn, hn, hb, Bool.false_eq_true, if_false, Array.empty_append]

/-- A call: the machine's side. -/
theorem call_common {fo : Operand} {args : Array Operand} {tys : Array TypeId} {o : Oper} {a : Act} {g : FuncId} {us : Array Value} {b : Nat} (c : MCtx P w0 U A B E G hp w ρ a.eval b) (ho : o.op = .call { callee := .value fo, args := args, argTypes := tys })
    (hf : a.eval fo = .func (.func g) #[] us) {order lent : List Nat} {e : Nat} {args2 : List V} {blks' : List Blk} {r : V} (hJ : Tab J U w0) (hsp : CSpec P J g args2 (blksOf hp order) r blks') (hid : idsOK args2 (blksOf hp order) = true)
    (hn : order.Nodup) (hs : ∀ id ∈ order, ∃ k, hp id = some k) (hdis : ∀ id ∈ order, id ∉ lent) (hkind : ∀ i ∈ lent, ∀ k, hp i = some k → k.kind ≠ .box) (heo : e ≤ order.length) (heb : e ≤ blks'.length) (hlen : blks'.length - e ≤ 16)
    (hdir : ∀ j, j < e → j ∈ args2.flatMap refs1)
    (hv : VL (VR1 w (envOf E order) (lkB (blksOf hp order)) (fun b => G b ∨ Held E hp lent b)) args2 (args.map a.eval ++ us).toList) :
    StepsTo P w0 U A B E G hp w o a (ren2 (back order e blks'.length b) r) (callHp (if (lent.isEmpty || (noIm r && blks'.all noImB)) = true then hp else freeze hp lent) order e b blks') := by
  obtain ⟨fn, hfn, h1, h2⟩ := hsp.enter
  intro next Q hnext
  unfold Oper.wp
  rw [call_exec ho hf hfn h1 h2]
  rw [Oper.upon_enter]
  refine (hsp.calls hid w _ (envOf E order) _ (hJ.inner c.inv fun b hb => by obtain ⟨id, hid, k, hk, hl, ho⟩ := own_in hs hb; exact ⟨id, k, hk, hl, ho⟩) (call_in c.inv hn hs hdis) hv).mono ?_
  rintro e' w' ⟨y, E', G', rfl, hC, hy, hk⟩
  have hkept : ∀ (hp1 : Hp), (∀ id ∈ order, hp1 id = hp id) → Kept e (blksOf hp1 order) blks' (envOf E order) E' := by
    intro hp1 h1 j hj k' hk'
    obtain ⟨k, q1, q2⟩ := hk j (hdir j hj) k' hk'
    rw [← blksOf_congr h1] at q1
    exact ⟨k, q1, q2⟩
  by_cases hc : (lent.isEmpty || (noIm r && blks'.all noImB)) = true
  · rw [if_pos hc] at hnext
    by_cases hl : lent = []
    · subst hl
      obtain ⟨g1, g2, g3⟩ := call_out (noim := false) (G3 := fun x => G x ∨ G' x) (e := e) (b := b) (r := r) c.inv c.wf c.new hn hs heo heb hlen hC (hkept hp fun _ _ => rfl) hy (fun h => by cases h)
        (fun x hx => .inl hx) (fun x hx => hx.imp (fun h => h) fun h => ⟨h, fun ha => ha.elim (fun h => h) (fun ⟨i, hi, _⟩ => by simp at hi), rfl⟩) (fun _ x hx => .inr hx)
      exact hnext y w' _ _ g1 g2 g3
    · have hno : noIm r = true ∧ blks'.all noImB = true := by
        simp only [Bool.or_eq_true, Bool.and_eq_true, List.isEmpty_iff] at hc
        exact hc.resolve_left hl
      obtain ⟨g1, g2, g3⟩ := call_out (noim := true) (G3 := G) (e := e) (b := b) (r := r) c.inv c.wf c.new hn hs heo heb hlen hC (hkept hp fun _ _ => rfl) hy (fun _ => hno)
        (fun x hx => hx) (fun x hx => .inl hx) (fun h => by cases h)
      exact hnext y w' _ _ g1 g2 g3
  · rw [if_neg hc] at hnext
    obtain ⟨G1, f1, f2, f3, f4⟩ := c.inv.freezeL (B := B) lent
    have hsame : ∀ id ∈ order, freeze hp lent id = hp id := fun id hid => freeze_other lent hp id (hdis id hid)
    have hC' : HpInv w (Own (envOf E order) (lkB (blksOf (freeze hp lent) order))) (fun b => G b ∨ Held E hp lent b) E' G' (lkB blks') w' := by rw [blksOf_congr hsame]; exact hC
    obtain ⟨g1, g2, g3⟩ := call_out (noim := false) (G3 := fun x => G1 x ∨ G' x) (e := e) (b := b) (r := r) f1 (c.wf.freeze lent) c.new hn (fun id hid => by rw [hsame id hid]; exact hs id hid) heo heb hlen hC' (hkept _ hsame) hy (fun h => by cases h)
      (fun x hx => .inl hx) (fun x hx => hx.imp (fun h => h) fun h => ⟨h, fun ha => ha.elim (f3 x) (fun ⟨i, hi, k, hk', hl', ho'⟩ => f4 i hi k hk' (hkind i hi k hk') x ho' hl'), rfl⟩) (fun _ x hx => .inr hx)
    exact hnext y w' _ _ g1 g2 (f2.trans g3 fun _ h => h)

theorem eraseDups_mem {l : List Nat} {x : Nat} : x ∈ l.eraseDups ↔ x ∈ l := by simp

theorem vr1_more {x : V} {y : Value} {G' : Nat → Prop} (hG : ∀ b, G b → G' b) (h : VR1 w E hp G x y) : VR1 w E hp G' x y := by
  have he : Ext (fun _ => True) E G hp w E G' hp w := ⟨fun x y _ hv => by
    have := (Turn.vr0 (f := fun i => some i) (E := E) (hp := hp) (E' := E) (hp' := hp) (G := G) (G' := G') ⟨fun id j hj k' hk' => by cases hj; exact ⟨k', hk', Iff.rfl, rfl, rfl, rfl⟩⟩ hG hv)
    have hx : VR0 w E hp G x y → ren0 (fun i => some i) x = x := by
      intro hv
      cases x with
      | cl f caps =>
        cases caps with
        | nil => rfl
        | cons a l => exact hv.elim
      | agg cs => exact hv.elim
      | tup vs => exact hv.elim
      | _ => rfl
    rw [hx hv] at this
    exact this⟩
  exact he.v1 x y (fun _ _ => trivial) h

theorem nt_vr1 {x : V} {y : Value} (h : notTup x = true) (hv : VR2 w E hp G x y) : VR1 w E hp G x y ∧ refs1 x = refs2 x := by
  cases x with
  | tup vs => cases h
  | _ => exact ⟨hv, rfl⟩

theorem lendA_rel (hI : HpInv w0 U A E G hp w) {lent : List Nat} : ∀ {fs : List Bool} {xs xs' : List V} {ys : List Value}, lendA hp fs xs = some xs' → (∀ i ∈ lentA fs xs, i ∈ lent) → VL (VR2 w E hp G) xs ys →
    VL (VR1 w E hp (fun b => G b ∨ Held E hp lent b)) xs' ys ∧ ∀ i ∈ xs'.flatMap refs1, i ∈ xs.flatMap refs2
  | _, [], xs', ys, h, _, hv => by
    simp only [lendA, Option.some.injEq] at h
    subst h
    cases ys with
    | nil => exact ⟨trivial, fun _ h => h⟩
    | cons y ys => exact hv.elim
  | fs, x :: xs, xs', ys, h, hl, hv => by
    simp only [lendA] at h
    split at h
    · rename_i y r h1 h2
      cases h
      cases ys with
      | nil => exact hv.elim
      | cons u us =>
        have hq : VR1 w E hp (fun b => G b ∨ Held E hp lent b) y u ∧ ∀ i ∈ refs1 y, i ∈ refs2 x := by
          split at h1
          · split at h1
            · rename_i hnt
              cases h1
              obtain ⟨g1, g2⟩ := nt_vr1 hnt hv.1
              exact ⟨vr1_more (fun _ h => .inl h) g1, fun i hi => by rw [← g2]; exact hi⟩
            · cases h1
          · rename_i hf
            exact lend1_rel hI h1 (lent := lent) (fun i hi => hl i (by simp only [lentA, List.mem_append]; rw [if_neg hf]; exact .inl hi)) hv.1
        obtain ⟨q1, q2⟩ := hq
        obtain ⟨r1, r2⟩ := lendA_rel hI h2 (fun i hi => hl i (by simp only [lentA, List.mem_append]; exact .inr hi)) hv.2
        refine ⟨⟨q1, r1⟩, fun i hi => ?_⟩
        simp only [List.flatMap_cons, List.mem_append] at hi ⊢
        exact hi.imp (q2 i) (r2 i)
    · cases h

theorem call_sound {R : Rel} {cf : Cfg} (hR : RSpec P J U w0 R) {fo : Operand} {args : Array Operand} {tys : Array TypeId} {o : Oper} {a : Act} {g : FuncId} {caps : List V} {b : Nat} {K : Cont}
    (c : MCtx P w0 U A B E G hp w ρ a.eval b) (ho : o.op = .call { callee := .value fo, args := args, argTypes := tys }) (hf : ρ fo = .cl g caps) (h : weInv R cf g (args.toList.map ρ ++ caps) hp b K) :
    ∃ x hp' cls, K x hp' cls ∧ StepsTo P w0 U A B E G hp w o a x hp' ∧ WfOut B b x hp' := by
  have hfo := c.rel fo
  rw [hf] at hfo
  obtain ⟨us, hus, hcaps⟩ := hfo
  have hall : VL (VR2 w E hp G) (args.toList.map ρ ++ caps) (args.map a.eval ++ us).toList := by
    simp only [Array.toList_append, Array.toList_map]
    refine VL.append ?_ (hcaps.mono fun _ _ _ h => h.to1.to2)
    have : ∀ l : List Operand, VL (VR2 w E hp G) (l.map ρ) (l.map a.eval) := by
      intro l
      induction l with
      | nil => exact trivial
      | cons x l ih => exact ⟨c.rel x, ih⟩
    exact this args.toList
  unfold weInv at h
  -- the arguments as they are handed over
  have hargs : ∀ args', lendA hp (cf.byref g) (args.toList.map ρ ++ caps) = some args' →
      VL (VR1 w E hp (fun b => G b ∨ Held E hp (lentA (cf.byref g) (args.toList.map ρ ++ caps)) b)) args' (args.map a.eval ++ us).toList ∧
      ∀ i ∈ lentA (cf.byref g) (args.toList.map ρ ++ caps), ∀ k, hp i = some k → k.kind ≠ .box := by
    intro args' h
    exact ⟨(lendA_rel c.inv h (fun i hi => hi) hall).1, lendA_kind h⟩
  cases hargs' : lendA hp (cf.byref g) (args.toList.map ρ ++ caps) with
  | none => rw [hargs'] at h; exact h.elim
  | some args' =>
    rw [hargs'] at h
    obtain ⟨hv, hkind⟩ := hargs args' hargs'
    generalize hlent : lentA (cf.byref g) (args.toList.map ρ ++ caps) = lent at h hv hkind
    clear hargs hall
    cases hcl0 : closeC hp (args'.flatMap refs1) with
    | none => simp only [hcl0] at h
    | some order =>
    have hcl := (closeC_some hcl0).1
    cases order with
    | nil =>
      -- no block is handed over
      simp only [hcl0] at h
      unfold wePure callR at h
      obtain ⟨r, blks', hr, hlen, hid, hK⟩ := h
      have hsp := hR.spec _ _ _ _ _ hr
      have hv' : VL (VR1 w (envOf E []) (lkB (blksOf hp [])) (fun b => G b ∨ Held E hp lent b)) args' (args.map a.eval ++ us).toList := hv.mono fun x _ y hx => vr1_none hx
      have hst := call_common (order := []) (e := 0) (lent := lent) c ho hus (r := r) (blks' := blks') hR.tab hsp hid (by simp) (fun id hid => by simp at hid) (fun id hid => by simp at hid) hkind (by simp) (by simp) (by omega) (fun j hj => by omega) hv'
      by_cases hc : (lent.isEmpty || noIm r && blks'.all noImB) = true
      · rw [if_pos hc] at hst hK
        exact ⟨_, _, _, hK, hst, wfout_call c.wf (fun id hid => by simp at hid) (by simp) (by simp) (by omega) r⟩
      · rw [if_neg hc] at hst hK
        exact ⟨_, _, _, hK, hst, wfout_call (c.wf.freeze _) (fun id hid => by simp at hid) (by simp) (by simp) (by omega) r⟩
    | cons i0 ol =>
      simp only [hcl0] at h
      generalize ho2 : i0 :: ol = order at h hcl hcl0
      clear ho2 i0 ol
      unfold weRef callR at h
      obtain ⟨hdis, htake, hid, r, blks', hr, hle, hlen, hK⟩ := h
      have hsp := hR.spec _ _ _ _ _ hr
      obtain ⟨c1, c2, c3, c4⟩ := close_spec hp 64 _ _ _ hcl (by simp) (fun id hid => by simp at hid)
      have hdis' : ∀ id ∈ order, id ∉ lent := by
        intro id hid hin
        have := List.all_eq_true.1 hdis id hid
        simp [hin] at this
      have heo : (args'.flatMap refs1).eraseDups.length ≤ order.length := by
        have := congrArg List.length htake
        simp only [List.length_take] at this
        omega
      have hv' := hv.map (f := ren1 (idx order)) (R' := VR1 w (envOf E order) (lkB (blksOf hp order)) (fun b => G b ∨ Held E hp lent b)) fun x _ y hx => (turn_in c2).vr1 (fun _ h => h) hx
      have hdir : ∀ j, j < (args'.flatMap refs1).eraseDups.length → j ∈ (args'.map (ren1 (idx order))).flatMap refs1 := by
        intro j hj
        have h1 : ((args'.flatMap refs1).eraseDups)[j]? = some ((args'.flatMap refs1).eraseDups[j]'hj) := List.getElem?_eq_getElem hj
        have h2 : order[j]? = some ((args'.flatMap refs1).eraseDups[j]'hj) := by
          rw [← h1]
          conv => rhs; rw [← htake]
          rw [List.getElem?_take, if_pos hj]
        have h3 : ((args'.flatMap refs1).eraseDups[j]'hj) ∈ args'.flatMap refs1 := eraseDups_mem.1 (List.getElem_mem hj)
        have h4 := idx_get c1 h2
        obtain ⟨x, hx, hi⟩ := List.mem_flatMap.1 h3
        refine List.mem_flatMap.2 ⟨ren1 (idx order) x, List.mem_map.2 ⟨x, hx, rfl⟩, ?_⟩
        have hren0 : ∀ z, ((args'.flatMap refs1).eraseDups[j]'hj) ∈ refs0 z → j ∈ refs0 (ren0 (idx order) z) := by
          intro z hz
          cases z with
          | ar id lo n => simp [refs0] at hz; simp only [ren0]; rw [← hz, h4]; simp [refs0]
          | rf id lo n => simp [refs0] at hz; simp only [ren0]; rw [← hz, h4]; simp [refs0]
          | _ => simp [refs0] at hz
        cases x with
        | agg cs =>
          obtain ⟨z, hz, hi⟩ := List.mem_flatMap.1 hi
          exact List.mem_flatMap.2 ⟨_, List.mem_map.2 ⟨z, hz, rfl⟩, hren0 z hi⟩
        | cl f cs =>
          obtain ⟨z, hz, hi⟩ := List.mem_flatMap.1 hi
          exact List.mem_flatMap.2 ⟨_, List.mem_map.2 ⟨z, hz, rfl⟩, hren0 z hi⟩
        | ar id lo n => have hi : _ ∈ refs0 (.ar id lo n) := hi; simp [refs0] at hi; simp only [ren1, ren0]; rw [← hi, h4]; simp [refs1, refs0]
        | rf id lo n => have hi : _ ∈ refs0 (.rf id lo n) := hi; simp [refs0] at hi; simp only [ren1, ren0]; rw [← hi, h4]; simp [refs1, refs0]
        | _ => simp [refs1, refs0] at hi
      have hst := call_common (order := order) (e := (args'.flatMap refs1).eraseDups.length) c ho hus (r := r) (blks' := blks') hR.tab hsp hid c1 c2 hdis' hkind heo hle hlen hdir hv'
      by_cases hc : (lent.isEmpty || noIm r && blks'.all noImB) = true
      · rw [if_pos hc] at hst hK
        exact ⟨_, _, _, hK, hst, wfout_call c.wf c2 hle heo hlen r⟩
      · rw [if_neg hc] at hst hK
        exact ⟨_, _, _, hK, hst, wfout_call (c.wf.freeze _) (fun id hid => by rw [freeze_other _ hp id (hdis' id hid)]; exact c2 id hid) hle heo hlen r⟩

end Go.Proofs.YtnhibkgoinnmcaaDoor.Ev
end

/-! #### Ev20 -/
section
/- The numbers of blocks in what an operation gives are numbers that are known; one operation: the step. -/
namespace Go.Proofs.YtnhibkgoinnmcaaDoor.Ev
open Go
set_option linter.unusedVariables false
set_option linter.unusedSimpArgs false

variable {P : Program} {J : Tabs} {w w' w0 : World} {E E' : Env} {hp hp' : Hp} {G G' U A W F S : Nat → Prop} {B : Nat → Prop} {ρ : Operand → V} {ρr : Operand → Value}

theorem rep_refs {x : V} {y : Value} (h : Rep w G x y) : refs2 x = [] := by
  cases h <;> rfl

theorem rep_refs0 {x : V} {y : Value} (h : Rep w G x y) : refs0 x = [] := by
  cases h <;> rfl

theorem vr0_refs {x : V} {y : Value} (h : VR0 w E hp G x y) : refs2 x = refs0 x := by
  cases x with
  | agg cs => exact h.elim
  | tup cs => exact h.elim
  | cl f cs => cases cs with | nil => rfl | cons a l => exact h.elim
  | _ => rfl

theorem refs_flatL {x : V} {id : Nat} (h : id ∈ (flat x).flatMap refs0) : id ∈ refs2 x := by
  cases x with
  | agg cs => exact h
  | ar a b c => simpa [flat, refs2, refs1] using h
  | rf a b c => simpa [flat, refs2, refs1] using h
  | _ => simp [flat, refs0] at h

theorem refs_mk {g : Bool} {l : List V} {x : V} {us : List Value} (h : mk g l = some x) (hl : VL (VR0 w E hp G) l us) {id : Nat} (hid : id ∈ refs2 x) : ∃ z ∈ l, id ∈ refs0 z := by
  unfold mk at h
  split at h
  · cases h
    exact List.mem_flatMap.1 hid
  · split at h
    · rename_i x'
      cases h
      cases us with
      | nil => exact hl.elim
      | cons u us =>
        rw [vr0_refs hl.1] at hid
        exact ⟨x, by simp, hid⟩
    · cases h

theorem seg_mem {cs l : List V} {off n : Nat} (h : seg cs off n = some l) {z : V} (hz : z ∈ l) : z ∈ cs := by
  unfold seg at h
  split at h
  · cases h
    exact List.mem_of_mem_drop (List.mem_of_mem_take hz)
  · cases h

theorem putSeg_mem {cs l new : List V} {off : Nat} (h : putSeg cs off new = some l) {z : V} (hz : z ∈ l) : z ∈ cs ∨ z ∈ new := by
  unfold putSeg at h
  split at h
  · cases h
    simp only [List.mem_append] at hz
    rcases hz with (hz | hz) | hz
    · exact .inl (List.mem_of_mem_take hz)
    · exact .inr hz
    · exact .inl (List.mem_of_mem_drop hz)
  · cases h

theorem fill_refs {flds : List Fld} {ρ : Operand → V} : ∀ (l : List (Nat × Operand)) (cs out : List V), fillV flds ρ cs l = some out → ∀ z ∈ out, ∀ id ∈ refs0 z, (∃ z ∈ cs, id ∈ refs0 z) ∨ ∃ y, id ∈ refs2 (ρ y)
  | [], cs, out, h, z, hz, id, hid => by
    simp only [fillV, Option.some.injEq] at h
    subst h
    exact .inl ⟨z, hz, hid⟩
  | (k, x) :: rest, cs, out, h, z, hz, id, hid => by
    simp only [fillV] at h
    split at h
    · split at h
      · cases hp : putSeg cs _ (flat (ρ x)) with
        | none => rw [hp] at h; cases h
        | some cs' =>
          rw [hp, Option.bind_some] at h
          rcases fill_refs rest cs' out h z hz id hid with ⟨z', hz', hid'⟩ | h'
          · rcases putSeg_mem hp hz' with h1 | h1
            · exact .inl ⟨z', h1, hid'⟩
            · exact .inr ⟨x, refs_flatL (List.mem_flatMap.2 ⟨z', h1, hid'⟩)⟩
          · exact .inr h'
      · cases h
    · cases h

theorem zero_refs {t : TypeId} {d : TyD} (hd : tyOf P t = some d) : ∀ x ∈ d.zero, refs2 x = [] := by
  intro x hx
  obtain ⟨i, u, z', _, _, _, _, _, _, rfl⟩ := tyOf_some hd
  simp only [List.mem_map] at hx
  obtain ⟨cc, _, hcc⟩ := hx
  subst hcc
  unfold ofCell
  split
  · rfl
  · split <;> rfl

theorem refs02 {x : V} {id : Nat} (h : id ∈ refs0 x) : id ∈ refs2 x := by
  cases x with
  | ar a b c => exact h
  | rf a b c => exact h
  | _ => simp [refs0] at h

theorem ofScalar_refs {o : Option Value} {x : V} (h : o.bind ofScalar = some x) : refs2 x = [] := by
  cases o with
  | none => cases h
  | some a =>
    rw [Option.bind_some] at h
    unfold ofScalar at h
    split at h
    · cases h; rfl
    · cases h

theorem T_refs {op : Op} {x : V} (hρ : ∀ x, VR2 w E hp G (ρ x) (ρr x)) (h : nevT P op ρ = some x) : ∀ id ∈ refs2 x, ∃ y, id ∈ refs2 (ρ y) := by
  intro id hid
  cases op with
  | move a => cases Option.some.inj h; exact ⟨a, hid⟩
  | assign a => cases Option.some.inj h; exact ⟨a, hid⟩
  | pick c a b =>
    simp only [nevT] at h
    split at h
    · rename_i t hc
      cases Option.some.inj h
      cases t
      · exact ⟨b, hid⟩
      · exact ⟨a, hid⟩
    · cases h
  | build t parts =>
    simp only [nevT] at h
    split at h
    · rename_i d hd
      split at h
      · cases hf : fillV d.flds ρ d.zero parts.toList with
        | none => simp [hf] at h
        | some cs =>
          rw [hf] at h
          cases Option.some.inj h
          obtain ⟨z, hz, hid⟩ := List.mem_flatMap.1 hid
          rcases fill_refs _ _ _ hf z hz id hid with ⟨z', h1, h2⟩ | h1
          · have := zero_refs hd z' h1
            have := refs02 h2
            simp_all
          · exact h1
      · cases h
    · cases h
  | nilCheck a =>
    simp only [nevT] at h
    split at h <;> first | (rename_i hx; cases Option.some.inj h; exact ⟨a, by rw [hx]; exact hid⟩) | cases h
  | binOp b t a c yt =>
    simp only [nevT] at h
    split at h
    · rw [ofScalar_refs h] at hid; simp at hid
    · unfold nilEq at h
      split at h
      · split at h
        · cases h; simp [refs2, refs1, refs0] at hid
        · cases h; simp [refs2, refs1, refs0] at hid
        · cases h
      · unfold erEq at h
        split at h
        · cases h; simp [refs2, refs1, refs0] at hid
        · cases h; simp [refs2, refs1, refs0] at hid
        · cases h
  | unOp u t a =>
    simp only [nevT] at h
    split at h
    · rw [ofScalar_refs h] at hid; simp at hid
    · cases h
  | convert s d a =>
    simp only [nevT] at h
    split at h
    · rw [ofScalar_refs h] at hid; simp at hid
    · cases h
  | field t a k =>
    simp only [nevT] at h
    split at h
    · rename_i cs d hx hd
      split at h
      · rename_i f hk
        have h1 := hρ a
        rw [hx] at h1
        obtain ⟨us, hy, hl⟩ := h1
        cases hs : seg cs f.off f.size with
        | none => rw [hs] at h; cases h
        | some l =>
          rw [hs, Option.bind_some] at h
          obtain ⟨z, hz, hid⟩ := refs_mk (us := (us.toList.drop f.off).take f.size) h (by
            unfold seg at hs
            split at hs
            · cases hs; exact (hl.drop _).take _
            · cases hs) hid
          exact ⟨a, by rw [hx]; exact List.mem_flatMap.2 ⟨z, seg_mem hs hz, hid⟩⟩
      · cases h
    · cases h
  | fieldAddr t a k =>
    simp only [nevT] at h
    split at h
    · split at h
      · rename_i f id r c hk hx
        cases Option.some.inj h
        exact ⟨a, by rw [hx]; exact hid⟩
      · cases Option.some.inj h
        simp [refs2, refs1, refs0] at hid
      · cases h
    · cases h
  | index t a i =>
    simp only [nevT] at h
    split at h
    · split at h
      · cases Option.some.inj h
        simp [refs2, refs1, refs0] at hid
      · cases h
    · cases h
  | indexAddr t a i =>
    simp only [nevT] at h
    split at h
    · split at h
      · split at h
        · split at h
          · split at h
            · cases Option.some.inj h
              simp [refs2, refs1, refs0] at hid
            · cases h
          · cases h
        · cases h
      · cases h
    · cases h
  | slice t a lo hi mx =>
    cases mx with
    | none =>
      simp only [nevT] at h
      split at h
      · split at h
        · split at h
          · cases Option.some.inj h
            simp [refs2, refs1, refs0] at hid
          · cases h
        · cases h
      · cases h
    | some m =>
      cases hi with
      | none => simp [nevT] at h
      | some h' =>
      simp only [nevT] at h
      split at h
      · split at h
        · split at h
          · cases Option.some.inj h
            simp [refs2, refs1, refs0] at hid
          · cases h
        · cases h
      · split at h
        · split at h
          · cases Option.some.inj h
            simp [refs2, refs1, refs0] at hid
          · cases h
        · cases h
      · cases h
  | extract a k =>
    simp only [nevT] at h
    split at h
    · rename_i vs hx
      have h1 := hρ a
      rw [hx] at h1
      obtain ⟨us, hy, hl⟩ := h1
      obtain ⟨u, hu, hr⟩ := hl.get k x h
      refine ⟨a, ?_⟩
      rw [hx]
      refine List.mem_flatMap.2 ⟨x, List.mem_of_getElem? h, ?_⟩
      cases x with
      | tup l => exact hr.elim
      | _ => exact hid
    · cases h
  | makeFunc fn first caps =>
    cases fn with
    | func f =>
      simp only [nevT] at h
      split at h
      · rename_i hc
        cases Option.some.inj h
        obtain ⟨z, hz, hid⟩ := List.mem_flatMap.1 hid
        simp only [List.mem_map] at hz
        obtain ⟨y, hy, rfl⟩ := hz
        exact ⟨y, refs02 hid⟩
      · cases h
    | _ => simp [nevT] at h
  | call c =>
    obtain ⟨callee, args, tys⟩ := c
    cases callee with
    | value f => simp [nevT] at h
    | invoke r m => simp [nevT] at h
    | builtin b =>
      cases b with
      | len =>
        simp only [nevT] at h
        split at h
        · split at h <;> first | (cases Option.some.inj h; simp [refs2, refs1, refs0] at hid) | cases h
        · cases h
      | min =>
        simp only [nevT] at h
        split at h
        · rw [ofScalar_refs h] at hid; simp at hid
        · cases h
      | max =>
        simp only [nevT] at h
        split at h
        · rw [ofScalar_refs h] at hid; simp at hid
        · cases h
      | _ => simp [nevT] at h
  | _ => simp [nevT] at h

theorem wf_same {x : V} {b : Nat} (hw : HpWf B hp) (hx : ∀ id ∈ refs2 x, B id) : WfOut B b x hp := ⟨fun id h => .inl (hx id h), hw.more b⟩

theorem wf_upd {x : V} {b : Nat} {k : Blk} (hw : HpWf B hp) (hx : ∀ id ∈ refs2 x, More B b id) (hk : ∀ id ∈ refsB k, B id) : WfOut B b x (inst hp b [k]) := by
  refine ⟨hx, fun id k' h => ?_⟩
  simp only [inst, upd] at h
  split at h
  · rename_i he
    cases h
    exact ⟨.inr ⟨by omega, by omega⟩, fun j hj => .inl (hk j hj)⟩
  · exact ⟨.inl (hw id k' h).1, fun j hj => .inl ((hw id k' h).2 j hj)⟩

/-- A row of a block in memory: cells of a box are cells; cells of other blocks are closed. -/
theorem row_refs {b : Nat} (c : MCtx P w0 U A B E G hp w ρ ρr b) {id r : Nat} {k : Blk} {row : List V} (hk : hp id = some k) (hr : k.rows[r]? = some row) {z : V} (hz : z ∈ row) : refs2 z = refs0 z ∧ ∀ i ∈ refs0 z, B i := by
  have hb := c.inv.blk id k hk
  obtain ⟨j, hj⟩ := List.getElem?_of_mem hz
  unfold BlkRel at hb
  cases hkk : k.kind with
  | box =>
    rw [hkk] at hb
    obtain ⟨b', row', cur, h1, h2, h3, h4, h5, h6⟩ := hb
    have hrow : row = row' := by
      rw [h3] at hr
      cases r with
      | zero => simpa using hr.symm
      | succ r => simp at hr
    subst hrow
    obtain ⟨y, hy, hv, _⟩ := h6.get j z hj
    refine ⟨vr0_refs hv, fun i hi => (c.wf id k hk).2 i ?_⟩
    unfold refsB
    rw [hkk, h3]
    simp only [List.flatMap_cons, List.flatMap_nil, List.append_nil, List.mem_flatMap]
    exact ⟨z, hz, hi⟩
  | arr =>
    rw [hkk] at hb
    rcases hb with ⟨h1, _⟩ | ⟨b', cur, cap, h1, h2, h3, h4, h5, h6, h7, h8⟩
    · rw [h1] at hr; simp at hr
    · obtain ⟨u, _, hrep⟩ := h8 r j row z hr hj
      have := rep_refs hrep
      exact ⟨by rw [this, rep_refs0 hrep], fun i hi => by rw [rep_refs0 hrep] at hi; simp at hi⟩
  | frz =>
    rw [hkk] at hb
    rcases hb with ⟨h1, _⟩ | ⟨b', cur, cap, fz, h1, h0, h2, h3, h4, h5, h6, h7, h8⟩
    · rw [h1] at hr; simp at hr
    · obtain ⟨u, _, hrep⟩ := h8 r j row z hr hj
      have := rep_refs hrep
      exact ⟨by rw [this, rep_refs0 hrep], fun i hi => by rw [rep_refs0 hrep] at hi; simp at hi⟩

theorem mk_refs' {g : Bool} {l : List V} {x : V} (h : mk g l = some x) (hl : ∀ z ∈ l, refs2 z = refs0 z ∧ ∀ i ∈ refs0 z, B i) : ∀ id ∈ refs2 x, B id := by
  intro id hid
  unfold mk at h
  split at h
  · cases h
    obtain ⟨z, hz, hid⟩ := List.mem_flatMap.1 hid
    exact (hl z hz).2 id hid
  · split at h
    · cases h
      obtain ⟨h1, h2⟩ := hl x (by simp)
      rw [h1] at hid
      exact h2 id hid
    · cases h

theorem M_wf {op : Op} {x : V} {b : Nat} {new : List Blk} (c : MCtx P w0 U A B E G hp w ρ ρr b) (h : nevM P op ρ hp b = some (x, new)) : WfOut B b x (inst hp b new) := by
  cases op with
  | alloc t =>
    simp only [nevM] at h
    split at h
    · rename_i d hd
      cases Option.some.inj h
      refine wf_upd c.wf (fun id hid => ?_) (fun id hid => ?_)
      · simp [refs2, refs1, refs0] at hid; subst hid; exact .inr ⟨Nat.le_refl _, by omega⟩
      · simp only [refsB, boxOf, List.flatMap_cons, List.flatMap_nil, List.append_nil, List.mem_flatMap] at hid
        obtain ⟨z, hz, hid⟩ := hid
        have := zero_refs hd z hz
        have := refs02 hid
        simp_all
    · cases h
  | box t a =>
    simp only [nevM] at h
    split at h
    · rename_i d hd
      split at h
      · cases Option.some.inj h
        refine wf_upd c.wf (fun id hid => ?_) (fun id hid => ?_)
        · simp [refs2, refs1, refs0] at hid; subst hid; exact .inr ⟨Nat.le_refl _, by omega⟩
        · simp only [refsB, boxOf, List.flatMap_cons, List.flatMap_nil, List.append_nil] at hid
          exact c.ids a id (refs_flatL hid)
      · cases h
    · cases h
  | load t a =>
    simp only [nevM] at h
    split at h
    · rename_i d hd
      split at h
      · rename_i row cc hx
        split at h
        · rename_i x' hb
          cases Option.some.inj h
          have ha := c.rel a
          rw [hx] at ha
          obtain ⟨bb, off, f, hg, hy, hrel⟩ := ha
          cases hseg : seg row cc d.size with
          | none => simp [hseg] at hb
          | some cs =>
            rw [hseg, Option.bind_some] at hb
            refine wf_same c.wf (mk_refs' hb fun z hz => ?_)
            obtain ⟨j, hj⟩ := List.getElem?_of_mem (seg_mem hseg hz)
            have hrep := (hrel j z hj).2
            have := rep_refs hrep
            exact ⟨by rw [this, rep_refs0 hrep], fun i hi => by rw [rep_refs0 hrep] at hi; simp at hi⟩
        · cases h
      · rename_i id r cc hx
        split at h
        · rename_i k hk
          split at h
          · rename_i row hr
            split at h
            · rename_i cs hseg
              split at h
              · split at h
                · rename_i x' hm
                  cases Option.some.inj h
                  exact wf_same c.wf (mk_refs' hm fun z hz => row_refs c hk hr (seg_mem hseg hz))
                · cases h
              · cases h
            · cases h
          · cases h
        · cases h
      · cases h
    · cases h
  | indexAddr t a i =>
    simp only [nevM] at h
    split at h
    · rename_i id lo n k j hx hi
      split at h
      · split at h
        · split at h
          · cases Option.some.inj h
            refine wf_same c.wf (fun i' hi' => c.ids a i' ?_)
            rw [hx]
            exact hi'
          · cases h
        · cases h
      · cases h
    · cases h
  | makeSlice t l m =>
    simp only [nevM] at h
    split at h
    · split at h
      · rename_i d hd
        split at h
        · rename_i hc
          cases Option.some.inj h
          refine wf_upd c.wf (fun id hid => ?_) (fun id hid => ?_)
          · simp [refs2, refs1, refs0] at hid; subst hid; exact .inr ⟨Nat.le_refl _, by omega⟩
          · simp [refsB, arrOf] at hid
        · cases h
      · cases h
    · cases h
  | convert s d a =>
    simp only [nevM] at h
    split at h
    · split at h
      · split at h
        · cases Option.some.inj h
          exact wf_same c.wf (fun i hi => by simp [refs2, refs1, refs0] at hi)
        · cases h
      · cases h
    · split at h
      · split at h
        · split at h
          · cases Option.some.inj h
            exact wf_same c.wf (fun i hi => by simp [refs2, refs1, refs0] at hi)
          · cases h
        · cases h
      · cases h
    · split at h
      · cases Option.some.inj h
        exact wf_same c.wf (fun i hi => by simp [refs2, refs1, refs0] at hi)
      · cases h
    · split at h
      · cases Option.some.inj h
        exact wf_same c.wf (fun i hi => by simp [refs2, refs1, refs0] at hi)
      · cases h
    · cases h
  | _ => simp [nevM] at h

theorem T_step {op : Op} {b : Nat} {o : Oper} {a : Act} {x : V} (c : MCtx P w0 U A B E G hp w ρ a.eval b) (ho : o.op = op) (h : nevT P op ρ = some x) :
    StepsTo P w0 U A B E G hp w o a x hp ∧ WfOut B b x hp :=
  ⟨(MGives.same c (T_ok (fun _ => rfl) c.rel h)).steps ho, wf_same c.wf fun id hid => by obtain ⟨y, hy⟩ := T_refs c.rel h id hid; exact c.ids y id hy⟩

theorem M_step {op : Op} {b : Nat} {o : Oper} {a : Act} {x : V} {new : List Blk} (c : MCtx P w0 U A B E G hp w ρ a.eval b) (ho : o.op = op) (h : nevM P op ρ hp b = some (x, new)) :
    StepsTo P w0 U A B E G hp w o a x (inst hp b new) ∧ WfOut B b x (inst hp b new) := ⟨(M_ok c h).steps ho, M_wf c h⟩

/-- One operation. -/
theorem weOp_sound {R : Rel} {cf : Cfg} (hR : RSpec P J U w0 R) {op : Op} {o : Oper} {a : Act} {b : Nat} {K : Cont}
    (c : MCtx P w0 U A B E G hp w ρ a.eval b) (ho : o.op = op) (h : weOp P R cf op b ρ hp K) : ∃ x hp' cls, K x hp' cls ∧ StepsTo P w0 U A B E G hp w o a x hp' ∧ WfOut B b x hp' := by
  have rest : (match nevT P op ρ with | some x => K x hp .T | none => caseO (nevM P op ρ hp b) fun z => z.2.length ≤ 16 ∧ K z.1 (inst hp b z.2) .M) → ∃ x hp' cls, K x hp' cls ∧ StepsTo P w0 U A B E G hp w o a x hp' ∧ WfOut B b x hp' := by
    intro h
    split at h
    · rename_i x hx
      obtain ⟨h1, h2⟩ := T_step c ho hx
      exact ⟨_, _, _, h, h1, h2⟩
    · obtain ⟨z, hz, _, hK⟩ := caseO_some' h
      obtain ⟨h1, h2⟩ := M_step c ho (x := z.1) (new := z.2) hz
      exact ⟨_, _, _, hK, h1, h2⟩
  unfold weOp at h
  split at h
  · rename_i t ad x
    obtain ⟨hp', h1, h2, h3⟩ := store_sound c ho h
    exact ⟨_, _, _, h1, h2, h3⟩
  · exact build_sound c ho h
  · rename_i t x lo hi
    split at h
    · obtain ⟨z, hz, hK⟩ := caseO_some' h
      obtain ⟨h1, h2⟩ := T_step c ho hz
      exact ⟨_, _, _, hK, h1, h2⟩
    · exact slice_sound c ho h
  · split at h
    · rename_i hargs
      exact append_sound c ho hargs h
    · exact h.elim
  · split at h
    · rename_i hf
      exact call_sound hR c ho hf h
    · exact h.elim
  · exact rest h

end Go.Proofs.YtnhibkgoinnmcaaDoor.Ev
end

/-! #### Ev21 -/
section
/- The state of the evaluator and the frame of the machine: one operation of a region. -/
namespace Go.Proofs.YtnhibkgoinnmcaaDoor.Ev
open Go
set_option linter.unusedVariables false
set_option linter.unusedSimpArgs false

variable {P : Program} {J : Tabs} {w w' w0 : World} {E E' E0 : Env} {hp hp' hp0 : Hp} {G G' G0 U A W F S : Nat → Prop} {B B' : Nat → Prop} {ρ : Operand → V} {ρr : Operand → Value}

/-- What a run of the evaluator has kept of the blocks that it was handed. -/
theorem ext_kept {e : Nat} (hI : HpInv w0 U A E0 G0 hp0 w) (hx : Ext (fun j => j < e) E0 G0 hp0 w E' G' hp' w') {j : Nat} (hj : j < e) {k' : Blk} (hk' : hp' j = some k') :
    ∃ k, hp0 j = some k ∧ (k.kind ≠ .box → k'.kind ≠ .box ∧ k.rows.length ≤ k'.rows.length) ∧ ∀ b, E0.m j = some b → k'.size = k.size ∧ E'.m j = some b := by
  cases hk : hp0 j with
  | none =>
    exfalso
    have h1 := hx.v0 (.rf j 0 0) (.pointer (some ⟨0, 0, none⟩)) (fun id hid => by simp [refs0] at hid; subst hid; exact hj) ⟨0, 0, rfl, fun k h => by rw [hk] at h; cases h⟩
    have h2 := hx.v0 (.rf j 0 0) (.pointer (some ⟨1, 0, none⟩)) (fun id hid => by simp [refs0] at hid; subst hid; exact hj) ⟨1, 0, rfl, fun k h => by rw [hk] at h; cases h⟩
    obtain ⟨b1, o1, e1, f1⟩ := h1
    obtain ⟨b2, o2, e2, f2⟩ := h2
    cases e1
    cases e2
    have := (f1 k' hk').1
    rw [(f2 k' hk').1] at this
    cases this
  | some k =>
    have hin : ∀ id ∈ ([j] : List Nat), id < e := fun id hid => by simp at hid; subst hid; exact hj
    refine ⟨k, rfl, fun hkind => ⟨?_, ?_⟩, fun b hb => ?_⟩
    · obtain ⟨a, cap, hy, h⟩ := hx.v0 (.ar j 0 0) (.slice none 0 0) hin ⟨none, 0, rfl, fun k1 h1 => by rw [hk] at h1; cases h1; exact ⟨hkind, by omega, .inl ⟨rfl, rfl⟩⟩⟩
      exact (h k' hk').1
    · by_cases h0 : k.rows.length = 0
      · omega
      · have hb := hI.blk j k hk
        unfold BlkRel at hb
        have key : ∀ (bb cap : Nat) (cur : Array Value) (ty : TypeId) (fz : Nat × Nat), k.kind ≠ .box → E0.m j = some bb → w.heap[bb]? = some (.cells cur ty fz) → cur.size = cap * k.size → k.rows.length ≤ cap → k.rows.length ≤ k'.rows.length := by
          intro bb cap cur ty fz hkd hm hh hs hc
          obtain ⟨a, cap', hy, h⟩ := hx.v0 (.ar j 0 k.rows.length) (.slice (some ⟨bb, 0, none⟩) k.rows.length cap) hin ⟨_, _, rfl, fun k1 h1 => by
            rw [hk] at h1
            cases h1
            exact ⟨hkd, by omega, .inr ⟨bb, cur, ty, fz, hm, by simp, hc, hh, by rw [hs]; simp⟩⟩⟩
          have := (h k' hk').2.1
          omega
        cases hkk : k.kind with
        | box =>
          exact absurd hkk hkind
        | arr =>
          rw [hkk] at hb
          rcases hb with ⟨q1, _⟩ | ⟨bb, cur, cap, q1, q2, q3, q4, q5, q6, _⟩
          · rw [q1] at h0; simp at h0
          · exact key bb cap cur _ _ (by rw [hkk]; simp) q1 q2 q4 q6
        | frz =>
          rw [hkk] at hb
          rcases hb with ⟨q1, _⟩ | ⟨bb, cur, cap, fz, q1, q0, q2, q3, q4, q5, q6, _⟩
          · rw [q1] at h0; simp at h0
          · exact key bb cap cur _ _ (by rw [hkk]; simp) q1 q2 q4 q6
    · obtain ⟨b1, o1, e1, f1⟩ := hx.v0 (.rf j 1 0) (.pointer (some ⟨b, k.size, none⟩)) hin ⟨b, k.size, rfl, fun k1 h1 => by rw [hk] at h1; cases h1; exact ⟨hb, by omega⟩⟩
      cases e1
      obtain ⟨g1, g2⟩ := f1 k' hk'
      exact ⟨by omega, g1⟩

/-- The evaluator's slots and blocks, and the machine's frame and world. -/
structure SB (w0 : World) (U A : Nat → Prop) (E0 : Env) (G0 : Nat → Prop) (hp0 : Hp) (e nt : Nat) (B : Nat → Prop) (tm : Tm) (hp : Hp) (a : Act) (w : World) : Prop where
  size : a.tmps.size = nt
  defers : a.defers = []
  low : ∀ j, j < e → B j
  env : ∃ E G, HpInv w0 U A E G hp w ∧ HpWf B hp ∧ (∀ t, VR2 w E hp G (tm t) (a.tmps.getD t undef)) ∧ (∀ t, ∀ id ∈ refs2 (tm t), B id) ∧ Ext (fun j => j < e) E0 G0 hp0 w0 E G hp w

theorem const_refs (c : Value) : refs2 (ofConst c) = [] := by
  have h0 : ∀ x, refs2 (ofCell x) = [] ∧ refs0 (ofCell x) = [] := by
    intro x
    unfold ofCell
    split
    · exact ⟨rfl, rfl⟩
    · split <;> exact ⟨rfl, rfl⟩
  unfold ofConst
  split
  · rename_i cs
    show (cs.toList.map ofCell).flatMap refs0 = []
    rw [List.flatMap_eq_nil_iff]
    intro x hx
    obtain ⟨y, _, rfl⟩ := List.mem_map.1 hx
    exact (h0 y).2
  · exact (h0 _).1

theorem opnd_refs {tm : Tm} (h : ∀ t, ∀ id ∈ refs2 (tm t), B id) (x : Operand) : ∀ id ∈ refs2 (opnd tm x), B id := by
  cases x with
  | tmp t => exact h t
  | const c => intro id hid; rw [opnd, const_refs] at hid; simp at hid
  | global g => intro id hid; simp [opnd, refs2, refs1, refs0] at hid
  | func f => intro id hid; simp [opnd, refs2, refs1] at hid

theorem put_get {tm : Tm} {dst : Option Tmp} {x : V} {t : Nat} : put tm dst x t = tm t ∨ (dst = some t ∧ put tm dst x t = x) := by
  unfold put
  cases dst with
  | none => exact .inl rfl
  | some d =>
    simp only [upd]
    by_cases h : t = d
    · subst h; right; simp
    · left; simp [h]

theorem act_put {a : Act} {dst : Option Tmp} {y : Value} (hd : ∀ d, dst = some d → d < a.tmps.size) : (a.put dst y).tmps.size = a.tmps.size ∧ (a.put dst y).defers = a.defers ∧
    ∀ t, (a.put dst y).tmps.getD t undef = if dst = some t then y else a.tmps.getD t undef := by
  cases dst with
  | none => exact ⟨rfl, rfl, fun t => by simp [Act.put]⟩
  | some d =>
    refine ⟨by simp [Act.put], rfl, fun t => ?_⟩
    have hlt := hd d rfl
    simp only [Act.put, Array.getD_eq_getD_getElem?, Option.some.injEq, Array.getElem?_setIfInBounds]
    by_cases h : d = t
    · subst h; simp [hlt]
    · simp [h]

theorem SB.put {e nt : Nat} {tm : Tm} {a : Act} (h : SB w0 U A E0 G0 hp0 e nt B tm hp a w) {dst : Option Tmp} {x : V} {y : Value} (hd : ∀ d, dst = some d → d < nt)
    (hx : ∀ E G, HpInv w0 U A E G hp w → VR2 w E hp G x y) (hr : refs2 x = []) : SB w0 U A E0 G0 hp0 e nt B (put tm dst x) hp (a.put dst y) w := by
  obtain ⟨E, G, h1, h2, h3, h4, h5⟩ := h.env
  obtain ⟨p1, p2, p3⟩ := act_put (a := a) (dst := dst) (y := y) (fun d hh => by rw [h.size]; exact hd d hh)
  refine ⟨p1.trans h.size, p2.trans h.defers, h.low, E, G, h1, h2, fun t => ?_, fun t id hid => ?_, h5⟩
  · rw [p3]
    unfold Ev.put
    cases dst with
    | none => simpa using h3 t
    | some d =>
      simp only [upd, Option.some.injEq]
      by_cases ht : t = d
      · subst ht; simpa using hx E G h1
      · have : ¬ d = t := fun hh => ht hh.symm
        simpa [ht, this] using h3 t
  · rcases put_get (tm := tm) (dst := dst) (x := x) (t := t) with hp | ⟨_, hp⟩
    · rw [hp] at hid; exact h4 t id hid
    · rw [hp, hr] at hid; simp at hid

theorem SB.mono {e nt : Nat} {tm : Tm} {a : Act} (h : SB w0 U A E0 G0 hp0 e nt B tm hp a w) (hB : ∀ i, B i → B' i) : SB w0 U A E0 G0 hp0 e nt B' tm hp a w := by
  obtain ⟨E, G, h1, h2, h3, h4, h5⟩ := h.env
  exact ⟨h.size, h.defers, fun j hj => hB j (h.low j hj), E, G, h1, fun id k hk => ⟨hB id (h2 id k hk).1, fun j hj => hB j ((h2 id k hk).2 j hj)⟩, h3, fun t id hid => hB id (h4 t id hid), h5⟩

/-- One operation, from state to state. -/
theorem SB.step {R : Rel} {cf : Cfg} (hR : RSpec P J U w0 R) {o : Oper} {a : Act} {b e nt : Nat} {tm : Tm} {K : Cont}
    (h : SB w0 U A E0 G0 hp0 e nt B tm hp a w) (hnew : ∀ j, j < 16 → ¬ B (b + j)) (hd : ∀ d, o.dst = some d → d < nt) (hK : weOp P R cf o.op b (opnd tm) hp K) :
    ∃ x hp' cls, K x hp' cls ∧ ∀ (next : Act → World → Prop) (Q : Exit → Act → World → Prop),
      (∀ a' w', SB w0 U A E0 G0 hp0 e nt (More B b) (Ev.put tm o.dst x) hp' a' w' → next a' w') → o.wp P a w next Q := by
  obtain ⟨E, G, h1, h2, h3, h4, h5⟩ := h.env
  obtain ⟨x, hp', cls, hk, hs, hw⟩ := weOp_sound hR (o := o) (a := a) (b := b) ⟨h1, h2, fun x => opnd_rel h3 x, fun x => opnd_refs h4 x, hnew⟩ rfl hK
  refine ⟨x, hp', cls, hk, fun next Q hn => hs next Q fun y w' E' G' g1 g2 g3 => hn _ _ ?_⟩
  obtain ⟨p1, p2, p3⟩ := act_put (a := a) (dst := o.dst) (y := y) (fun d hh => by rw [h.size]; exact hd d hh)
  refine ⟨p1.trans h.size, p2.trans h.defers, fun j hj => .inl (h.low j hj), E', G', g1, hw.2, fun t => ?_, fun t id hid => ?_, ?_⟩
  · rw [p3]
    have hold : VR2 w' E' hp' G' (tm t) (a.tmps.getD t undef) := g3.v2 _ _ (h4 t) (h3 t)
    unfold Ev.put
    cases hdst : o.dst with
    | none => simpa using hold
    | some d =>
      simp only [upd, Option.some.injEq]
      by_cases ht : t = d
      · subst ht; simpa using g2
      · have : ¬ d = t := fun hh => ht hh.symm
        simpa [ht, this] using hold
  · rcases put_get (tm := tm) (dst := o.dst) (x := x) (t := t) with hp | ⟨_, hp⟩
    · rw [hp] at hid; exact .inl (h4 t id hid)
    · rw [hp] at hid; exact hw.1 id hid
  · exact h5.trans g3 h.low

end Go.Proofs.YtnhibkgoinnmcaaDoor.Ev
end

/-! #### Ev22 -/
section
/- A region that keeps its order. -/
namespace Go.Proofs.YtnhibkgoinnmcaaDoor.Ev
open Go
set_option linter.unusedVariables false
set_option linter.unusedSimpArgs false

variable {P : Program} {J : Tabs} {w w' w0 : World} {E E' E0 : Env} {hp hp' hp0 : Hp} {G G' G0 U A W F S : Nat → Prop} {B B' : Nat → Prop} {ρ : Operand → V} {ρr : Operand → Value}

theorem caseB_true {x : V} {F : Bool → Prop} (h : caseB x F) : ∃ t, x = .v (.bool t) ∧ F t := by
  unfold caseB at h
  split at h
  · exact ⟨_, rfl, h⟩
  · exact h.elim

theorem SB.bool {e nt : Nat} {tm : Tm} {a : Act} (h : SB w0 U A E0 G0 hp0 e nt B tm hp a w) {d : Nat} {t : Bool} (hd : tm d = .v (.bool t)) : a.tmps[d]? = some (.bool t) := by
  obtain ⟨E, G, h1, h2, h3, h4, h5⟩ := h.env
  have := h3 d
  rw [hd] at this
  have hy := (vr2_v this).1
  rw [Array.getD_eq_getD_getElem?] at hy
  cases hh : a.tmps[d]? with
  | some v => rw [hh] at hy; exact congrArg some hy
  | none => rw [hh] at hy; cases hy

theorem SB.wanted {e nt : Nat} {tm : Tm} {a : Act} (h : SB w0 U A E0 G0 hp0 e nt B tm hp a w) {ops : Array Oper} {o : Oper} {j : Nat} {want t : Bool} {d : Nat}
    (hg : o.guard = some (j, want)) (hj : (ops[j]?).bind (·.dst) = some d) (hd : guardC (tm d) want = some t) : Region.wanted o (yielded ops a.tmps) = t := by
  unfold Region.wanted yielded
  rw [hg]
  simp only [hj, Option.bind_some]
  unfold guardC at hd
  split at hd
  · rename_i he
    cases hd
    have := h.bool he
    simp only [this]
    rfl
  · rename_i he
    cases hd
    obtain ⟨E, G, h1, h2, h3, h4, h5⟩ := h.env
    have := h3 d
    rw [he] at this
    obtain ⟨us, hu, _⟩ := this
    rw [Array.getD_eq_getD_getElem?] at hu
    cases hh : a.tmps[d]? with
    | some v => rw [hh] at hu; have hu : v = .tuple us := hu; subst hu; rfl
    | none => rfl
  · cases hd

theorem weOp_room {R : Rel} {cf : Cfg} {e nt : Nat} {b : Nat} {tm : Tm} {a : Act} {o : Oper} {K : Cont} {next : Act → World → Prop} {Q : Exit → Act → World → Prop}
    (hR : RSpec P J U w0 R) (h : SB w0 U A E0 G0 hp0 e nt B tm hp a w) (hnew : ∀ j, j < 16 → ¬ B (b + j)) (hd : ∀ d, o.dst = some d → d < nt)
    (hK : weOp P R cf o.op b (opnd tm) hp K) (hn : ∀ x hp' cls a' w', K x hp' cls → SB w0 U A E0 G0 hp0 e nt (More B b) (Ev.put tm o.dst x) hp' a' w' → next a' w') : o.wp P a w next Q := by
  obtain ⟨x, hp', cls, hk, hs⟩ := h.step hR hnew hd hK
  exact hs next Q fun a' w' hsb => hn x hp' cls a' w' hk hsb

theorem any_vr2 {y : Value} : VR2 w E hp G .any y := trivial

theorem undef_vr2 : VR2 w E hp G (.tup []) undef := ⟨#[], rfl, trivial⟩

theorem ops_sound {R : Rel} {cf : Cfg} (hR : RSpec P J U w0 R) {e nt : Nat} {ops : Array Oper} {Q : Exit → Act → World → Prop} {c : Nat} {K : St → Prop} :
    ∀ (l : List Oper) (i : Nat) (tm : Tm) (hp : Hp) (a : Act) (w : World), (∀ o ∈ l, ∀ d, o.dst = some d → d < nt) → weOps P R cf ops.toList false l i ⟨tm, hp, c⟩ K →
      SB w0 U A E0 G0 hp0 e nt (fun id => id < 16 * (c + i)) tm hp a w →
      (∀ tm' hp' a' w', K ⟨tm', hp', c⟩ → SB w0 U A E0 G0 hp0 e nt (fun id => id < 16 * (c + (i + l.length))) tm' hp' a' w' → Q .normal a' w') → wpList P ops Q l a w
  | [], i, tm, hp, a, w, _, h, hs, hQ => hQ tm hp a w h (by simpa using hs)
  | o :: l, i, tm, hp, a, w, hd, h, hs, hQ => by
    have hmore : ∀ id, More (fun id => id < 16 * (c + i)) (16 * (c + i)) id → id < 16 * (c + (i + 1)) := fun id h => by rcases h with h | h <;> omega
    have hrest : ∀ x hp' a' w', weOps P R cf ops.toList false l (i + 1) ⟨put tm o.dst x, hp', c⟩ K → SB w0 U A E0 G0 hp0 e nt (More (fun id => id < 16 * (c + i)) (16 * (c + i))) (Ev.put tm o.dst x) hp' a' w' → wpList P ops Q l a' w' :=
      fun x hp' a' w' hK hsb => ops_sound hR l (i + 1) _ _ a' w' (fun o ho => hd o (by simp [ho])) hK (hsb.mono hmore) fun tm2 hp2 a2 w2 h1 h2 => hQ tm2 hp2 a2 w2 h1 (by
        refine h2.mono fun id hid => ?_
        simp only [List.length_cons]; omega)
    unfold weOps at h
    have hop : opAt P R cf false o.op (16 * (c + i)) (opnd tm) hp (fun x hp cls =>
        drawn false (eOK ops.toList i) cls (weOps P R cf ops.toList false l (i + 1) { tm := put tm o.dst x, hp := hp, c := c } K)) → o.wp P a w (wpList P ops Q l) Q := by
      intro h
      exact weOp_room hR hs (fun j hj => by omega) (hd o (by simp)) h fun x hp' cls a' w' hK hsb => hrest x hp' a' w' hK hsb
    unfold wpList
    split at h
    · rename_i hg
      have hw : Region.wanted o (yielded ops a.tmps) = true := by simp [Region.wanted, hg]
      rw [if_pos hw]
      exact .inl (hop h)
    · rename_i j want hg
      obtain ⟨y, hy, h⟩ := caseO_some' h
      obtain ⟨t, hyt, h'⟩ := caseO_some' h
      clear h
      simp only [Option.map_eq_some_iff] at hy
      obtain ⟨d, hjd, hyd⟩ := hy
      have hjd' : (ops[j]?).bind (·.dst) = some d := by simpa using hjd
      have hwant := hs.wanted hg hjd' (hyd ▸ hyt)
      cases t with
      | true =>
        simp only [if_true] at h'
        rw [hwant, if_pos rfl]
        exact .inl (hop h')
      | false =>
        simp only [Bool.false_eq_true, if_false] at h'
        rw [hwant]
        simp only [Bool.false_eq_true, if_false]
        refine hrest (.tup []) hp _ _ h' ?_
        exact (hs.put (hd o (by simp)) (fun E G _ => undef_vr2) rfl).mono fun _ h => .inl h

theorem region_sound {R : Rel} {cf : Cfg} (hR : RSpec P J U w0 R) {e nt id : Nat} {ops : Array Oper} {Q : Exit → Act → World → Prop} {st : St} {K : St → Prop} {a : Act}
    (hd : ∀ o ∈ ops.toList, ∀ d, o.dst = some d → d < nt) (h : weOps P R cf ops.toList false ops.toList 0 st fun s => K { s with c := s.c + ops.size })
    (hs : SB w0 U A E0 G0 hp0 e nt (fun id => id < 16 * st.c) st.tm st.hp a w)
    (hQ : ∀ st' a' w', K st' → SB w0 U A E0 G0 hp0 e nt (fun id => id < 16 * st'.c) st'.tm st'.hp a' w' → Q .normal a' w') : (Code.region id ops false).wp P Q a w := by
  obtain ⟨tm, hp, c⟩ := st
  refine wp_region_list (ops_sound hR ops.toList 0 tm hp a w hd h (by simpa using hs) fun tm' hp' a' w' hK h' => hQ _ a' w' hK ?_)
  simpa using h'

end Go.Proofs.YtnhibkgoinnmcaaDoor.Ev
end

/-! #### EvN -/
section
/- Slices are laid in one form where ways meet: what stood in memory stands there still. -/
namespace Go.Proofs.YtnhibkgoinnmcaaDoor.Ev
open Go
set_option linter.unusedVariables false
set_option linter.unusedSimpArgs false

variable {P : Program} {w w' w0 : World} {E E' E0 : Env} {hp hp' hp0 : Hp} {G G' G0 U A W F S : Nat → Prop} {B B' : Nat → Prop}

/-- What a turn of form leaves behind. -/
structure NS (w0 : World) (U A : Nat → Prop) (B : Nat → Prop) (b n : Nat) (E : Env) (G : Nat → Prop) (hp : Hp) (w : World) (hp' : Hp) (E' : Env) (G' : Nat → Prop) : Prop where
  inv : HpInv w0 U A E' G' hp' w
  wf : HpWf (fun i => B i ∨ (b ≤ i ∧ i < b + n)) hp'
  ext : Ext B E G hp w E' G' hp' w
  box : ∀ id k, B id → hp id = some k → k.kind = .box → hp' id = some k

theorem HpWf.mono (h : HpWf B hp) (hb : ∀ i, B i → B' i) : HpWf B' hp := fun id k hk => ⟨hb id (h id k hk).1, fun j hj => hb j ((h id k hk).2 j hj)⟩

theorem NS.refl (hI : HpInv w0 U A E G hp w) (hw : HpWf B hp) {b : Nat} : NS w0 U A B b 0 E G hp w hp E G :=
  ⟨hI, hw.mono fun _ h => .inl h, Ext.refl _ _ _ _ _, fun _ _ _ h _ => h⟩

theorem frz_im (hI : HpInv w0 U A E G hp w) {id lo n : Nat} {k : Blk} {y : Value} (hy : VR0 w E hp G (.ar id lo n) y) (hk : hp id = some k) (hkk : k.kind = .frz) : Rep w G (.im ((k.rows.take (lo + n)).drop lo)) y := by
  refine ar_im hI hy hk (fun b hb => ?_) (fun b hb => ?_)
  · have := hI.blk id k hk
    unfold BlkRel at this
    simp only [hkk] at this
    rcases this with ⟨_, h2⟩ | ⟨b', _, _, _, h1, h1', _⟩
    · rw [hb] at h2; cases h2
    · rw [hb] at h1; cases h1; exact h1'
  · rw [if_neg (by simp [hkk])] at hb; exact hb

theorem normC_sound {m : Md} {x x' : V} {y : Value} {b n : Nat} (hI : HpInv w0 U A E G hp w) (hw : HpWf B hp) (hv : VR0 w E hp G x y) (hx : ∀ i ∈ refs0 x, B i) (hb : ∀ i, b ≤ i → ¬ B i) (h : normC m x hp b = some (x', hp', n)) :
    ∃ E' G', NS w0 U A B b n E G hp w hp' E' G' ∧ VR0 w E' hp' G' x' y ∧ (∀ i ∈ refs0 x', B i ∨ (b ≤ i ∧ i < b + n)) := by
  unfold normC at h
  split at h
  · cases h; exact ⟨E, G, NS.refl hI hw, hv, fun i hi => .inl (hx i hi)⟩
  · rename_i ty size deep
    split at h
    · cases h
      have hfr : hp b = none := HpInv.fresh hw (hb b (Nat.le_refl _))
      obtain ⟨g1, g2⟩ := hI.add hw (hb b (Nat.le_refl _)) (Fr.refl (fun _ => False) w) Loose.none (fun _ h => h.elim) (arrOf ty size deep []) none (fun _ => False) (fun _ h => by cases h) (fun _ h => h.elim) (by
        unfold BlkRel arrOf
        exact .inl ⟨rfl, by simp [upd]⟩)
      refine ⟨_, _, ⟨g1, fun id k hk => ?_, g2, fun id k hid hk _ => ?_⟩, ?_, fun i hi => ?_⟩
      · by_cases hid : id = b
        · subst hid
          simp only [upd, if_true, Option.some.injEq] at hk
          subst hk
          exact ⟨.inr ⟨Nat.le_refl _, by omega⟩, fun j hj => by simp [refsB, arrOf] at hj⟩
        · simp only [upd, if_neg hid] at hk
          exact ⟨.inl (hw id k hk).1, fun j hj => .inl ((hw id k hk).2 j hj)⟩
      · have : id ≠ b := fun he => hb b (Nat.le_refl _) (he ▸ hid)
        simp only [upd, if_neg this]; exact hk
      · cases hv with
        | em a =>
          refine ⟨a, 0, rfl, fun k hk => ?_⟩
          simp only [upd, if_true, Option.some.injEq] at hk
          subst hk
          exact ⟨by simp [arrOf], by simp [arrOf], .inl ⟨rfl, rfl⟩⟩
      · simp only [refs0, List.mem_singleton] at hi
        subst hi
        exact .inr ⟨Nat.le_refl _, by omega⟩
    · split at h
      · split at h
        · cases h; exact ⟨E, G, NS.refl hI hw, hv, fun i hi => .inl (hx i hi)⟩
        · cases h
      · cases h
    · cases h
  · split at h
    · cases h
      refine ⟨E, G, NS.refl hI hw, ?_, fun i hi => by simp [refs0] at hi⟩
      cases hv with
      | em a => exact Rep.im0 a 0
    · cases h; exact ⟨E, G, NS.refl hI hw, hv, fun i hi => .inl (hx i hi)⟩
    · rename_i id lo n'
      split at h
      · rename_i k hk
        have key : ∀ rows, some (V.im rows, freeze hp [id], 0) = some (x', hp', n) → rows = (k.rows.take (lo + n')).drop lo → k.kind ≠ .box → ∃ E' G', NS w0 U A B b n E G hp w hp' E' G' ∧ VR0 w E' hp' G' x' y ∧ (∀ i ∈ refs0 x', B i ∨ (b ≤ i ∧ i < b + n)) := by
          intro rows h hr hkb
          cases h
          obtain ⟨G1, h1, h2, h3, h4⟩ := hI.freezeL (B := B) [id]
          refine ⟨E, G1, ⟨h1, (hw.freeze [id]).mono fun _ h => .inl h, h2, fun j kj hj hkj hkk => ?_⟩, ?_, fun i hi => by simp [refs0] at hi⟩
          · by_cases hji : j = id
            · subst hji; rw [hk] at hkj; cases hkj; exact absurd hkk hkb
            · rw [freeze_other _ _ _ (by simpa using hji)]; exact hkj
          · have hk' : freeze hp [id] id = some { k with kind := .frz } := by
              simp only [freeze, upd, if_true, hk, Option.map_some, Option.some.injEq]
              cases hkk : k.kind with
              | box => exact absurd hkk hkb
              | arr => rfl
              | frz => rfl
            have := frz_im h1 (h2.v0 _ _ hx hv) hk' rfl
            rw [hr]
            exact this
        split at h
        · cases h
        · rename_i hkb; exact key _ h rfl (fun he => hkb he)
      · cases h
    · cases h

theorem NS.trans {hp1 hp2 : Hp} {E1 E2 : Env} {G1 G2 : Nat → Prop} {b n k : Nat} (h : NS w0 U A B b n E G hp w hp1 E1 G1) (g : NS w0 U A (fun i => B i ∨ (b ≤ i ∧ i < b + n)) (b + n) k E1 G1 hp1 w hp2 E2 G2) : NS w0 U A B b (n + k) E G hp w hp2 E2 G2 :=
  ⟨g.inv, g.wf.mono fun i hi => by rcases hi with (hi | hi) | hi; exact .inl hi; exact .inr ⟨hi.1, by omega⟩; exact .inr ⟨by omega, by omega⟩, h.ext.trans g.ext fun _ h => .inl h, fun id k' hid hk hkk => g.box id k' (.inl hid) (h.box id k' hid hk hkk) hkk⟩

theorem normL_sound : ∀ {ms : List Md} {xs xs' : List V} {ys : List Value} {E : Env} {G B : Nat → Prop} {hp hp' : Hp} {b n : Nat}, HpInv w0 U A E G hp w → HpWf B hp → VL (VR0 w E hp G) xs ys → (∀ i ∈ xs.flatMap refs0, B i) → (∀ i, b ≤ i → ¬ B i) → normL ms xs hp b = some (xs', hp', n) →
    ∃ E' G', NS w0 U A B b n E G hp w hp' E' G' ∧ VL (VR0 w E' hp' G') xs' ys ∧ (∀ i ∈ xs'.flatMap refs0, B i ∨ (b ≤ i ∧ i < b + n))
  | [], [], xs', ys, E, G, B, hp, hp', b, n, hI, hw, hv, hx, hb, h => by
    simp only [normL, Option.some.injEq, Prod.mk.injEq] at h
    obtain ⟨rfl, rfl, rfl⟩ := h
    exact ⟨E, G, NS.refl hI hw, hv, fun i hi => by simp at hi⟩
  | m :: ms, x :: xs, xs', ys, E, G, B, hp, hp', b, n, hI, hw, hv, hx, hb, h => by
    simp only [normL] at h
    split at h
    · rename_i z hp1 k1 h1
      split at h
      · rename_i zs hp2 k2 h2
        simp only [Option.some.injEq, Prod.mk.injEq] at h
        obtain ⟨rfl, rfl, rfl⟩ := h
        cases ys with
        | nil => exact hv.elim
        | cons y ys =>
          obtain ⟨E1, G1, s1, v1, r1⟩ := normC_sound hI hw hv.1 (fun i hi => hx i (by simp [hi])) hb h1
          have hx2 : ∀ i ∈ xs.flatMap refs0, B i := fun i hi => hx i (by rw [List.flatMap_cons]; exact List.mem_append_right _ hi)
          obtain ⟨E2, G2, s2, v2, r2⟩ := normL_sound s1.inv s1.wf (hv.2.mono fun x hxm y hxy => s1.ext.v0 x y (fun i hi => hx2 i (List.mem_flatMap.2 ⟨x, hxm, hi⟩)) hxy) (fun i hi => .inl (hx2 i hi))
            (fun i hi hB => by rcases hB with hB | hB; exact hb i (by omega) hB; omega) h2
          refine ⟨E2, G2, s1.trans s2, ⟨s2.ext.v0 z y r1 v1, v2⟩, fun i hi => ?_⟩
          rw [List.flatMap_cons] at hi
          rcases List.mem_append.1 hi with hi | hi
          · rcases r1 i hi with h | h
            · exact .inl h
            · exact .inr ⟨h.1, by omega⟩
          · rcases r2 i hi with (h | h) | h
            · exact .inl h
            · exact .inr ⟨h.1, by omega⟩
            · exact .inr ⟨by omega, by omega⟩
      · cases h
    · cases h
  | [], _ :: _, _, _, _, _, _, _, _, _, _, _, _, _, _, _, h => by simp [normL] at h
  | _ :: _, [], _, _, _, _, _, _, _, _, _, _, _, _, _, _, h => by simp [normL] at h

/-- The cells of a box told otherwise: memory is as it was. -/
theorem box_retell (hI : HpInv w0 U A E G hp w) (hw : HpWf B hp) {id : Nat} {k : Blk} {row cs : List V} (hk : hp id = some k) (hkk : k.kind = .box) (hrow : k.rows = [row]) (hok : cs.all okCell = true)
    (hcs : ∀ b cur, E.m id = some b → w.heap[b]? = some (.cells cur k.ty (0, 0)) → VL (VR0 w E hp G) cs cur.toList) (hB : ∀ i ∈ cs.flatMap refs0, B i) :
    HpInv w0 U A E G (upd hp id (some { k with rows := [cs] })) w ∧ HpWf B (upd hp id (some { k with rows := [cs] })) ∧ Ext B E G hp w E G (upd hp id (some { k with rows := [cs] })) w := by
  have hl : liveB k = true := by simp [liveB, hkk]
  have hsub : ∀ j kj, upd hp id (some { k with rows := [cs] }) j = some kj → ∃ kj', hp j = some kj' ∧ kj.kind = kj'.kind ∧ kj.size = kj'.size ∧ kj.rows.length = kj'.rows.length ∧ (j ≠ id → kj = kj') := by
    intro j kj hj
    by_cases hji : j = id
    · subst hji
      simp only [upd, if_true, Option.some.injEq] at hj
      subst hj
      exact ⟨k, hk, rfl, rfl, by simp [hrow], fun h => absurd rfl h⟩
    · simp only [upd, if_neg hji] at hj
      exact ⟨kj, hj, rfl, rfl, rfl, fun _ => rfl⟩
  have hlv : ∀ j kj, upd hp id (some { k with rows := [cs] }) j = some kj → liveB kj = true → ∃ kj', hp j = some kj' ∧ liveB kj' = true := by
    intro j kj hj h1
    obtain ⟨kj', h2, h3, _⟩ := hsub j kj hj
    exact ⟨kj', h2, by unfold liveB at h1 ⊢; rw [← h3]; exact h1⟩
  have hv : ∀ x y, VR0 w E hp G x y → VR0 w E (upd hp id (some { k with rows := [cs] })) G x y := by
    intro x y hv
    cases x with
    | ar j lo n =>
      obtain ⟨a, cap, hy, hr⟩ := hv
      refine ⟨a, cap, hy, fun kj hj => ?_⟩
      obtain ⟨kj', h1, h2, h3, h4, _⟩ := hsub j kj hj
      obtain ⟨r1, r2, r3⟩ := hr kj' h1
      exact ⟨by rw [h2]; exact r1, by rw [h4]; exact r2, by rw [h3]; exact r3⟩
    | rf j r c =>
      obtain ⟨b', o, hy, hr⟩ := hv
      refine ⟨b', o, hy, fun kj hj => ?_⟩
      obtain ⟨kj', h1, h2, h3, h4, _⟩ := hsub j kj hj
      obtain ⟨r2, r3⟩ := hr kj' h1
      exact ⟨r2, by rw [h3]; exact r3⟩
    | ir row c => exact hv
    | v a => exact hv
    | em => exact hv
    | er e => exact hv
    | im rows => exact hv
    | any => exact trivial
    | agg cs => exact hv.elim
    | tup vs => exact hv.elim
    | cl f caps => cases caps <;> exact hv
  refine ⟨⟨hI.fr, hI.g1, ?_, ?_, ?_, ?_, ?_⟩, ?_, ⟨fun x y _ hx => hv x y hx⟩⟩
  · rintro x hx ⟨j, kj, hj, hlj, ho⟩
    obtain ⟨kj', h1, h2⟩ := hlv j kj hj hlj
    exact hI.g2 x hx ⟨j, kj', h1, h2, ho⟩
  · rintro x ⟨j, kj, hj, hlj, ho⟩
    obtain ⟨kj', h1, h2⟩ := hlv j kj hj hlj
    exact hI.o1 x ⟨j, kj', h1, h2, ho⟩
  · intro j kj j' kj' hj hlj hj' hlj' x ho ho'
    obtain ⟨q, h1, h2⟩ := hlv j kj hj hlj
    obtain ⟨q', h1', h2'⟩ := hlv j' kj' hj' hlj'
    exact hI.dis j q j' q' h1 h2 h1' h2' x ho ho'
  · intro j kj x hj hlj
    obtain ⟨q, h1, h2⟩ := hlv j kj hj hlj
    exact hI.self j q x h1 h2
  · intro j kj hj
    by_cases hji : j = id
    · subst hji
      simp only [upd, if_true, Option.some.injEq] at hj
      subst hj
      have hb := hI.blk j k hk
      unfold BlkRel at hb ⊢
      simp only [hkk] at hb ⊢
      obtain ⟨b', row', cur, h1, h2, h3, h4, h5, h6⟩ := hb
      rw [hrow] at h3
      cases h3
      have hc := hcs _ _ h1 h2
      have hlen := hc.length
      have hlen' := h6.length
      refine ⟨b', cs, cur, h1, h2, rfl, by omega, h5, VL.of_get hlen fun i x u hi hu => ⟨?_, ?_⟩⟩
      · obtain ⟨u', hu', hr⟩ := hc.get i x hi
        rw [hu] at hu'
        cases hu'
        have := hv _ _ hr
        rw [hkk] at this
        exact this
      · have hi2 : i < row.length := by have := (List.getElem?_eq_some_iff.1 hi).1; omega
        obtain ⟨u', hu', hr⟩ := h6.get i (row[i]'hi2) (List.getElem?_eq_getElem hi2)
        rw [hu] at hu'
        cases hu'
        exact hr.2
    · have hjx : hp j = some kj := by simpa only [upd, if_neg hji] using hj
      have hbj := hI.blk j kj hjx
      unfold BlkRel at hbj ⊢
      cases hlk : kj.kind with
      | box =>
        simp only [hlk] at hbj ⊢
        obtain ⟨b', row, cur, h1, h2, h3, h4, h5, h6⟩ := hbj
        exact ⟨b', row, cur, h1, h2, h3, h4, h5, h6.mono fun x _ y hxy => ⟨hv x y hxy.1, hxy.2⟩⟩
      | arr => simp only [hlk] at hbj ⊢; exact hbj
      | frz => simp only [hlk] at hbj ⊢; exact hbj
  · intro j kj hj
    by_cases hji : j = id
    · subst hji
      simp only [upd, if_true, Option.some.injEq] at hj
      subst hj
      refine ⟨(hw j k hk).1, fun i hi => ?_⟩
      unfold refsB at hi
      simp only [hkk, List.flatMap_cons, List.flatMap_nil, List.append_nil] at hi
      exact hB i hi
    · exact hw j kj (by simpa only [upd, if_neg hji] using hj)

theorem normV_sound {m : Mds} {x x' : V} {y : Value} {b n : Nat} (hI : HpInv w0 U A E G hp w) (hw : HpWf B hp) (hv : VR2 w E hp G x y) (hx : ∀ i ∈ refs2 x, B i) (hb : ∀ i, b ≤ i → ¬ B i) (h : normV m x hp b = some (x', hp', n)) :
    ∃ E' G', HpInv w0 U A E' G' hp' w ∧ HpWf (fun i => B i ∨ (b ≤ i ∧ i < b + n)) hp' ∧ Ext B E G hp w E' G' hp' w ∧ VR2 w E' hp' G' x' y ∧ (∀ i ∈ refs2 x', B i ∨ (b ≤ i ∧ i < b + n)) ∧ (notTup x = true → notTup x' = true) := by
  unfold normV at h
  split at h
  · rename_i m
    have key : (∀ x', normC m x hp b = some (x', hp', n) → (VR0 w E hp G x y ∧ ∀ i ∈ refs0 x, B i) ∧ ∀ E' G', VR0 w E' hp' G' x' y → VR2 w E' hp' G' x' y ∧ refs2 x' = refs0 x' ∧ notTup x' = true) → normC m x hp b = some (x', hp', n) →
        ∃ E' G', HpInv w0 U A E' G' hp' w ∧ HpWf (fun i => B i ∨ (b ≤ i ∧ i < b + n)) hp' ∧ Ext B E G hp w E' G' hp' w ∧ VR2 w E' hp' G' x' y ∧ (∀ i ∈ refs2 x', B i ∨ (b ≤ i ∧ i < b + n)) ∧ (notTup x = true → notTup x' = true) := by
      intro hk h
      obtain ⟨⟨k1, k2⟩, k3⟩ := hk x' h
      obtain ⟨E', G', h1, h2, h3⟩ := normC_sound hI hw k1 k2 hb h
      obtain ⟨q1, q2, q3⟩ := k3 E' G' h2
      exact ⟨E', G', h1.inv, h1.wf, h1.ext, q1, by rw [q2]; exact h3, fun _ => q3⟩
    cases m with
    | keep =>
      simp only [normC, Option.some.injEq, Prod.mk.injEq] at h
      obtain ⟨rfl, rfl, rfl⟩ := h
      exact ⟨E, G, hI, hw.mono fun _ h => .inl h, Ext.refl _ _ _ _ _, hv, fun i hi => .inl (hx i hi), fun h => h⟩
    | own ty size deep =>
      refine key (fun x' h => ?_) h
      simp only [normC] at h
      split at h
      · cases h; exact ⟨⟨hv, hx⟩, fun E' G' h => ⟨h, rfl, rfl⟩⟩
      · split at h
        · split at h
          · cases h; exact ⟨⟨hv, hx⟩, fun E' G' h => ⟨h, rfl, rfl⟩⟩
          · cases h
        · cases h
      · cases h
    | im =>
      refine key (fun x' h => ?_) h
      simp only [normC] at h
      split at h
      · cases h; exact ⟨⟨hv, hx⟩, fun E' G' h => ⟨h, rfl, rfl⟩⟩
      · cases h; exact ⟨⟨hv, hx⟩, fun E' G' h => ⟨h, rfl, rfl⟩⟩
      · split at h
        · split at h
          · cases h
          · cases h; exact ⟨⟨hv, hx⟩, fun E' G' h => ⟨h, rfl, rfl⟩⟩
        · cases h
      · cases h
  · rename_i l
    split at h
    · rename_i cs
      simp only [Option.map_eq_some_iff] at h
      obtain ⟨⟨ys, hp1, k⟩, h1, h2⟩ := h
      cases h2
      obtain ⟨us, rfl, hl⟩ := hv
      obtain ⟨E', G', q1, q2, q3⟩ := normL_sound hI hw hl hx hb h1
      exact ⟨E', G', q1.inv, q1.wf, q1.ext, ⟨us, rfl, q2⟩, q3, fun _ => rfl⟩
    · cases h
  · rename_i l
    split at h
    · rename_i id r c
      split at h
      · rename_i k hk
        split at h
        · rename_i row hkk hrow
          split at h
          · rename_i cs hp1 n1 h1
            split at h
            · rename_i hok
              cases h
              have hBid : B id := hx id (by simp [refs2, refs1, refs0])
              have hblk := hI.blk id k hk
              have hblk' := hblk
              unfold BlkRel at hblk
              simp only [hkk] at hblk
              obtain ⟨b', row', cur, g1, g2, g3, g4, g5, g6⟩ := hblk
              rw [hrow] at g3
              cases g3
              have hrefs : ∀ i ∈ row.flatMap refs0, B i := fun i hi => (hw id k hk).2 i (by
                unfold refsB
                simp only [hkk, hrow, List.flatMap_cons, List.flatMap_nil, List.append_nil]
                exact hi)
              obtain ⟨E1, G1, s1, v1, r1⟩ := normL_sound hI hw (g6.mono fun x _ y h => h.1) hrefs hb h1
              have hk1 : hp1 id = some k := s1.box id k hBid hk hkk
              have hm1 : E1.m id = some b' := by
                have h1 := s1.ext.v0 (.rf id 0 0) (.pointer (some ⟨b', 0, none⟩)) (fun i hi => by simp [refs0] at hi; subst hi; exact hBid) ⟨b', 0, rfl, fun k' hk' => by rw [hk] at hk'; cases hk'; exact ⟨g1, by simp⟩⟩
                obtain ⟨b2, o2, e2, f2⟩ := h1
                cases e2
                exact (f2 k hk1).1
              obtain ⟨t1, t2, t3⟩ := box_retell s1.inv s1.wf hk1 hkk hrow hok (fun b2 cur2 hb2 hc2 => by
                rw [hm1] at hb2
                cases hb2
                rw [g2] at hc2
                cases hc2
                exact v1) r1
              exact ⟨E1, G1, t1, t2, s1.ext.trans t3 fun _ h => .inl h, (s1.ext.trans t3 fun _ h => .inl h).v2 _ _ hx hv, fun i hi => .inl (hx i hi), fun _ => rfl⟩
            · cases h
          · cases h
        · cases h
      · cases h
    · cases h

end Go.Proofs.YtnhibkgoinnmcaaDoor.Ev
end

/-! #### Ev24 -/
section
/- Blocks numbered anew: the heads of loops, and results. -/
namespace Go.Proofs.YtnhibkgoinnmcaaDoor.Ev
open Go
set_option linter.unusedVariables false
set_option linter.unusedSimpArgs false

variable {P : Program} {w w' w0 : World} {E E' E0 : Env} {hp hp' hp0 : Hp} {G G' G0 U A W F S : Nat → Prop} {B B' : Nat → Prop} {ρ : Operand → V} {ρr : Operand → Value}

theorem turn_inv (hI : HpInv w0 U A E G hp w) {order : List Nat} (hn : order.Nodup) (hs : ∀ id ∈ order, ∃ k, hp id = some k) :
    HpInv w0 U A (envOf E order) G (lkB (blksOf hp order)) w := by
  have h := call_in (lent := []) hI hn hs (fun _ _ h => by simp at h)
  have hG : (fun b => G b ∨ Held E hp [] b) = G := by
    funext b
    exact propext ⟨fun h => h.elim (fun h => h) (fun ⟨i, hi, _⟩ => by simp at hi), .inl⟩
  rw [hG] at h
  refine ⟨hI.fr, hI.g1, h.g2, fun b ho => ?_, h.dis, h.self, h.blk⟩
  obtain ⟨id, hid, k, hk, hl, ho'⟩ := own_in hs ho
  exact hI.o1 b ⟨id, k, hk, hl, ho'⟩

theorem idx_lt {order : List Nat} {id j : Nat} (h : idx order id = some j) : j < order.length := (List.getElem?_eq_some_iff.1 (idx_some h)).1

theorem turn_wf {order : List Nat} (hs : ∀ id ∈ order, ∃ k, hp id = some k) : HpWf (fun id => id < order.length) (lkB (blksOf hp order)) := by
  intro j k' hj
  obtain ⟨id, h1, h2⟩ := blksOf_get hj
  refine ⟨(List.getElem?_eq_some_iff.1 h1).1, fun i hi => ?_⟩
  subst h2
  obtain ⟨r1, r2, r3, r4, r5⟩ := renB_shape (idx order) ((hp id).getD default)
  unfold refsB at hi
  rw [r1] at hi
  split at hi
  · rename_i hk
    unfold renB at hi
    rw [hk] at hi
    simp only [List.mem_flatMap, List.mem_map] at hi
    obtain ⟨row, ⟨row0, hr0, rfl⟩, x, hx, hi⟩ := hi
    obtain ⟨x0, hx0, rfl⟩ := List.mem_map.1 hx
    obtain ⟨j', hj', _⟩ := refs0_ren hi
    exact idx_lt hj'
  · simp at hi

theorem take_range {order : List Nat} {e : Nat} (hn : order.Nodup) (h : order.take e = List.range e) {j : Nat} (hj : j < e) : order[j]? = some j ∧ idx order j = some j := by
  have h1 : (order.take e)[j]? = some j := by rw [h]; simp [hj]
  rw [List.getElem?_take, if_pos hj] at h1
  exact ⟨h1, idx_get hn h1⟩

/-- Values that name what was handed in alone stand as they stood. -/
theorem turn_ext {order : List Nat} {e : Nat} (hn : order.Nodup) (hs : ∀ id ∈ order, ∃ k, hp id = some k) (h : order.take e = List.range e) :
    Ext (fun j => j < e) E G hp w (envOf E order) G (lkB (blksOf hp order)) w := by
  refine ⟨fun x y hx hv => ?_⟩
  have := (turn_in (E := E) hs).vr0 (fun b hb => hb) hv
  have hren : ren0 (idx order) x = x := by
    cases x with
    | ar id lo n => simp only [ren0, (take_range hn h (hx id (by simp [refs0]))).2]
    | rf id lo n => simp only [ren0, (take_range hn h (hx id (by simp [refs0]))).2]
    | agg cs => exact hv.elim
    | tup cs => exact hv.elim
    | cl f cs => cases cs with | nil => rfl | cons a l => exact hv.elim
    | _ => rfl
  rw [hren] at this
  exact this

theorem refs2_ren_lt {order : List Nat} {x : V} : ∀ i ∈ refs2 (ren2 (idx order) x), i < order.length := by
  have h0 : ∀ x, ∀ i ∈ refs0 (ren0 (idx order) x), i < order.length := fun x i hi => by
    obtain ⟨j, hj, _⟩ := refs0_ren hi
    exact idx_lt hj
  have h1 : ∀ x, ∀ i ∈ refs1 (ren1 (idx order) x), i < order.length := by
    intro x i hi
    cases x with
    | agg cs =>
      obtain ⟨z, hz, hi⟩ := List.mem_flatMap.1 hi
      obtain ⟨z0, _, rfl⟩ := List.mem_map.1 hz
      exact h0 z0 i hi
    | cl f cs =>
      obtain ⟨z, hz, hi⟩ := List.mem_flatMap.1 hi
      obtain ⟨z0, _, rfl⟩ := List.mem_map.1 hz
      exact h0 z0 i hi
    | ar a b c =>
      have hr : refs1 (ren1 (idx order) (.ar a b c)) = refs0 (ren0 (idx order) (.ar a b c)) := by
        simp only [ren1, ren0]; cases idx order a <;> rfl
      rw [hr] at hi; exact h0 _ i hi
    | rf a b c =>
      have hr : refs1 (ren1 (idx order) (.rf a b c)) = refs0 (ren0 (idx order) (.rf a b c)) := by
        simp only [ren1, ren0]; cases idx order a <;> rfl
      rw [hr] at hi; exact h0 _ i hi
    | _ => simp [ren1, ren0, refs1, refs0] at hi
  intro i hi
  cases x with
  | tup vs =>
    obtain ⟨z, hz, hi⟩ := List.mem_flatMap.1 hi
    obtain ⟨z0, _, rfl⟩ := List.mem_map.1 hz
    exact h1 z0 i hi
  | ar a b c =>
    have hr : refs2 (ren2 (idx order) (.ar a b c)) = refs1 (ren1 (idx order) (.ar a b c)) := by
      simp only [ren2, ren1, ren0]; cases idx order a <;> rfl
    rw [hr] at hi; exact h1 _ i hi
  | rf a b c =>
    have hr : refs2 (ren2 (idx order) (.rf a b c)) = refs1 (ren1 (idx order) (.rf a b c)) := by
      simp only [ren2, ren1, ren0]; cases idx order a <;> rfl
    rw [hr] at hi; exact h1 _ i hi
  | agg cs => exact h1 (.agg cs) i hi
  | cl f cs => exact h1 (.cl f cs) i hi
  | _ => simp [ren2, ren1, ren0, refs2, refs1, refs0] at hi

abbrev SS (w0 : World) (U A : Nat → Prop) (E0 : Env) (G0 : Nat → Prop) (hp0 : Hp) (e nt : Nat) (st : St) (a : Act) (w : World) : Prop :=
  SB w0 U A E0 G0 hp0 e nt (fun id => id < 16 * st.c) st.tm st.hp a w

theorem lk_get {α : Type} {d : α} {f : Nat → α} : ∀ (l : List Nat) (i : Nat), lk d (l.map fun s => (s, f s)) i = d ∨ lk d (l.map fun s => (s, f s)) i = f i
  | [], i => .inl rfl
  | k :: l, i => by
    simp only [List.map_cons, lk]
    by_cases h : i = k
    · subst h; simp
    · simp only [if_neg h]; exact lk_get l i

theorem canon0_sound {e nt : Nat} {keep : List Nat} {st : St} {K : St → Prop} {a : Act} (h : canon0 e keep st K) (hs : SS w0 U A E0 G0 hp0 e nt st a w) : ∃ st', K st' ∧ SS w0 U A E0 G0 hp0 e nt st' a w := by
  unfold canon0 at h
  split at h
  · rename_i order hcl
    obtain ⟨h1, h2, hK⟩ := h
    obtain ⟨c1, c2, _, _⟩ := close_spec st.hp 64 _ _ _ hcl (by simp) (fun id hid => by simp at hid)
    refine ⟨_, hK, ?_⟩
    obtain ⟨E, G, g1, g2, g3, g4, g5⟩ := hs.env
    have hlow : e ≤ order.length := by
      have := congrArg List.length h2
      simp only [List.length_take, List.length_range] at this
      omega
    refine ⟨hs.size, hs.defers, fun j hj => ?_, envOf E order, G, turn_inv g1 c1 c2, ?_, fun t => ?_, fun t id hid => ?_, g5.trans (turn_ext c1 c2 h2) fun _ h => h⟩
    · show j < 16 * 1
      omega
    · intro id k hk
      obtain ⟨q1, q2⟩ := turn_wf c2 id k hk
      exact ⟨show id < 16 * 1 by omega, fun j hj => show j < 16 * 1 by have := q2 j hj; omega⟩
    · rcases lk_get (d := V.any) (f := fun s => ren2 (idx order) (st.tm s)) keep t with h' | h'
      · show VR2 w _ _ G (lk _ _ t) _
        rw [h']; exact any_vr2
      · show VR2 w _ _ G (lk _ _ t) _
        rw [h']; exact (turn_in c2).vr2 (fun b hb => hb) (g3 t)
    · have hid : id ∈ refs2 (lk V.any (keep.map fun s => (s, ren2 (idx order) (st.tm s))) t) := hid
      rcases lk_get (d := V.any) (f := fun s => ren2 (idx order) (st.tm s)) keep t with h' | h'
      · rw [h'] at hid; simp [refs2, refs1, refs0] at hid
      · rw [h'] at hid
        have := refs2_ren_lt id hid
        show id < 16 * 1
        omega
  · exact h.elim

theorem normS_sound {e nt : Nat} {a : Act} : ∀ {keep : List (Nat × Mds)} {st st' : St}, normS keep st = some st' → SS w0 U A E0 G0 hp0 e nt st a w → SS w0 U A E0 G0 hp0 e nt st' a w
  | [], st, st', h, hs => by simp only [normS, Option.some.injEq] at h; subst h; exact hs
  | (s, m) :: l, st, st', h, hs => by
    simp only [normS] at h
    split at h
    · rename_i x hp n h1
      split at h
      · rename_i hn
        refine normS_sound h ?_
        obtain ⟨E, G, g1, g2, g3, g4, g5⟩ := hs.env
        obtain ⟨E', G', q1, q2, q3, q4, q5, _⟩ := normV_sound g1 g2 (g3 s) (g4 s) (fun i hi hB => by have : i < 16 * st.c := hB; omega) h1
        have hsub : ∀ i, (i < 16 * st.c ∨ (16 * st.c ≤ i ∧ i < 16 * st.c + n)) → i < 16 * (st.c + 1) := fun i hi => by omega
        refine ⟨hs.size, hs.defers, fun j hj => hsub j (.inl (hs.low j hj)), E', G', q1, q2.mono hsub, fun t => ?_, fun t id hid => ?_, g5.trans q3 fun j hj => hs.low j hj⟩
        · show VR2 w E' hp G' (upd st.tm s x t) _
          unfold upd
          split
          · rename_i ht; subst ht; exact q4
          · exact q3.v2 _ _ (g4 t) (g3 t)
        · have hid : id ∈ refs2 (upd st.tm s x t) := hid
          unfold upd at hid
          split at hid
          · exact hsub id (q5 id hid)
          · exact hsub id (.inl (g4 t id hid))
      · cases h
    · cases h

theorem canon_sound {e nt : Nat} {keep : List (Nat × Mds)} {st : St} {K : St → Prop} {a : Act} (h : canon e keep st K) (hs : SS w0 U A E0 G0 hp0 e nt st a w) : ∃ st', K st' ∧ SS w0 U A E0 G0 hp0 e nt st' a w := by
  unfold canon caseO at h
  split at h
  · rename_i st1 h1
    exact canon0_sound h (normS_sound h1 hs)
  · exact h.elim

theorem meet_sound {e nt : Nat} {j : Option (List (Nat × Mds))} {st : St} {K : St → Prop} {a : Act} (h : meet e j st K) (hs : SS w0 U A E0 G0 hp0 e nt st a w) : ∃ st', K st' ∧ SS w0 U A E0 G0 hp0 e nt st' a w := by
  unfold meet at h
  split at h
  · exact canon_sound h hs
  · exact ⟨st, h, hs⟩

theorem normR_sound : ∀ {ms : List Mds} {xs xs' : List V} {ys : List Value} {E : Env} {G : Nat → Prop} {hp hp' : Hp} {c c' : Nat}, HpInv w0 U A E G hp w → HpWf (fun i => i < 16 * c) hp → xs.length = ys.length →
    (∀ (i : Nat) (x : V) (y : Value), xs[i]? = some x → ys[i]? = some y → VR2 w E hp G x y) → (∀ x ∈ xs, ∀ i ∈ refs2 x, i < 16 * c) → normR ms xs hp c = some (xs', hp', c') →
    ∃ E' G', HpInv w0 U A E' G' hp' w ∧ Ext (fun i => i < 16 * c) E G hp w E' G' hp' w ∧ xs'.length = ys.length ∧ (∀ (i : Nat) (x : V) (y : Value), xs'[i]? = some x → ys[i]? = some y → VR2 w E' hp' G' x y)
  | [], [], xs', ys, E, G, hp, hp', c, c', hI, hw, hl, hv, hx, h => by
    simp only [normR, Option.some.injEq, Prod.mk.injEq] at h
    obtain ⟨rfl, rfl, rfl⟩ := h
    exact ⟨E, G, hI, Ext.refl _ _ _ _ _, hl, fun i x y hi => by simp at hi⟩
  | m :: ms, x :: xs, xs', ys, E, G, hp, hp', c, c', hI, hw, hl, hv, hx, h => by
    simp only [normR] at h
    split at h
    · rename_i z hp1 n h1
      split at h
      · rename_i hn
        split at h
        · rename_i zs hp2 c2 h2
          simp only [Option.some.injEq, Prod.mk.injEq] at h
          obtain ⟨rfl, rfl, rfl⟩ := h
          cases ys with
          | nil => simp at hl
          | cons y ys =>
            have hsub : ∀ i, (i < 16 * c ∨ (16 * c ≤ i ∧ i < 16 * c + n)) → i < 16 * (c + 1) := fun i hi => by omega
            obtain ⟨E1, G1, q1, q2, q3, q4, q5, _⟩ := normV_sound hI hw (hv 0 x y rfl rfl) (hx x (by simp)) (fun i hi hB => by have : i < 16 * c := hB; omega) h1
            obtain ⟨E2, G2, r1, r2, r3, r4⟩ := normR_sound q1 (q2.mono hsub) (by simpa using hl) (fun i x' y' hi hj => q3.v2 x' y' (hx x' (by simp [List.mem_of_getElem? hi])) (hv (i + 1) x' y' (by simpa using hi) (by simpa using hj))) (fun x' hx' i hi => hsub i (.inl (hx x' (by simp [hx']) i hi))) h2
            refine ⟨E2, G2, r1, q3.trans r2 fun i hi => hsub i (.inl hi), by simp [r3], fun i x' y' hi hj => ?_⟩
            cases i with
            | zero =>
              simp at hi hj
              subst hi; subst hj
              exact r2.v2 _ _ (fun i hi => hsub i (q5 i hi)) q4
            | succ i => exact r4 i x' y' (by simpa using hi) (by simpa using hj)
        · cases h
      · cases h
    · cases h
  | [], _ :: _, _, _, _, _, _, _, _, _, _, _, _, _, _, h => by simp [normR] at h
  | _ :: _, [], _, _, _, _, _, _, _, _, _, _, _, _, _, h => by simp [normR] at h

end Go.Proofs.YtnhibkgoinnmcaaDoor.Ev
end

/-! #### Ev27 -/
section
/- The evaluator gives one outcome, found at a finite depth of calls. -/
namespace Go.Proofs.YtnhibkgoinnmcaaDoor.Ev
open Go
set_option linter.unusedVariables false
set_option linter.unusedSimpArgs false

variable {P : Program} {cf : Cfg} {R : Rel} {Rk : Nat → Rel}

/-- The union of what holds at some depth. -/
def UR (Rk : Nat → Rel) : Rel := fun g a b r b' => ∃ k, Rk k g a b r b'

def Mono (Rk : Nat → Rel) : Prop := ∀ k k' g a b r b', k ≤ k' → Rk k g a b r b' → Rk k' g a b r b'

/-- One result for each call. -/
def Uniq (R : Rel) : Prop := ∀ g a b r b' r2 b2, R g a b r b' → R g a b r2 b2 → r = r2 ∧ b' = b2

/-- A computation that gives one outcome, found at some depth. -/
def One3 (T : Rel → Cont → Prop) (R : Rel) (Rk : Nat → Rel) (K : Cont) : Prop :=
  ∃ k x hp cls, K x hp cls ∧ (∀ k', k ≤ k' → ∀ K' : Cont, K' x hp cls → T (Rk k') K') ∧ (Uniq R → ∀ K' : Cont, T R K' → K' x hp cls)

theorem One3.of {T : Rel → Cont → Prop} {K : Cont} {x : V} {hp : Hp} {cls : Cls} (h : K x hp cls) (ht : ∀ R, ∀ K' : Cont, T R K' ↔ K' x hp cls) : One3 T R Rk K :=
  ⟨0, x, hp, cls, h, fun k' _ K' h' => (ht _ K').2 h', fun _ K' h' => (ht _ K').1 h'⟩

/-- What R holds is held at some depth. -/
def Sub (R : Rel) (Rk : Nat → Rel) : Prop := ∀ g a b r b', R g a b r b' → ∃ k, Rk k g a b r b'

theorem callR_one {g : FuncId} {args : List V} {blks : List Blk} {F : V → List Blk → Prop} (h : callR R g args blks F) (hm : Mono Rk) (hS : Sub R Rk) : ∃ k r b', F r b' ∧ (∀ k', k ≤ k' → ∀ F' : V → List Blk → Prop, F' r b' → callR (Rk k') g args blks F') ∧ (Uniq R → ∀ F' : V → List Blk → Prop, callR R g args blks F' → F' r b') := by
  obtain ⟨r, b', h, hF⟩ := h
  obtain ⟨k, hk⟩ := hS _ _ _ _ _ h
  exact ⟨k, r, b', hF, fun k' hle F' h' => ⟨r, b', hm k k' _ _ _ _ _ hle hk, h'⟩, fun hU F' ⟨r2, b2, h2, h'⟩ => by obtain ⟨rfl, rfl⟩ := hU _ _ _ _ _ _ _ h h2; exact h'⟩

theorem weStore_one {t : TypeId} {a x : V} {hp : Hp} {K : Cont} (h : weStore P t a x hp K) : One3 (fun _ K => weStore P t a x hp K) R Rk K := by
  unfold weStore at h
  split at h
  · rename_i d id r c hd
    split at h
    · rename_i k hk
      split at h
      · rename_i row hr
        split at h
        · rename_i hl
          split at h
          · rename_i hkk
            split at h
            · rename_i hok
              split at h
              · rename_i row' hrow
                exact .of h fun R K' => by simp only [weStore, hd, hk, hr, hl, hkk, hok, hrow, if_true]
              · exact h.elim
            · exact h.elim
          · rename_i hkk
            split at h
            · rename_i cs kills deep hcl
              split at h
              · rename_i hnd
                split at h
                · rename_i row' hrow
                  exact .of h fun R K' => by simp only [weStore, hd, hk, hr, hl, hkk, hcl, hnd, hrow, if_true]
                · exact h.elim
              · exact h.elim
            · exact h.elim
          · exact h.elim
        · exact h.elim
      · exact h.elim
    · exact h.elim
  · exact h.elim

theorem weBuild_one {t : TypeId} {len : Nat} {parts : List (Nat × Operand)} {ρ : Operand → V} {hp : Hp} {b : Nat} {K : Cont} (h : weBuildSlice P t len parts ρ hp b K) : One3 (fun _ K => weBuildSlice P t len parts ρ hp b K) R Rk K := by
  unfold weBuildSlice at h
  obtain ⟨e, he, h⟩ := caseO_some' h
  obtain ⟨d, hd, h⟩ := caseO_some' h
  cases len with
  | zero => exact .of h.2 fun R K' => by simp only [weBuildSlice, he, hd, caseO_some, h.1, true_and]
  | succ len =>
    obtain ⟨z, hz, h1, h2, h3, h⟩ := caseO_some' h
    exact .of h fun R K' => by simp only [weBuildSlice, he, hd, hz, caseO_some, h1, h2, h3, true_and]

theorem srcRows_one {d : TyD} {x : V} {hp : Hp} {K : List (List V) → List Nat → Bool → Prop} (h : srcRows d x hp K) : ∃ rows kills deep, K rows kills deep ∧ ∀ K' : List (List V) → List Nat → Bool → Prop, srcRows d x hp K' ↔ K' rows kills deep := by
  unfold srcRows at h
  split at h
  · exact ⟨_, _, _, h, fun K' => Iff.rfl⟩
  · exact ⟨_, _, _, h, fun K' => Iff.rfl⟩
  · exact ⟨_, _, _, h, fun K' => Iff.rfl⟩
  · rename_i id lo n
    split at h
    · rename_i k hk
      split at h
      · exact h.elim
      · rename_i hkk
        exact ⟨_, _, _, h, fun K' => by simp only [srcRows, hk, hkk]⟩
      · rename_i hkk
        split at h
        · rename_i hz
          exact ⟨_, _, _, h.2, fun K' => by simp only [srcRows, hk, hkk, hz, if_true, h.1, true_and]⟩
        · rename_i hz
          exact ⟨_, _, _, h, fun K' => by simp only [srcRows, hk, hkk]; rw [if_neg hz]⟩
    · exact h.elim
  · exact h.elim

theorem weAppend_one {ts : List TypeId} {s x : V} {hp : Hp} {b : Nat} {K : Cont} (h : weAppend P ts s x hp b K) : One3 (fun _ K => weAppend P ts s x hp b K) R Rk K := by
  unfold weAppend at h
  split at h
  · rename_i t t'
    obtain ⟨e, he, h⟩ := caseO_some' h
    obtain ⟨d, hd, h⟩ := caseO_some' h
    obtain ⟨ht, h⟩ := h
    obtain ⟨rows, kills, deep, h, hs⟩ := srcRows_one h
    split at h
    · obtain ⟨h1, h2, h3, h4, h⟩ := h
      exact .of h fun R K' => by
        simp only [weAppend, he, hd, caseO_some]
        exact ⟨fun h => ((hs _).1 h.2).2.2.2.2, fun h' => ⟨ht, (hs _).2 ⟨h1, h2, h3, h4, h'⟩⟩⟩
    · rename_i id lo n
      obtain ⟨k, hk, h⟩ := caseO_some' h
      obtain ⟨h1, h2, h3, h4, h5, h6, h7, h8, h⟩ := h
      exact .of h fun R K' => by
        simp only [weAppend, he, hd, caseO_some]
        refine ⟨fun h => ?_, fun h' => ⟨ht, (hs _).2 ?_⟩⟩
        · have := (hs _).1 h.2
          simp only [hk, caseO_some] at this
          exact this.2.2.2.2.2.2.2.2
        · simp only [hk, caseO_some]
          exact ⟨h1, h2, h3, h4, h5, h6, h7, h8, h'⟩
    · exact h.elim
  · exact h.elim

theorem weSlice_one {t : TypeId} {s : V} {lo hi : Option Operand} {ρ : Operand → V} {hp : Hp} {K : Cont} (h : weSlice P t s lo hi ρ hp K) : One3 (fun _ K => weSlice P t s lo hi ρ hp K) R Rk K := by
  unfold weSlice at h
  obtain ⟨e, he, h⟩ := caseO_some' h
  obtain ⟨d, hd, h⟩ := caseO_some' h
  split at h
  · obtain ⟨l, hl, h⟩ := caseO_some' h
    obtain ⟨r, hr, h⟩ := caseO_some' h
    exact .of h.2.2 fun R K' => by simp only [weSlice, he, hd, hl, hr, caseO_some, h.1, h.2.1, true_and]
  · obtain ⟨l, hl, h⟩ := caseO_some' h
    obtain ⟨r, hr, h⟩ := caseO_some' h
    obtain ⟨h1, h2, h3, h⟩ := h
    exact .of h fun R K' => by
      simp only [weSlice, he, hd, hl, hr, caseO_some]
      exact ⟨fun h => h.2.2.2, fun h' => ⟨h1, h2, h3, h'⟩⟩
  · obtain ⟨l, hl, h⟩ := caseO_some' h
    obtain ⟨r, hr, h⟩ := caseO_some' h
    obtain ⟨k, hk, h⟩ := caseO_some' h
    obtain ⟨h1, h2, h3, h⟩ := h
    exact .of h fun R K' => by
      simp only [weSlice, he, hd, hl, hr, hk, caseO_some]
      exact ⟨fun h => h.2.2.2, fun h' => ⟨h1, h2, h3, h'⟩⟩
  · exact h.elim

theorem wePure_one (hm : Mono Rk) (hS : Sub R Rk) {g : FuncId} {args : List V} {lent : List Nat} {hp : Hp} {b : Nat} {K : Cont} (h : wePure R g args lent hp b K) : One3 (fun R K => wePure R g args lent hp b K) R Rk K := by
  unfold wePure at h
  obtain ⟨k, r, b', ⟨h1, h2, h⟩, hk, hu⟩ := callR_one h hm hS
  by_cases hc : (lent.isEmpty || (noIm r && b'.all noImB)) = true
  · rw [if_pos hc] at h
    refine ⟨k, _, _, _, h, fun k' hle K' h' => hk k' hle _ ⟨h1, h2, ?_⟩, fun hU K' h' => ?_⟩
    · rw [if_pos hc]; exact h'
    · have := (hu hU _ h').2.2
      rw [if_pos hc] at this; exact this
  · rw [if_neg hc] at h
    refine ⟨k, _, _, _, h, fun k' hle K' h' => hk k' hle _ ⟨h1, h2, ?_⟩, fun hU K' h' => ?_⟩
    · rw [if_neg hc]; exact h'
    · have := (hu hU _ h').2.2
      rw [if_neg hc] at this; exact this

theorem weRef_one (hm : Mono Rk) (hS : Sub R Rk) {g : FuncId} {args : List V} {lent direct order : List Nat} {hp : Hp} {b : Nat} {K : Cont} (h : weRef R g args lent direct order hp b K) : One3 (fun R K => weRef R g args lent direct order hp b K) R Rk K := by
  unfold weRef at h
  obtain ⟨h1, h2, h3, h⟩ := h
  obtain ⟨k, r, b', ⟨h4, h5, h⟩, hk, hu⟩ := callR_one h hm hS
  exact ⟨k, _, _, _, h, fun k' hle K' h' => ⟨h1, h2, h3, hk k' hle _ ⟨h4, h5, h'⟩⟩, fun hU K' h' => (hu hU _ h'.2.2.2).2.2⟩

theorem weInv_one (hm : Mono Rk) (hS : Sub R Rk) {g : FuncId} {args : List V} {hp : Hp} {b : Nat} {K : Cont} (h : weInv R cf g args hp b K) : One3 (fun R K => weInv R cf g args hp b K) R Rk K := by
  unfold weInv at h
  cases ha : lendA hp (cf.byref g) args with
  | none => rw [ha] at h; exact h.elim
  | some args' =>
    rw [ha] at h
    cases hc : closeC hp (args'.flatMap refs1) with
    | none => simp only [hc] at h
    | some order =>
      cases order with
      | nil =>
        simp only [hc] at h
        obtain ⟨k, x, hp', cls, h1, h2, h3⟩ := wePure_one hm hS h
        exact ⟨k, x, hp', cls, h1, fun k' hle K' h' => by unfold weInv; rw [ha]; simp only [hc]; exact h2 k' hle K' h', fun hU K' h' => h3 hU K' (by unfold weInv at h'; rw [ha] at h'; simp only [hc] at h'; exact h')⟩
      | cons i l =>
        simp only [hc] at h
        obtain ⟨k, x, hp', cls, h1, h2, h3⟩ := weRef_one hm hS h
        exact ⟨k, x, hp', cls, h1, fun k' hle K' h' => by unfold weInv; rw [ha]; simp only [hc]; exact h2 k' hle K' h', fun hU K' h' => h3 hU K' (by unfold weInv at h'; rw [ha] at h'; simp only [hc] at h'; exact h')⟩

theorem weOp_one (hm : Mono Rk) (hS : Sub R Rk) {op : Op} {b : Nat} {ρ : Operand → V} {hp : Hp} {K : Cont} (h : weOp P R cf op b ρ hp K) : One3 (fun R K => weOp P R cf op b ρ hp K) R Rk K := by
  unfold weOp at h
  split at h
  · exact weStore_one h
  · exact weBuild_one h
  · rename_i t x lo hi
    split at h
    · rename_i hs
      obtain ⟨z, hz, h⟩ := caseO_some' h
      exact .of h fun R K' => by simp only [weOp, hs, hz, if_true, caseO_some]
    · rename_i hs
      obtain ⟨k, x, hp', cls, h1, h2, h3⟩ := weSlice_one (R := R) (Rk := Rk) h
      exact ⟨k, x, hp', cls, h1, fun k' hle K' h' => by simp only [weOp]; rw [if_neg hs]; exact h2 k' hle K' h', fun hU K' h' => h3 hU K' (by simp only [weOp] at h'; rw [if_neg hs] at h'; exact h')⟩
  · rename_i args tys
    split at h
    · rename_i s x ha
      obtain ⟨k, x, hp', cls, h1, h2, h3⟩ := weAppend_one (R := R) (Rk := Rk) h
      exact ⟨k, x, hp', cls, h1, fun k' hle K' h' => by simp only [weOp, ha]; exact h2 k' hle K' h', fun hU K' h' => h3 hU K' (by simp only [weOp, ha] at h'; exact h')⟩
    · exact h.elim
  · rename_i f args
    split at h
    · rename_i g caps hf
      obtain ⟨k, x, hp', cls, h1, h2, h3⟩ := weInv_one hm hS h
      exact ⟨k, x, hp', cls, h1, fun k' hle K' h' => by simp only [weOp, hf]; exact h2 k' hle K' h', fun hU K' h' => h3 hU K' (by simp only [weOp, hf] at h'; exact h')⟩
    · exact h.elim
  · rename_i n1 n2 n3 n4 n5
    have hform : ∀ R, ∀ K' : Cont, weOp P R cf op b ρ hp K' ↔ (match nevT P op ρ with | some x => K' x hp .T | none => caseO (nevM P op ρ hp b) fun z => z.2.length ≤ 16 ∧ K' z.1 (inst hp b z.2) .M) := by
      intro R K'
      unfold weOp
      split <;> first | exact Iff.rfl | (exfalso; simp_all; done) | skip
      all_goals first | exact (n1 _ _ _ rfl).elim | exact (n2 _ _ _ rfl).elim | exact (n3 _ _ _ _ rfl).elim | exact (n4 _ _ rfl).elim | exact (n5 _ _ _ rfl).elim
    cases hx : nevT P op ρ with
    | some x =>
      simp only [hx] at h
      exact .of h fun R K' => (hform R K').trans (by simp only [hx])
    | none =>
      simp only [hx] at h
      obtain ⟨z, hz, hl, h⟩ := caseO_some' h
      exact .of h fun R K' => (hform R K').trans (by simp only [hx, hz, caseO_some, hl, true_and])

theorem opAt_one (hm : Mono Rk) (hS : Sub R Rk) {draw : Bool} {op : Op} {b : Nat} {ρ : Operand → V} {hp : Hp} {K : Cont} (h : opAt P R cf draw op b ρ hp K) : One3 (fun R K => opAt P R cf draw op b ρ hp K) R Rk K := by
  unfold opAt at h
  split at h
  · rename_i hd
    obtain ⟨k, x, hp', cls, h1, h2, h3⟩ := weOp_one hm hS h
    exact ⟨k, x, hp, cls, h1, fun k' hle K' h' => by simp only [opAt, hd]; exact h2 k' hle _ h', fun hU K' h' => by simp only [opAt, hd] at h'; exact h3 hU _ h'⟩
  · rename_i hd
    obtain ⟨k, x, hp', cls, h1, h2, h3⟩ := weOp_one hm hS h
    exact ⟨k, x, hp', cls, h1, fun k' hle K' h' => by simp only [opAt, hd]; exact h2 k' hle _ h', fun hU K' h' => by simp only [opAt, hd] at h'; exact h3 hU _ h'⟩

end Go.Proofs.YtnhibkgoinnmcaaDoor.Ev
end

/-! #### Ev28 -/
section
/- Rules: a call from what its body does; a loop from its rounds. -/
namespace Go.Proofs.YtnhibkgoinnmcaaDoor.Ev
open Go
set_option linter.unusedVariables false
set_option linter.unusedSimpArgs false

variable {P : Program} {cf : Cfg} {R : Rel} {Rk : Nat → Rel}

def One1 (T : Rel → (St → Prop) → Prop) (R : Rel) (Rk : Nat → Rel) (K : St → Prop) : Prop :=
  ∃ k s, K s ∧ (∀ k', k ≤ k' → ∀ K' : St → Prop, K' s → T (Rk k') K') ∧ (Uniq R → ∀ K' : St → Prop, T R K' → K' s)

def One2 (T : Rel → Post → Prop) (R : Rel) (Rk : Nat → Rel) (Q : Post) : Prop :=
  ∃ k ex s, Q ex s ∧ (∀ k', k ≤ k' → ∀ Q' : Post, Q' ex s → T (Rk k') Q') ∧ (Uniq R → ∀ Q' : Post, T R Q' → Q' ex s)

theorem drawn_iff {draw ok : Bool} {cls : Cls} {A : Prop} (h : drawn draw ok cls A) : A ∧ ∀ A' : Prop, drawn draw ok cls A' ↔ A' := by
  cases draw <;> cases cls <;> first | exact ⟨h, fun _ => Iff.rfl⟩ | exact ⟨h.2, fun _ => ⟨fun h' => h'.2, fun h' => ⟨h.1, h'⟩⟩⟩

theorem weOps_one (hm : Mono Rk) (hS : Sub R Rk) {all : List Oper} {draw : Bool} : ∀ (l : List Oper) (i : Nat) (st : St) (K : St → Prop), weOps P R cf all draw l i st K → One1 (fun R K => weOps P R cf all draw l i st K) R Rk K
  | [], i, st, K, h => ⟨0, st, h, fun k' _ K' h' => h', fun _ K' h' => h'⟩
  | o :: l, i, st, K, h => by
    have hop : ∀ {hp : Hp}, opAt P R cf draw o.op (16 * (st.c + i)) (opnd st.tm) hp (fun x hp cls =>
        drawn draw (eOK all i || farOK cf all st.tm st.hp i) cls (weOps P R cf all draw l (i + 1) { tm := put st.tm o.dst x, hp := hp, c := st.c } K)) →
        One1 (fun R K => opAt P R cf draw o.op (16 * (st.c + i)) (opnd st.tm) hp (fun x hp cls =>
        drawn draw (eOK all i || farOK cf all st.tm st.hp i) cls (weOps P R cf all draw l (i + 1) { tm := put st.tm o.dst x, hp := hp, c := st.c } K))) R Rk K := by
      intro hp h
      obtain ⟨k1, x, hp', cls, h1, h2, hu⟩ := opAt_one hm hS h
      obtain ⟨h1, hdr⟩ := drawn_iff h1
      obtain ⟨k2, s, h3, h4, hv⟩ := weOps_one hm hS l (i + 1) _ K h1
      exact ⟨max k1 k2, s, h3, fun k' hle K' h' => h2 k' (by omega) _ ((hdr _).2 (h4 k' (by omega) K' h')), fun hU K' h' => hv hU K' ((drawn_iff (hu hU _ h')).1)⟩
    unfold weOps at h
    split at h
    · rename_i hg
      obtain ⟨k, s, h1, h2, h3⟩ := hop h
      exact ⟨k, s, h1, fun k' hle K' h' => by unfold weOps; rw [hg]; exact h2 k' hle K' h', fun hU K' h' => h3 hU K' (by unfold weOps at h'; rw [hg] at h'; exact h')⟩
    · rename_i j want hg
      obtain ⟨y, hy, h⟩ := caseO_some' h
      obtain ⟨t, hyt, h'⟩ := caseO_some' h
      clear h
      cases t with
      | true =>
        simp only [if_true] at h'
        obtain ⟨k, s, h1, h2, h3⟩ := hop h'
        exact ⟨k, s, h1, fun k' hle K' h' => by unfold weOps; rw [hg]; simp only [hy, hyt, caseO_some, if_true]; exact h2 k' hle K' h',
          fun hU K' h' => h3 hU K' (by unfold weOps at h'; rw [hg] at h'; simp only [hy, hyt, caseO_some, if_true] at h'; exact h')⟩
      | false =>
        simp only [Bool.false_eq_true, if_false] at h'
        obtain ⟨k, s, h1, h2, h3⟩ := weOps_one hm hS l (i + 1) _ K h'
        exact ⟨k, s, h1, fun k' hle K' h' => by unfold weOps; rw [hg]; simp only [hy, hyt, caseO_some, Bool.false_eq_true, if_false]; exact h2 k' hle K' h',
          fun hU K' h' => h3 hU K' (by unfold weOps at h'; rw [hg] at h'; simp only [hy, hyt, caseO_some, Bool.false_eq_true, if_false] at h'; exact h')⟩

theorem canon0_one {e : Nat} {keep : List Nat} {st : St} {K : St → Prop} (h : canon0 e keep st K) : ∃ s, K s ∧ ∀ K' : St → Prop, canon0 e keep st K' ↔ K' s := by
  unfold canon0 at h
  split at h
  · rename_i order ho
    exact ⟨_, h.2.2, fun K' => by unfold canon0; simp only [ho]; exact ⟨fun h' => h'.2.2, fun h' => ⟨h.1, h.2.1, h'⟩⟩⟩
  · exact h.elim

theorem canon_one {e : Nat} {keep : List (Nat × Mds)} {st : St} {K : St → Prop} (h : canon e keep st K) : ∃ s, K s ∧ ∀ K' : St → Prop, canon e keep st K' ↔ K' s := by
  unfold canon at h
  obtain ⟨s1, h1, h⟩ := caseO_some' h
  obtain ⟨s, h2, h3⟩ := canon0_one h
  exact ⟨s, h2, fun K' => by unfold canon; rw [h1]; exact h3 K'⟩

theorem meet_one {e : Nat} {j : Option (List (Nat × Mds))} {st : St} {K : St → Prop} (h : meet e j st K) : ∃ s, K s ∧ ∀ K' : St → Prop, meet e j st K' ↔ K' s := by
  cases j with
  | some keep => exact canon_one h
  | none => exact ⟨st, h, fun _ => Iff.rfl⟩

theorem iter_one {F : Rel → St → Post → Prop} {e : Nat} {keep : List (Nat × Mds)} {out : Ex → List (Nat × Mds)} (hF : ∀ st Q, F R st Q → One2 (fun R Q => F R st Q) R Rk Q) : ∀ (n : Nat) (st : St) (Q : Post), iter (F R) e keep out n st Q →
    ∃ k ex s, Q ex s ∧ (∀ k', k ≤ k' → ∀ Q' : Post, Q' ex s → iter (F (Rk k')) e keep out n st Q') ∧ (Uniq R → ∀ n' (Q' : Post), iter (F R) e keep out n' st Q' → Q' ex s)
  | 0, st, Q, h => h.elim
  | n + 1, st, Q, h => by
    obtain ⟨s, h1, hc⟩ := canon_one h
    obtain ⟨k1, ex, s1, h2, h3, hu⟩ := hF s _ h1
    have hback : ∀ n' (Q' : Post), Uniq R → iter (F R) e keep out n' st Q' → ∃ m, n' = m + 1 ∧ (match ex with | .normal => iter (F R) e keep out m s1 Q' | ex => canon e (out ex) s1 (Q' ex)) := by
      intro n' Q' hU h'
      cases n' with
      | zero => exact h'.elim
      | succ m =>
        refine ⟨m, rfl, ?_⟩
        have := hu hU _ ((hc _).1 h')
        cases ex <;> exact this
    cases ex with
    | normal =>
      obtain ⟨k2, ex2, s2, h4, h5, hv⟩ := iter_one hF n s1 Q h2
      refine ⟨max k1 k2, ex2, s2, h4, fun k' hle Q' h' => (hc _).2 (h3 k' (by omega) _ (h5 k' (by omega) Q' h')), fun hU n' Q' h' => ?_⟩
      obtain ⟨m, rfl, h6⟩ := hback n' Q' hU h'
      exact hv hU m Q' h6
    | exit id =>
      obtain ⟨s2, h4, h5⟩ := canon_one h2
      refine ⟨k1, .exit id, s2, h4, fun k' hle Q' h' => (hc _).2 (h3 k' hle _ ((h5 _).2 h')), fun hU n' Q' h' => ?_⟩
      obtain ⟨m, rfl, h6⟩ := hback n' Q' hU h'
      exact (h5 _).1 h6
    | ret =>
      obtain ⟨s2, h4, h5⟩ := canon_one h2
      refine ⟨k1, .ret, s2, h4, fun k' hle Q' h' => (hc _).2 (h3 k' hle _ ((h5 _).2 h')), fun hU n' Q' h' => ?_⟩
      obtain ⟨m, rfl, h6⟩ := hback n' Q' hU h'
      exact (h5 _).1 h6

theorem we_one (hm : Mono Rk) (hS : Sub R Rk) {g e : Nat} : ∀ (c : Code) (st : St) (Q : Post), we P R cf g e c st Q → One2 (fun R Q => we P R cf g e c st Q) R Rk Q
  | .skip, st, Q, h => ⟨0, .normal, st, h, fun k' _ Q' h' => h', fun _ Q' h' => h'⟩
  | .exit id, st, Q, h => ⟨0, .exit id, st, h, fun k' _ Q' h' => h', fun _ Q' h' => h'⟩
  | .ret, st, Q, h => ⟨0, .ret, st, h, fun k' _ Q' h' => h', fun _ Q' h' => h'⟩
  | .region id ops draw, st, Q, h => by
    unfold we at h
    obtain ⟨k, s, h1, h2, h3⟩ := weOps_one hm hS _ _ _ _ h
    exact ⟨k, .normal, _, h1, fun k' hle Q' h' => by unfold we; exact h2 k' hle _ h', fun hU Q' h' => by unfold we at h'; have := h3 hU _ h'; exact this⟩
  | .seq a b, st, Q, h => by
    unfold we at h
    obtain ⟨k1, ex, s, h1, h2, h3⟩ := we_one hm hS a st _ h
    cases ex with
    | normal =>
      obtain ⟨sm, h1, hmt⟩ := meet_one h1
      obtain ⟨k2, ex2, s2, h4, h5, h6⟩ := we_one hm hS b sm Q h1
      exact ⟨max k1 k2, ex2, s2, h4, fun k' hle Q' h' => by unfold we; exact h2 k' (by omega) _ ((hmt _).2 (h5 k' (by omega) Q' h')), fun hU Q' h' => by unfold we at h'; exact h6 hU _ ((hmt _).1 (h3 hU _ h'))⟩
    | exit id => exact ⟨k1, .exit id, s, h1, fun k' hle Q' h' => by unfold we; exact h2 k' hle _ h', fun hU Q' h' => by unfold we at h'; have := h3 hU _ h'; exact this⟩
    | ret => exact ⟨k1, .ret, s, h1, fun k' hle Q' h' => by unfold we; exact h2 k' hle _ h', fun hU Q' h' => by unfold we at h'; have := h3 hU _ h'; exact this⟩
  | .cond c x y, st, Q, h => by
    unfold we at h
    obtain ⟨t, ht, h'⟩ := caseB_true h
    cases t with
    | true =>
      simp only [if_true] at h'
      obtain ⟨k, ex, s, h1, h2, h3⟩ := we_one hm hS x st Q h'
      exact ⟨k, ex, s, h1, fun k' hle Q' h' => by unfold we; rw [ht]; simp only [caseB_v, if_true]; exact h2 k' hle Q' h', fun hU Q' h' => by unfold we at h'; rw [ht] at h'; simp only [caseB_v, if_true] at h'; exact h3 hU _ h'⟩
    | false =>
      simp only [Bool.false_eq_true, if_false] at h'
      obtain ⟨k, ex, s, h1, h2, h3⟩ := we_one hm hS y st Q h'
      exact ⟨k, ex, s, h1, fun k' hle Q' h' => by unfold we; rw [ht]; simp only [caseB_v, Bool.false_eq_true, if_false]; exact h2 k' hle Q' h', fun hU Q' h' => by unfold we at h'; rw [ht] at h'; simp only [caseB_v, Bool.false_eq_true, if_false] at h'; exact h3 hU _ h'⟩
  | .block id c, st, Q, h => by
    unfold we at h
    obtain ⟨k, ex, s, h1, h2, h3⟩ := we_one hm hS c st _ h
    cases ex with
    | normal => exact ⟨k, .normal, s, h1, fun k' hle Q' h' => by unfold we; exact h2 k' hle _ h', fun hU Q' h' => by unfold we at h'; have := h3 hU _ h'; exact this⟩
    | ret => exact ⟨k, .ret, s, h1, fun k' hle Q' h' => by unfold we; exact h2 k' hle _ h', fun hU Q' h' => by unfold we at h'; have := h3 hU _ h'; exact this⟩
    | exit j =>
      by_cases hj : j = id
      · simp only [if_pos hj] at h1
        exact ⟨k, .normal, s, h1, fun k' hle Q' h' => by unfold we; exact h2 k' hle _ (by simp only [if_pos hj]; exact h'), fun hU Q' h' => by unfold we at h'; have := h3 hU _ h'; simp only [if_pos hj] at this; exact this⟩
      · simp only [if_neg hj] at h1
        exact ⟨k, .exit j, s, h1, fun k' hle Q' h' => by unfold we; exact h2 k' hle _ (by simp only [if_neg hj]; exact h'), fun hU Q' h' => by unfold we at h'; have := h3 hU _ h'; simp only [if_neg hj] at this; exact this⟩
  | .loop c, st, Q, h => by
    unfold we at h
    obtain ⟨n, h⟩ := h
    obtain ⟨k, ex, s, h1, h2, h3⟩ := iter_one (F := fun R st Q => we P R cf g e c st Q) (fun st Q h => we_one hm hS c st Q h) n st Q h
    exact ⟨k, ex, s, h1, fun k' hle Q' h' => by unfold we; exact ⟨n, h2 k' hle Q' h'⟩, fun hU Q' h' => by unfold we at h'; obtain ⟨n', h'⟩ := h'; exact h3 hU n' Q' h'⟩
  | .scope c, _, _, h => by simp [we] at h
  | .label l, _, _, h => by simp [we] at h
  | .goto l, _, _, h => by simp [we] at h
  | .rangeFunc .., _, _, h => by simp [we] at h

/-- One outcome. -/
theorem we_det {g e : Nat} {c : Code} {st : St} {Q : Post} (h : we P R cf g e c st Q) : ∃ ex s, Q ex s ∧ ∀ Q' : Post, Q' ex s → we P R cf g e c st Q' := by
  obtain ⟨k, ex, s, h1, h2, _⟩ := we_one (Rk := fun _ => R) (fun _ _ _ _ _ _ _ _ h => h) (fun _ _ _ _ _ h => ⟨0, h⟩) c st Q h
  exact ⟨ex, s, h1, fun Q' h' => h2 k (Nat.le_refl _) Q' h'⟩

theorem we_mono {g e : Nat} {c : Code} {st : St} {Q Q' : Post} (h : we P R cf g e c st Q) (hq : ∀ ex s, Q ex s → Q' ex s) : we P R cf g e c st Q' := by
  obtain ⟨ex, s, h1, h2⟩ := we_det h
  exact h2 _ (hq ex s h1)

theorem we_rel {R' : Rel} {g e : Nat} {c : Code} {st : St} {Q : Post} (hR : ∀ g a b r b', R g a b r b' → R' g a b r b') (h : we P R cf g e c st Q) : we P R' cf g e c st Q := by
  obtain ⟨k, ex, s, h1, h2, _⟩ := we_one (Rk := fun _ => R') (fun _ _ _ _ _ _ _ _ h => h) (fun _ _ _ _ _ h => ⟨0, hR _ _ _ _ _ h⟩) c st Q h
  exact h2 k (Nat.le_refl _) Q h1

theorem runs_step {ext : Rel} : ∀ k g a b r b', runsN P cf ext k g a b r b' → runsN P cf ext (k + 1) g a b r b'
  | 0, g, a, b, r, b', h => .inl h
  | k + 1, g, a, b, r, b', h => by
    rcases h with h | ⟨h0, fn, c, h1, h2, h3, h4, h⟩
    · exact .inl h
    · obtain ⟨s, q1, q2⟩ := canon_one h
      exact .inr ⟨h0, fn, c, h1, h2, h3, h4, (q2 _).2 (we_rel (runs_step k) q1)⟩

theorem runs_mono {ext : Rel} : Mono (runsN P cf ext) := by
  intro k k' g a b r b' hle h
  induction hle with
  | refl => exact h
  | step _ ih => exact runs_step _ _ _ _ _ _ ih

/-- A call, from what its body does. -/
theorem Runs.intro {ext : Rel} {g : FuncId} {fn : Func} {c : Code} {a b : _} {r : V} {b' : List Blk} (h0 : cf.isExt g = false) (h1 : P.funcs[g]? = some fn) (h2 : fn.body = some c) (h3 : bodyOK fn c a.length = true) (h4 : idsOK a b = true)
    (h : canon (a.flatMap refs1).eraseDups.length (cf.par g) (entry a b) fun st => we P (Runs P cf ext) cf g (a.flatMap refs1).eraseDups.length c st (outs P fn.results.toList (cf.rts g) (cf.res g) (a.flatMap refs1).eraseDups.length r b')) : Runs P cf ext g a b r b' := by
  obtain ⟨s0, q1, q2⟩ := canon_one h
  obtain ⟨k, ex, s, h5, h6, _⟩ := we_one (Rk := runsN P cf ext) runs_mono (fun _ _ _ _ _ h => h) c _ _ q1
  exact ⟨k + 1, .inr ⟨h0, fn, c, h1, h2, h3, h4, (q2 _).2 (h6 k (Nat.le_refl _) _ h5)⟩⟩

theorem Runs.ext {ext : Rel} {g : FuncId} {a b : _} {r : V} {b' : List Blk} (h : ext g a b r b') : Runs P cf ext g a b r b' := ⟨0, h⟩

/-- What is done behind a round. -/
def after (e : Nat) (keep : List (Nat × Mds)) (out : Ex → List (Nat × Mds)) (K : St → Prop) (Q : Post) : Post := fun ex s =>
  match ex with
  | .normal => canon e keep s K
  | ex => canon e (out ex) s (Q ex)

/-- A loop whose head has just been reached. -/
def loopAt (P : Program) (R : Rel) (cf : Cfg) (g : FuncId) (e : Nat) (c : Code) (st : St) (Q : Post) : Prop :=
  ∃ n, we P R cf g e c st fun ex s => match ex with | .normal => iter (we P R cf g e c) e (cf.live g (rid c)) (cf.out g (rid c)) n s Q | ex => canon e (cf.out g (rid c) ex) s (Q ex)

theorem loop_in {g e : Nat} {c : Code} {st : St} {Q : Post} : we P R cf g e (.loop c) st Q = canon e (cf.live g (rid c)) st fun s => loopAt P R cf g e c s Q := by
  apply propext
  constructor
  · intro h
    unfold we at h
    obtain ⟨n, h⟩ := h
    cases n with
    | zero => exact h.elim
    | succ n =>
      obtain ⟨s, h1, h2⟩ := canon_one h
      exact (h2 _).2 ⟨n, h1⟩
  · intro h
    obtain ⟨s, ⟨n, h1⟩, h2⟩ := canon_one h
    unfold we
    exact ⟨n + 1, (h2 _).2 h1⟩

theorem loop_round {g e : Nat} {c : Code} {st : St} {Q : Post} : loopAt P R cf g e c st Q = we P R cf g e c st (after e (cf.live g (rid c)) (cf.out g (rid c)) (fun s => loopAt P R cf g e c s Q) Q) := by
  apply propext
  constructor
  · rintro ⟨n, h⟩
    obtain ⟨ex, s, h1, h2⟩ := we_det h
    refine h2 _ ?_
    cases ex with
    | normal =>
      cases n with
      | zero => exact h1.elim
      | succ n =>
        obtain ⟨s', h3, h4⟩ := canon_one h1
        exact (h4 _).2 ⟨n, h3⟩
    | exit id => exact h1
    | ret => exact h1
  · intro h
    obtain ⟨ex, s, h1, h2⟩ := we_det h
    cases ex with
    | normal =>
      obtain ⟨s', ⟨n, h3⟩, h4⟩ := canon_one h1
      exact ⟨n + 1, h2 _ ((h4 _).2 h3)⟩
    | exit id => exact ⟨0, h2 _ h1⟩
    | ret => exact ⟨0, h2 _ h1⟩

end Go.Proofs.YtnhibkgoinnmcaaDoor.Ev
end

/-! #### Ev29 -/
section
/- What an operation looks at. -/
namespace Go.Proofs.YtnhibkgoinnmcaaDoor.Ev
open Go
set_option linter.unusedVariables false
set_option linter.unusedSimpArgs false

variable {P : Program} {R : Rel} {cf : Cfg} {ρ ρ' : Operand → V} {hp hp' : Hp} {b : Nat} {K : Cont}

theorem fillV_congr {flds : List Fld} : ∀ (l : List (Nat × Operand)) (cs : List V), (∀ x ∈ l, ρ x.2 = ρ' x.2) → fillV flds ρ cs l = fillV flds ρ' cs l
  | [], _, _ => rfl
  | (k, x) :: l, cs, h => by
    have e := h (k, x) (by simp)
    simp only at e
    simp only [fillV, e]
    cases flds[k]? with
    | none => rfl
    | some f =>
      simp only []
      split
      · cases putSeg cs f.off (flat (ρ' x)) with
        | none => rfl
        | some cs' => simp only [Option.bind_some]; exact fillV_congr l cs' fun y hy => h y (by simp [hy])
      · rfl

theorem closeParts_congr {size : Nat} : ∀ (l : List (Nat × Operand)) (n : Nat), (∀ x ∈ l, ρ x.2 = ρ' x.2) → closeParts hp ρ size n l = closeParts hp ρ' size n l
  | [], _, _ => rfl
  | (k, x) :: l, n, h => by
    have e := h (k, x) (by simp)
    simp only at e
    simp only [closeParts, e, closeParts_congr l (n + 1) fun y hy => h y (by simp [hy])]

theorem bnd_congr {x : Option Operand} {d : Nat} (h : ∀ y, x = some y → ρ y = ρ' y) : bnd ρ x d = bnd ρ' x d := by
  cases x with
  | none => rfl
  | some y => simp only [bnd, h y rfl]

theorem map_congr' {l : List Operand} (h : ∀ x ∈ l, ρ x = ρ' x) : l.map ρ = l.map ρ' := List.map_congr_left h

theorem nevT_congr {op : Op} (h : ∀ y ∈ op.operands, ρ y = ρ' y) : nevT P op ρ = nevT P op ρ' := by
  cases op with
  | move x => simp only [nevT, h x (by simp [Op.operands])]
  | assign x => simp only [nevT, h x (by simp [Op.operands])]
  | pick c a b => simp only [nevT, h c (by simp [Op.operands]), h a (by simp [Op.operands]), h b (by simp [Op.operands])]
  | build t parts =>
    simp only [nevT]
    cases tyOf P t with
    | none => rfl
    | some d => simp only [fillV_congr parts.toList d.zero fun x hx => h x.2 (by simp only [Op.operands, List.mem_toArray, List.mem_map]; exact ⟨x, hx, rfl⟩)]
  | nilCheck x => simp only [nevT, h x (by simp [Op.operands])]
  | binOp o t x y yt => simp only [nevT, h x (by simp [Op.operands]), h y (by simp [Op.operands])]
  | unOp u t x => simp only [nevT, h x (by simp [Op.operands])]
  | convert s d x => simp only [nevT, h x (by simp [Op.operands])]
  | field t x k => simp only [nevT, h x (by simp [Op.operands])]
  | fieldAddr t x k => simp only [nevT, h x (by simp [Op.operands])]
  | index t x i => simp only [nevT, h x (by simp [Op.operands]), h i (by simp [Op.operands])]
  | indexAddr t x i => simp only [nevT, h x (by simp [Op.operands]), h i (by simp [Op.operands])]
  | slice t x lo hi mx =>
    have e := h x (by simp [Op.operands])
    have el : ∀ d, bnd ρ lo d = bnd ρ' lo d := fun d => bnd_congr fun y hy => h y (by subst hy; simp [Op.operands])
    have eh : ∀ d, bnd ρ hi d = bnd ρ' hi d := fun d => bnd_congr fun y hy => h y (by subst hy; simp [Op.operands])
    have em : ∀ d, bnd ρ mx d = bnd ρ' mx d := fun d => bnd_congr fun y hy => h y (by subst hy; simp [Op.operands])
    cases mx with
    | none => simp only [nevT, e, el, eh]
    | some m =>
      cases hi with
      | none => rfl
      | some r => simp only [nevT, e, el, eh, em]
  | extract x k => simp only [nevT, h x (by simp [Op.operands])]
  | makeFunc fn first caps =>
    cases fn with
    | func f =>
      have e : caps.toList.map ρ = caps.toList.map ρ' := map_congr' fun x hx => h x (by simp [Op.operands]; right; simpa using hx)
      simp only [nevT, e]
    | _ => rfl
  | call c =>
    obtain ⟨callee, args, tys⟩ := c
    cases callee with
    | value f => rfl
    | invoke r m => rfl
    | builtin bb =>
      have e : args.toList.map ρ = args.toList.map ρ' := map_congr' fun x hx => h x (by simp [Op.operands, Call.operands]; simpa using hx)
      cases bb with
      | len =>
        simp only [nevT]
        match hargs : args.toList, tys.toList with
        | [], _ => rfl
        | [x], [] => rfl
        | [x], [t] =>
          rw [hargs] at e
          simp only [List.map_cons, List.map_nil, List.cons.injEq, and_true] at e
          simp only [e]
        | [x], _ :: _ :: _ => rfl
        | _ :: _ :: _, _ => rfl
      | min => simp only [nevT, e]
      | max => simp only [nevT, e]
      | _ => rfl
  | _ => rfl

theorem nevM_congr {op : Op} (h : ∀ y ∈ op.operands, ρ y = ρ' y) : nevM P op ρ hp b = nevM P op ρ' hp b := by
  cases op with
  | box t x => simp only [nevM, h x (by simp [Op.operands])]
  | load t x => simp only [nevM, h x (by simp [Op.operands])]
  | indexAddr t x i => simp only [nevM, h x (by simp [Op.operands]), h i (by simp [Op.operands])]
  | makeSlice t x i => simp only [nevM, h x (by simp [Op.operands]), h i (by simp [Op.operands])]
  | convert s d x => simp only [nevM, h x (by simp [Op.operands])]
  | _ => rfl

theorem weSlice_congr {t : TypeId} {s : V} {lo hi : Option Operand} (h1 : ∀ y, lo = some y → ρ y = ρ' y) (h2 : ∀ y, hi = some y → ρ y = ρ' y) : weSlice P t s lo hi ρ hp K = weSlice P t s lo hi ρ' hp K := by
  have e1 : ∀ d, bnd ρ lo d = bnd ρ' lo d := fun d => bnd_congr h1
  have e2 : ∀ d, bnd ρ hi d = bnd ρ' hi d := fun d => bnd_congr h2
  simp only [weSlice, e1, e2]

theorem apart_congr {ρ ρ' : Operand → V} : ∀ {l : List (Nat × Operand)}, (∀ x ∈ l, ρ x.2 = ρ' x.2) → apartB ρ l = apartB ρ' l
  | [], _ => rfl
  | x :: l, h => by
    have h2 := apart_congr (l := l) fun y hy => h y (by simp [hy])
    unfold apartB at h2 ⊢
    simp only [List.all_cons, h x (by simp), h2]
theorem weBuild_congr {t : TypeId} {n : Nat} {l : List (Nat × Operand)} (h : ∀ x ∈ l, ρ x.2 = ρ' x.2) : weBuildSlice P t n l ρ hp b K = weBuildSlice P t n l ρ' hp b K := by
  cases n with
  | zero => rfl
  | succ n => simp only [weBuildSlice, closeParts_congr l _ h, apart_congr h]

/-- An operation looks at its operands alone. -/
theorem weOp_congr {op : Op} (h : ∀ y ∈ op.operands, ρ y = ρ' y) : weOp P R cf op b ρ hp K = weOp P R cf op b ρ' hp K := by
  have eT := nevT_congr (P := P) h
  have eM := nevM_congr (P := P) (hp := hp) (b := b) h
  cases op with
  | store t a x => simp only [weOp, h a (by simp [Op.operands]), h x (by simp [Op.operands])]
  | buildSlice t n parts => simp only [weOp]; exact weBuild_congr fun x hx => h x.2 (by simp only [Op.operands, List.mem_toArray, List.mem_map]; exact ⟨x, hx, rfl⟩)
  | slice t x lo hi mx =>
    have e := h x (by simp [Op.operands])
    cases mx with
    | none =>
      have es : ∀ K, weSlice P t (ρ' x) lo hi ρ hp K = weSlice P t (ρ' x) lo hi ρ' hp K := fun K =>
        weSlice_congr (fun y (hy : lo = some y) => h y (by subst hy; simp [Op.operands])) (fun y (hy : hi = some y) => h y (by subst hy; simp [Op.operands]))
      simp only [weOp, eT, e, es]
    | some m => simp only [weOp, eT, eM]
  | call c =>
    obtain ⟨callee, args, tys⟩ := c
    have e : args.toList.map ρ = args.toList.map ρ' := map_congr' fun x hx => h x (by cases callee <;> simp [Op.operands, Call.operands] <;> first | (right; simpa using hx) | simpa using hx)
    cases callee with
    | value f => simp only [weOp, e, h f (by simp [Op.operands, Call.operands])]
    | invoke r m => rfl
    | builtin bb =>
      cases bb with
      | append =>
        simp only [weOp]
        match hargs : args.toList with
        | [] => rfl
        | [_] => rfl
        | [s, x] =>
          rw [hargs] at e
          simp only [List.map_cons, List.map_nil, List.cons.injEq, and_true] at e
          simp only [e.1, e.2]
        | _ :: _ :: _ :: _ => rfl
      | _ => simp only [weOp, eT, eM]
  | _ => simp only [weOp, eT, eM]

/-- Operations that look at their operands alone. -/
theorem weOp_isT {op : Op} (ht : isT op = true) (h : weOp P R cf op b ρ hp K) : ∃ x, K x hp .T ∧ ∀ (hp' : Hp) (b' : Nat) (K' : Cont), K' x hp' .T → weOp P R cf op b' ρ hp' K' := by
  have key : ∀ {op : Op}, (∀ hp b K, weOp P R cf op b ρ hp K = match nevT P op ρ with | some x => K x hp .T | none => caseO (nevM P op ρ hp b) fun z => z.2.length ≤ 16 ∧ K z.1 (inst hp b z.2) .M) → (∀ hp b, nevM P op ρ hp b = none) →
      weOp P R cf op b ρ hp K → ∃ x, K x hp .T ∧ ∀ (hp' : Hp) (b' : Nat) (K' : Cont), K' x hp' .T → weOp P R cf op b' ρ hp' K' := by
    intro op h1 h2 h
    rw [h1] at h
    cases hx : nevT P op ρ with
    | none => rw [hx] at h; simp only [h2] at h; exact h.elim
    | some x =>
      rw [hx] at h
      exact ⟨x, h, fun hp' b' K' h' => by rw [h1, hx]; exact h'⟩
  cases op with
  | call c =>
    obtain ⟨callee, args, tys⟩ := c
    cases callee with
    | builtin bb => cases bb <;> first | (simp [isT] at ht; done) | exact key (fun _ _ _ => rfl) (fun _ _ => rfl) h
    | _ => simp [isT] at ht
  | _ => first | (simp [isT] at ht; done) | exact key (fun _ _ _ => rfl) (fun _ _ => rfl) h

/-- Operations that look at blocks and leave them. -/
theorem weOp_isR {op : Op} (hr : isR op = true) (h : weOp P R cf op b ρ hp K) : ∃ x cls, K x hp cls ∧ ∀ (hp' : Hp), (∀ y ∈ op.operands, ∀ id ∈ refs2 (ρ y), ∀ k, hp id = some k → hp' id = some k) →
    ∀ (b' : Nat) (K' : Cont), K' x hp' cls → weOp P R cf op b' ρ hp' K' := by
  have key : ∀ {op : Op}, (∀ hp b K, weOp P R cf op b ρ hp K = match nevT P op ρ with | some x => K x hp .T | none => caseO (nevM P op ρ hp b) fun z => z.2.length ≤ 16 ∧ K z.1 (inst hp b z.2) .M) →
      (∀ x new, nevM P op ρ hp b = some (x, new) → new = [] ∧ ∀ hp', (∀ y ∈ op.operands, ∀ id ∈ refs2 (ρ y), ∀ k, hp id = some k → hp' id = some k) → ∀ b', nevM P op ρ hp' b' = some (x, [])) →
      weOp P R cf op b ρ hp K → ∃ x cls, K x hp cls ∧ ∀ (hp' : Hp), (∀ y ∈ op.operands, ∀ id ∈ refs2 (ρ y), ∀ k, hp id = some k → hp' id = some k) → ∀ (b' : Nat) (K' : Cont), K' x hp' cls → weOp P R cf op b' ρ hp' K' := by
    intro op h1 h2 h
    rw [h1] at h
    cases hx : nevT P op ρ with
    | some x =>
      rw [hx] at h
      exact ⟨x, .T, h, fun hp' _ b' K' h' => by rw [h1, hx]; exact h'⟩
    | none =>
      rw [hx] at h
      simp only at h
      obtain ⟨⟨x, new⟩, hz, hl, hK⟩ := caseO_some' h
      obtain ⟨rfl, h3⟩ := h2 x new hz
      refine ⟨x, .M, hK, fun hp' ha b' K' h' => ?_⟩
      rw [h1, hx]
      simp only [h3 hp' ha b', caseO_some, inst]
      exact ⟨by simp, h'⟩
  cases op with
  | load t a =>
    refine key (fun _ _ _ => rfl) (fun x new hx => ?_) h
    refine ⟨load_len P b ρ hp t a _ hx, fun hp' ha b' => ?_⟩
    simp only [nevM] at hx ⊢
    split at hx
    · rename_i d hd
      split at hx
      · rename_i row c hra
        split at hx
        · rename_i z hz
          cases hx
          simp only [hd, hra, hz]
        · cases hx
      · rename_i id r c hra
        have hag := ha a (by simp [Op.operands]) id (by rw [hra]; simp [refs2, refs1, refs0])
        split at hx
        · rename_i k hk
          have hag' := hag k hk
          split at hx
          · rename_i row hrow
            split at hx
            · rename_i cs hcs
              split at hx
              · rename_i hc
                split at hx
                · rename_i z hz
                  cases hx
                  simp only [hd, hra, hag', hrow, hcs]
                  rw [if_pos hc]
                  simp only [hz]
                · cases hx
              · cases hx
            · cases hx
          · cases hx
        · cases hx
      · cases hx
    · cases hx
  | indexAddr t a i =>
    refine key (fun _ _ _ => rfl) (fun x new hx => ?_) h
    simp only [nevM] at hx
    split at hx
    · rename_i id lo n k j hra hri
      split at hx
      · rename_i e he
        split at hx
        · rename_i d kb hd hkb
          split at hx
          · rename_i hc
            cases hx
            refine ⟨rfl, fun hp' ha b' => ?_⟩
            have hag := ha a (by simp [Op.operands]) id (by rw [hra]; simp [refs2, refs1, refs0]) kb hkb
            simp only [nevM, hra, hri, he, hd, hag]
            rw [if_pos hc]
          · cases hx
        · cases hx
      · cases hx
    · cases hx
  | convert s d a =>
    refine key (fun _ _ _ => rfl) (fun x new hx => ?_) h
    simp only [nevM] at hx
    split at hx
    · rename_i rows hra
      split at hx
      · rename_i hc
        split at hx
        · rename_i bs hbs
          cases hx
          exact ⟨rfl, fun hp' ha b' => by simp only [nevM, hra, hbs]; rw [if_pos hc]⟩
        · cases hx
      · cases hx
    · rename_i id lo n hra
      split at hx
      · rename_i k hk
        split at hx
        · rename_i hc
          split at hx
          · rename_i bs hbs
            cases hx
            refine ⟨rfl, fun hp' ha b' => ?_⟩
            have hag := ha a (by simp [Op.operands]) id (by rw [hra]; simp [refs2, refs1, refs0]) k hk
            simp only [nevM, hra, hag]
            rw [if_pos hc]
            simp only [hbs]
          · cases hx
        · cases hx
      · cases hx
    · rename_i str hra
      split at hx
      · rename_i hc
        cases hx
        exact ⟨rfl, fun hp' ha b' => by simp only [nevM, hra]; rw [if_pos hc]⟩
      · cases hx
    · rename_i hra
      split at hx
      · rename_i hc
        cases hx
        exact ⟨rfl, fun hp' ha b' => by simp only [nevM, hra]; rw [if_pos hc]⟩
      · cases hx
    · cases hx
  | slice t a lo hi mx =>
    cases mx with
    | some m => exact key (fun _ _ _ => rfl) (fun x new hx => by simp [nevM] at hx) h
    | none =>
      simp only [weOp] at h
      by_cases hs : isStr P t = true
      · rw [if_pos hs] at h
        obtain ⟨z, hz, hK⟩ := caseO_some' h
        refine ⟨z, .M, hK, fun hp' ha b' K' h' => ?_⟩
        simp only [weOp]
        rw [if_pos hs, hz]
        exact h'
      · rw [if_neg hs] at h
        unfold weSlice at h
        obtain ⟨e, he, h⟩ := caseO_some' h
        obtain ⟨d, hd, h⟩ := caseO_some' h
        split at h
        · rename_i hra
          obtain ⟨l, hl, h⟩ := caseO_some' h
          obtain ⟨r, hrr, h⟩ := caseO_some' h
          refine ⟨.em, .M, h.2.2, fun hp' ha b' K' h' => ?_⟩
          simp only [weOp]
          rw [if_neg hs]
          simp only [weSlice, he, hd, hra, hl, hrr, caseO_some]
          exact ⟨h.1, h.2.1, h'⟩
        · rename_i rows hra
          obtain ⟨l, hl, h⟩ := caseO_some' h
          obtain ⟨r, hrr, h⟩ := caseO_some' h
          obtain ⟨h1, h2, h3, h⟩ := h
          refine ⟨_, .M, h, fun hp' ha b' K' h' => ?_⟩
          simp only [weOp]
          rw [if_neg hs]
          simp only [weSlice, he, hd, hra, hl, hrr, caseO_some]
          exact ⟨h1, h2, h3, h'⟩
        · rename_i id l0 n hra
          obtain ⟨l, hl, h⟩ := caseO_some' h
          obtain ⟨r, hrr, h⟩ := caseO_some' h
          obtain ⟨k, hk, h⟩ := caseO_some' h
          obtain ⟨h1, h2, h3, h⟩ := h
          refine ⟨_, .M, h, fun hp' ha b' K' h' => ?_⟩
          have hag := ha a (by simp [Op.operands]) id (by rw [hra]; simp [refs2, refs1, refs0]) k hk
          simp only [weOp]
          rw [if_neg hs]
          simp only [weSlice, he, hd, hra, hl, hrr, hag, caseO_some]
          exact ⟨h1, h2, h3, h'⟩
        · exact h.elim
  | _ => simp [isR] at hr

/-- What leaves the old blocks alone: all but what lies at its own numbers. -/
def Leaves (b : Nat) (hp hp' : Hp) : Prop := ∀ id, ¬ (b ≤ id ∧ id < b + 16) → hp' id = hp id

theorem Leaves.refl (b : Nat) (hp : Hp) : Leaves b hp hp := fun _ _ => rfl

theorem leaves_upd {b : Nat} {hp : Hp} {x : Option Blk} : Leaves b hp (upd hp b x) := fun id h => by
  simp only [upd]
  rw [if_neg (by omega)]

theorem inst_other : ∀ (l : List Blk) (hp : Hp) (b id : Nat), ¬ (b ≤ id ∧ id < b + l.length) → inst hp b l id = hp id
  | [], _, _, _, _ => rfl
  | k :: l, hp, b, id, h => by
    simp only [inst]
    simp only [List.length_cons] at h
    rw [inst_other l _ (b + 1) id (by omega)]
    simp only [upd]
    rw [if_neg (by omega)]

theorem leaves_inst {b : Nat} {hp : Hp} {l : List Blk} (h : l.length ≤ 16) : Leaves b hp (inst hp b l) := fun id hid => inst_other l hp b id (by omega)

def Lv (b : Nat) (hp : Hp) (K : Cont) : Prop := ∃ x hp' cls, K x hp' cls ∧ (cls ≠ .E → Leaves b hp hp')

theorem weStore_lv {t : TypeId} {a x : V} (h : weStore P t a x hp K) : Lv b hp K := by
  unfold weStore at h
  repeat' (split at h)
  all_goals first | exact h.elim | exact ⟨_, _, _, h, fun hh => absurd rfl hh⟩

theorem weBuild_lv {t : TypeId} {len : Nat} {parts : List (Nat × Operand)} (h : weBuildSlice P t len parts ρ hp b K) : Lv b hp K := by
  unfold weBuildSlice at h
  obtain ⟨e, he, h⟩ := caseO_some' h
  obtain ⟨d, hd, h⟩ := caseO_some' h
  cases len with
  | zero => exact ⟨_, _, _, h.2, fun _ => Leaves.refl _ _⟩
  | succ len =>
    obtain ⟨z, hz, h1, h2, h3, h⟩ := caseO_some' h
    refine ⟨_, _, _, h, fun hh => ?_⟩
    cases hk : z.2.1 with
    | nil => exact leaves_upd
    | cons i l => rw [hk] at hh; exact absurd rfl hh

theorem weAppend_lv {ts : List TypeId} {s x : V} (h : weAppend P ts s x hp b K) : Lv b hp K := by
  unfold weAppend at h
  split at h
  · obtain ⟨e, he, h⟩ := caseO_some' h
    obtain ⟨d, hd, h⟩ := caseO_some' h
    obtain ⟨ht, h⟩ := h
    obtain ⟨rows, kills, deep, h, _⟩ := srcRows_one h
    split at h
    · obtain ⟨h1, h2, h3, h4, h⟩ := h
      refine ⟨_, _, _, h, fun hh => ?_⟩
      cases kills with
      | nil => exact leaves_upd
      | cons i l => exact absurd rfl hh
    · obtain ⟨k, hk, h⟩ := caseO_some' h
      exact ⟨_, _, _, h.2.2.2.2.2.2.2.2, fun hh => absurd rfl hh⟩
    · exact h.elim
  · exact h.elim

theorem weSlice_lv {t : TypeId} {s : V} {lo hi : Option Operand} (h : weSlice P t s lo hi ρ hp K) : Lv b hp K := by
  unfold weSlice at h
  obtain ⟨e, he, h⟩ := caseO_some' h
  obtain ⟨d, hd, h⟩ := caseO_some' h
  split at h
  · obtain ⟨l, hl, h⟩ := caseO_some' h
    obtain ⟨r, hr, h⟩ := caseO_some' h
    exact ⟨_, _, _, h.2.2, fun _ => Leaves.refl _ _⟩
  · obtain ⟨l, hl, h⟩ := caseO_some' h
    obtain ⟨r, hr, h⟩ := caseO_some' h
    exact ⟨_, _, _, h.2.2.2, fun _ => Leaves.refl _ _⟩
  · obtain ⟨l, hl, h⟩ := caseO_some' h
    obtain ⟨r, hr, h⟩ := caseO_some' h
    obtain ⟨k, hk, h⟩ := caseO_some' h
    exact ⟨_, _, _, h.2.2.2, fun _ => Leaves.refl _ _⟩
  · exact h.elim

theorem weInv_lv {g : FuncId} {args : List V} (h : weInv R cf g args hp b K) : Lv b hp K := by
  unfold weInv at h
  cases ha : lendA hp (cf.byref g) args with
  | none => rw [ha] at h; exact h.elim
  | some args' =>
    rw [ha] at h
    cases hc : closeC hp (args'.flatMap refs1) with
    | none => simp only [hc] at h
    | some order =>
      cases order with
      | nil =>
        simp only [hc] at h
        unfold wePure callR at h
        obtain ⟨r, blks', hr, hlen, hid, h⟩ := h
        by_cases hif : ((lentA (cf.byref g) args).isEmpty || (noIm r && blks'.all noImB)) = true
        · rw [if_pos hif] at h
          refine ⟨_, _, _, h, fun _ => ?_⟩
          have : callHp hp [] 0 b blks' = inst hp b (blks'.map (renB (back [] 0 blks'.length b))) := by cases blks' <;> rfl
          rw [this]
          exact leaves_inst (by simpa using hlen)
        · rw [if_neg hif] at h
          exact ⟨_, _, _, h, fun hh => absurd rfl hh⟩
      | cons i l =>
        simp only [hc] at h
        unfold weRef callR at h
        obtain ⟨_, _, _, r, blks', hr, _, _, h⟩ := h
        exact ⟨_, _, _, h, fun hh => absurd rfl hh⟩

theorem weOp_lv {op : Op} (h : weOp P R cf op b ρ hp K) : Lv b hp K := by
  unfold weOp at h
  split at h
  · exact weStore_lv h
  · exact weBuild_lv h
  · split at h
    · obtain ⟨z, hz, h⟩ := caseO_some' h
      exact ⟨_, _, _, h, fun _ => Leaves.refl _ _⟩
    · exact weSlice_lv h
  · split at h
    · exact weAppend_lv h
    · exact h.elim
  · split at h
    · exact weInv_lv h
    · exact h.elim
  · split at h
    · exact ⟨_, _, _, h, fun _ => Leaves.refl _ _⟩
    · obtain ⟨z, hz, hl, h⟩ := caseO_some' h
      exact ⟨_, _, _, h, fun _ => leaves_inst hl⟩

end Go.Proofs.YtnhibkgoinnmcaaDoor.Ev
end

/-! #### Ev32 -/
section
/- Orders of operations: what comes ahead; the trace of a region. -/
namespace Go.Proofs.YtnhibkgoinnmcaaDoor.Ev
open Go
set_option linter.unusedVariables false
set_option linter.unusedSimpArgs false

variable {P : Program} {R : Rel} {cf : Cfg}

theorem mask_bits {acc : List Nat} {j : Nat} : ∀ (l : List Edge), (l.foldr (fun e s => if Region.binds .any e then s ||| 2 ^ e.on ||| acc.getD e.on 0 else s) 0).testBit j = true →
    ∃ e ∈ l, Region.binds .any e = true ∧ (e.on = j ∨ (acc.getD e.on 0).testBit j = true)
  | [], h => by simp at h
  | e :: l, h => by
    simp only [List.foldr_cons] at h
    by_cases hb : Region.binds .any e = true
    · rw [if_pos hb] at h
      simp only [Nat.testBit_or, Bool.or_eq_true] at h
      rcases h with (h | h) | h
      · obtain ⟨e', h1, h2⟩ := mask_bits l h
        exact ⟨e', by simp [h1], h2⟩
      · rw [Nat.testBit_two_pow] at h
        exact ⟨e, by simp, hb, .inl (by simpa using h)⟩
      · exact ⟨e, by simp, hb, .inr h⟩
    · rw [if_neg hb] at h
      obtain ⟨e', h1, h2⟩ := mask_bits l h
      exact ⟨e', by simp [h1], h2⟩

/-- What a mask's bit says. -/
def AncOK (ops : List Oper) (ms : List Nat) : Prop := ∀ (i m : Nat), ms[i]? = some m → ∀ j, m.testBit j = true →
  ∃ o e, ops[i]? = some o ∧ e ∈ o.after.toList ∧ Region.binds .any e = true ∧ (e.on = j ∨ ∃ m', ms[e.on]? = some m' ∧ e.on < i ∧ m'.testBit j = true)

theorem anc_spec : ∀ (l pre : List Oper) (acc : List Nat), acc.length = pre.length → AncOK pre acc → AncOK (pre ++ l) (anc l acc)
  | [], pre, acc, _, h => by simpa [anc] using h
  | o :: l, pre, acc, hlen, h => by
    simp only [anc]
    have := anc_spec l (pre ++ [o]) (acc ++ [o.after.toList.foldr (fun e s => if Region.binds .any e then s ||| 2 ^ e.on ||| acc.getD e.on 0 else s) 0]) (by simp [hlen]) (by
      intro i m hm j hj
      by_cases hi : i < acc.length
      · rw [List.getElem?_append_left hi] at hm
        obtain ⟨o', e, h1, h2, h3, h4⟩ := h i m hm j hj
        refine ⟨o', e, by rw [List.getElem?_append_left (by omega)]; exact h1, h2, h3, h4.imp (fun h => h) ?_⟩
        rintro ⟨m', h5, h6, h7⟩
        exact ⟨m', by rw [List.getElem?_append_left (by omega)]; exact h5, h6, h7⟩
      · rw [List.getElem?_append_right (by omega)] at hm
        have hi' : i - acc.length = 0 := by
          have := (List.getElem?_eq_some_iff.1 hm).1
          simp at this
          omega
        rw [hi'] at hm
        simp only [List.getElem?_cons_zero, Option.some.injEq] at hm
        subst hm
        obtain ⟨e, h1, h2, h3⟩ := mask_bits _ hj
        refine ⟨o, e, ?_, h1, h2, h3.imp (fun h => h) ?_⟩
        · rw [List.getElem?_append_right (by omega), show i - pre.length = 0 by omega]; rfl
        · intro h3
          have hlt : e.on < acc.length := by
            rcases Nat.lt_or_ge e.on acc.length with h' | h'
            · exact h'
            · rw [List.getD_eq_getElem?_getD, List.getElem?_eq_none h'] at h3
              simp at h3
          refine ⟨acc[e.on], by rw [List.getElem?_append_left hlt, List.getElem?_eq_getElem hlt], by omega, ?_⟩
          rw [List.getD_eq_getElem?_getD, List.getElem?_eq_getElem hlt] at h3
          simpa using h3)
    rwa [List.append_assoc] at this

theorem bef_step {ops : List Oper} {i j : Nat} (h : befB ops i j = true) : ∃ o e, ops[i]? = some o ∧ e ∈ o.after.toList ∧ Region.binds .any e = true ∧ (e.on = j ∨ (e.on < i ∧ befB ops e.on j = true)) := by
  have hs := anc_spec ops [] [] rfl (fun i m hm => by simp at hm)
  unfold befB at h
  cases hm : (anc ops [])[i]? with
  | none => rw [List.getD_eq_getElem?_getD, hm] at h; simp at h
  | some m =>
    rw [List.getD_eq_getElem?_getD, hm] at h
    obtain ⟨o, e, h1, h2, h3, h4⟩ := hs i m hm j (by simpa using h)
    refine ⟨o, e, by simpa using h1, h2, h3, h4.imp (fun h => h) ?_⟩
    rintro ⟨m', h5, h6, h7⟩
    refine ⟨h6, ?_⟩
    unfold befB
    rw [List.getD_eq_getElem?_getD, h5]
    simpa using h7

/-- A set of operations that holds with each one what its edges name. -/
def Shut (ops : List Oper) (D : Nat → Prop) : Prop := ∀ i o, D i → ops[i]? = some o → ∀ e ∈ o.after.toList, Region.binds .any e = true → D e.on

theorem bef_shut {ops : List Oper} {D : Nat → Prop} (hD : Shut ops D) : ∀ (i j : Nat), befB ops i j = true → D i → D j := by
  intro i
  induction i using Nat.strongRecOn with
  | _ i ih =>
    intro j h hi
    obtain ⟨o, e, h1, h2, h3, h4⟩ := bef_step h
    have he := hD i o hi h1 e h2 h3
    rcases h4 with h4 | ⟨h4, h5⟩
    · exact h4 ▸ he
    · exact ih e.on h4 j h5 he

/-- What comes ahead of an operation whose edges are met. -/
theorem bef_ready {ops : List Oper} {D : Nat → Prop} (hD : Shut ops D) {i : Nat} {o : Oper} (ho : ops[i]? = some o) (hr : ∀ e ∈ o.after.toList, Region.binds .any e = true → D e.on) {j : Nat} (h : befB ops i j = true) : D j := by
  obtain ⟨o', e, h1, h2, h3, h4⟩ := bef_step h
  rw [ho] at h1
  cases h1
  have he := hr e h2 h3
  rcases h4 with h4 | ⟨_, h5⟩
  · exact h4 ▸ he
  · exact bef_shut hD e.on j h5 he

theorem bef_lt {ops : List Oper} (hb : backOK ops = true) : ∀ (i j : Nat), befB ops i j = true → j < i := by
  intro i
  induction i using Nat.strongRecOn with
  | _ i ih =>
    intro j h
    obtain ⟨o, e, h1, h2, h3, h4⟩ := bef_step h
    have hlt : i < ops.length := (List.getElem?_eq_some_iff.1 h1).1
    unfold backOK at hb
    have := List.all_eq_true.1 hb i (by simpa using hlt)
    simp only [h1, Bool.and_eq_true] at this
    have h5 := this.1
    rw [Array.all_eq_true_iff_forall_mem] at h5
    have h6 := h5 e (by simpa using h2)
    simp only [h3, Bool.not_true, Bool.or_false, decide_eq_true_eq] at h6
    rcases h4 with h4 | ⟨h4, h5⟩
    · omega
    · have := ih e.on h4 j h5
      omega

def Want (all : List Oper) (tm : Tm) (o : Oper) : Prop := ∀ j want, o.guard = some (j, want) → ∃ d, (all[j]?).bind (·.dst) = some d ∧ guardC (tm d) want = some true
def NotWant (all : List Oper) (tm : Tm) (o : Oper) : Prop := ∃ j want d, o.guard = some (j, want) ∧ (all[j]?).bind (·.dst) = some d ∧ guardC (tm d) want = some false

/-- The values of a region's slots and blocks, operation by operation, in the order of the list. -/
structure Trace (P : Program) (R : Rel) (cf : Cfg) (all : List Oper) (c : Nat) (tmS : Nat → Tm) (hpS : Nat → Hp) (xS : Nat → V) (clsS : Nat → Cls) (i : Nat) (o : Oper) : Prop where
  tm : tmS (i + 1) = put (tmS i) o.dst (xS i)
  step : (Want all (tmS i) o ∧ opAt P R cf true o.op (16 * (c + i)) (opnd (tmS i)) (hpS i) (fun x hp cls => x = xS i ∧ hp = hpS (i + 1) ∧ cls = clsS i) ∧ (clsS i = .E → eOK all i = true ∨ farOK cf all (tmS i) (hpS i) i = true)) ∨
    (NotWant all (tmS i) o ∧ xS i = .tup [] ∧ hpS (i + 1) = hpS i)

theorem Trace.congr {all : List Oper} {c : Nat} {tmS tmS' : Nat → Tm} {hpS hpS' : Nat → Hp} {xS xS' : Nat → V} {clsS clsS' : Nat → Cls} {i : Nat} {o : Oper} (h : Trace P R cf all c tmS hpS xS clsS i o)
    (h1 : tmS' i = tmS i) (h2 : tmS' (i + 1) = tmS (i + 1)) (h3 : hpS' i = hpS i) (h4 : hpS' (i + 1) = hpS (i + 1)) (h5 : xS' i = xS i) (h6 : clsS' i = clsS i) : Trace P R cf all c tmS' hpS' xS' clsS' i o :=
  ⟨by rw [h2, h1, h5]; exact h.tm, by rw [h1, h3, h4, h5, h6]; exact h.step⟩

theorem trace_of {all : List Oper} {c : Nat} {K : St → Prop} : ∀ (l : List Oper) (i : Nat) (tm : Tm) (hp : Hp), weOps P R cf all true l i ⟨tm, hp, c⟩ K →
    ∃ tmS hpS xS clsS, tmS i = tm ∧ hpS i = hp ∧ (∀ (j : Nat) (o : Oper), l[j]? = some o → Trace P R cf all c tmS hpS xS clsS (i + j) o) ∧ K ⟨tmS (i + l.length), hpS (i + l.length), c⟩
  | [], i, tm, hp, h => ⟨fun _ => tm, fun _ => hp, fun _ => .any, fun _ => .T, rfl, rfl, fun j o hj => by simp at hj, h⟩
  | o :: l, i, tm, hp, h => by
    -- one operation ahead of the others
    have join : ∀ (x : V) (hp' : Hp) (cls : Cls), weOps P R cf all true l (i + 1) ⟨put tm o.dst x, hp', c⟩ K →
        ((Want all tm o ∧ opAt P R cf true o.op (16 * (c + i)) (opnd tm) hp (fun x1 hp1 cls1 => x1 = x ∧ hp1 = hp' ∧ cls1 = cls) ∧ (cls = .E → eOK all i = true ∨ farOK cf all tm hp i = true)) ∨ (NotWant all tm o ∧ x = .tup [] ∧ hp' = hp)) →
        ∃ tmS hpS xS clsS, tmS i = tm ∧ hpS i = hp ∧ (∀ (j : Nat) (o1 : Oper), (o :: l)[j]? = some o1 → Trace P R cf all c tmS hpS xS clsS (i + j) o1) ∧ K ⟨tmS (i + (o :: l).length), hpS (i + (o :: l).length), c⟩ := by
      intro x hp' cls hrest hstep
      obtain ⟨tmS, hpS, xS, clsS, h1, h2, h3, h4⟩ := trace_of l (i + 1) _ _ hrest
      have hne : ∀ j, i + 1 + j ≠ i := fun j => by omega
      refine ⟨fun k => if k = i then tm else tmS k, fun k => if k = i then hp else hpS k, fun k => if k = i then x else xS k, fun k => if k = i then cls else clsS k, by simp, by simp, fun j o1 hj => ?_, ?_⟩
      · cases j with
        | zero =>
          simp only [List.getElem?_cons_zero, Option.some.injEq] at hj
          subst hj
          have hn : i + 1 ≠ i := by omega
          refine ⟨?_, ?_⟩
          · simp only [Nat.add_zero, if_neg hn, if_true, h1]
          · simp only [Nat.add_zero, if_neg hn, if_true, h2]
            exact hstep
        | succ j =>
          simp only [List.getElem?_cons_succ] at hj
          have := h3 j o1 hj
          rw [show i + (j + 1) = i + 1 + j by omega]
          have n1 : i + 1 + j ≠ i := by omega
          have n2 : i + 1 + j + 1 ≠ i := by omega
          exact this.congr (by simp only [if_neg n1]) (by simp only [if_neg n2]) (by simp only [if_neg n1]) (by simp only [if_neg n2]) (by simp only [if_neg n1]) (by simp only [if_neg n1])
      · simp only [List.length_cons]
        have n1 : i + (l.length + 1) ≠ i := by omega
        simp only [if_neg n1]
        rw [show i + (l.length + 1) = i + 1 + l.length by omega]
        exact h4
    have hop : Want all tm o → opAt P R cf true o.op (16 * (c + i)) (opnd tm) hp (fun x hp1 cls => drawn true (eOK all i || farOK cf all tm hp i) cls (weOps P R cf all true l (i + 1) ⟨put tm o.dst x, hp1, c⟩ K)) →
        ∃ tmS hpS xS clsS, tmS i = tm ∧ hpS i = hp ∧ (∀ (j : Nat) (o1 : Oper), (o :: l)[j]? = some o1 → Trace P R cf all c tmS hpS xS clsS (i + j) o1) ∧ K ⟨tmS (i + (o :: l).length), hpS (i + (o :: l).length), c⟩ := by
      intro hw h
      obtain ⟨k, x, hp', cls, h1, h2, _⟩ := opAt_one (Rk := fun _ => R) (fun _ _ _ _ _ _ _ _ h => h) (fun _ _ _ _ _ h => ⟨0, h⟩) h
      refine join x hp' cls (drawn_iff h1).1 (.inl ⟨hw, h2 k (Nat.le_refl _) _ ⟨rfl, rfl, rfl⟩, fun hc => ?_⟩)
      subst hc
      exact (Bool.or_eq_true _ _).mp h1.1
    unfold weOps at h
    split at h
    · rename_i hg
      exact hop (fun j want hj => by rw [hg] at hj; cases hj) h
    · rename_i j want hg
      obtain ⟨y, hy, h⟩ := caseO_some' h
      obtain ⟨t, hyt, h'⟩ := caseO_some' h
      clear h
      simp only [Option.map_eq_some_iff] at hy
      obtain ⟨d, hjd, hyd⟩ := hy
      subst hyd
      cases t with
      | true =>
        simp only [if_true] at h'
        exact hop (fun j' want' hj' => by rw [hg] at hj'; cases hj'; exact ⟨d, hjd, hyt⟩) h'
      | false =>
        simp only [Bool.false_eq_true, if_false] at h'
        exact join (.tup []) hp .T h' (.inr ⟨⟨j, want, d, hg, hjd, hyt⟩, rfl, rfl⟩)

/-- The value of a slot behind those of the first n operations that are in D. -/
def lw (all : List Oper) (xS : Nat → V) (tm0 : Tm) (D : Nat → Prop) [DecidablePred D] : Nat → Tm
  | 0 => tm0
  | n + 1 => if D n then (match all[n]? with | some o => put (lw all xS tm0 D n) o.dst (xS n) | none => lw all xS tm0 D n) else lw all xS tm0 D n

section
variable {all : List Oper} {xS : Nat → V} {tm0 : Tm}

theorem lw_congr {D D' : Nat → Prop} [DecidablePred D] [DecidablePred D'] {d : Nat} : ∀ (n : Nat), (∀ (j : Nat) (o : Oper), j < n → all[j]? = some o → o.dst = some d → (D j ↔ D' j)) → lw all xS tm0 D n d = lw all xS tm0 D' n d
  | 0, _ => rfl
  | n + 1, h => by
    have ih := lw_congr (D := D) (D' := D') (d := d) n fun j o hj => h j o (by omega)
    have hput : ∀ (D : Nat → Prop) [DecidablePred D] (o : Oper), o.dst ≠ some d → put (lw all xS tm0 D n) o.dst (xS n) d = lw all xS tm0 D n d := by
      intro D _ o ho
      rcases put_get (tm := lw all xS tm0 D n) (dst := o.dst) (x := xS n) (t := d) with h1 | ⟨h1, _⟩
      · exact h1
      · exact absurd h1 ho
    have hsame : ∀ (D : Nat → Prop) [DecidablePred D], (∀ o, all[n]? = some o → o.dst ≠ some d) → lw all xS tm0 D (n + 1) d = lw all xS tm0 D n d := by
      intro D _ hno
      simp only [lw]
      split
      · cases ho : all[n]? with
        | none => rfl
        | some o => exact hput D o (hno o ho)
      · rfl
    by_cases hex : ∃ o, all[n]? = some o ∧ o.dst = some d
    · obtain ⟨o, ho, hd⟩ := hex
      have hiff := h n o (by omega) ho hd
      simp only [lw, ho, hd]
      by_cases hD : D n
      · rw [if_pos hD, if_pos (hiff.1 hD)]
        simp [put, upd]
      · rw [if_neg hD, if_neg (fun hh => hD (hiff.2 hh))]
        exact ih
    · have hno : ∀ o, all[n]? = some o → o.dst ≠ some d := fun o ho hd => hex ⟨o, ho, hd⟩
      rw [hsame D hno, hsame D' hno]
      exact ih

theorem lw_ref {tmS : Nat → Tm} (h0 : tmS 0 = tm0) (hs : ∀ (j : Nat) (o : Oper), all[j]? = some o → tmS (j + 1) = put (tmS j) o.dst (xS j)) : ∀ n, n ≤ all.length → tmS n = lw all xS tm0 (fun _ => True) n
  | 0, _ => h0
  | n + 1, hn => by
    have ih := lw_ref h0 hs n (by omega)
    have ho : all[n]? = some (all[n]'(by omega)) := List.getElem?_eq_getElem (by omega)
    rw [hs n _ ho, ih]
    simp only [lw, if_true, ho]

theorem lw_cut {i : Nat} : ∀ n, i ≤ n → lw all xS tm0 (fun j => j < i) n = lw all xS tm0 (fun _ => True) i
  | 0, h => by
    have : i = 0 := by omega
    subst this; rfl
  | n + 1, h => by
    by_cases hi : i = n + 1
    · subst hi
      funext d
      exact lw_congr (n + 1) fun j o hj _ _ => ⟨fun _ => trivial, fun _ => hj⟩
    · rw [← lw_cut n (by omega)]
      simp only [lw]
      rw [if_neg (by omega)]

/-- One more operation. -/
theorem lw_add {D D' : Nat → Prop} [DecidablePred D] [DecidablePred D'] {i : Nat} {o : Oper} (ho : all[i]? = some o) (hD : ∀ j, D' j ↔ D j ∨ j = i) (hno : ∀ (j : Nat) (o' : Oper) (d : Nat), i < j → D j → all[j]? = some o' → o.dst = some d → o'.dst ≠ some d) :
    ∀ n, i < n → lw all xS tm0 D' n = put (lw all xS tm0 D n) o.dst (xS i) := by
  intro n hn
  funext d
  by_cases hd : o.dst = some d
  · have hval : put (lw all xS tm0 D n) o.dst (xS i) d = xS i := by rw [hd]; simp [put, upd]
    rw [hval]
    induction n with
    | zero => omega
    | succ n ih =>
      simp only [lw]
      by_cases hin : i = n
      · subst hin
        rw [if_pos ((hD i).2 (.inr rfl)), ho]
        simp only [hd]
        simp [put, upd]
      · have ih' := ih (by omega) (by rw [hd]; simp [put, upd])
        split
        · rename_i hDn
          have hDn' : D n := ((hD n).1 hDn).resolve_right fun h => hin h.symm
          cases hon : all[n]? with
          | none => exact ih'
          | some o' =>
            simp only []
            rcases put_get (tm := lw all xS tm0 D' n) (dst := o'.dst) (x := xS n) (t := d) with h1 | ⟨h1, _⟩
            · rw [h1]; exact ih'
            · exact absurd h1 (hno n o' d (by omega) hDn' hon hd)
        · exact ih'
  · rcases put_get (tm := lw all xS tm0 D n) (dst := o.dst) (x := xS i) (t := d) with h1 | ⟨h1, _⟩
    · rw [h1]
      refine lw_congr n fun j o' hj hoj hdj => ?_
      rw [hD j]
      refine ⟨fun h => h.resolve_right fun he => ?_, .inl⟩
      subst he
      rw [ho] at hoj
      cases hoj
      exact hd hdj
    · exact absurd h1 hd
end

theorem filter_lt {α : Type} {p p' : α → Bool} : ∀ (l : List α), (∀ x ∈ l, p' x = true → p x = true) → (∃ x ∈ l, p x = true ∧ p' x = false) → (l.filter p').length < (l.filter p).length
  | [], _, ⟨x, hx, _⟩ => by simp at hx
  | a :: l, h, ⟨x, hx, h1, h2⟩ => by
    have hle : ∀ (l : List α), (∀ x ∈ l, p' x = true → p x = true) → (l.filter p').length ≤ (l.filter p).length := by
      intro l
      induction l with
      | nil => intro _; simp
      | cons b l ih =>
        intro hb
        have := ih fun y hy => hb y (by simp [hy])
        simp only [List.filter_cons]
        cases hp' : p' b with
        | true => rw [hb b (by simp) hp']; simp; omega
        | false => cases p b <;> simp <;> omega
    simp only [List.filter_cons]
    simp only [List.mem_cons] at hx
    rcases hx with rfl | hx
    · have := hle l fun y hy => h y (by simp [hy])
      rw [h1, h2]
      simp
      omega
    · have := filter_lt l (fun y hy => h y (by simp [hy])) ⟨x, hx, h1, h2⟩
      cases hp' : p' a with
      | true => rw [h a (by simp) hp']; simp; omega
      | false => cases p a <;> simp <;> omega

end Go.Proofs.YtnhibkgoinnmcaaDoor.Ev
end
