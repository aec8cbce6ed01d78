/- An append: what it does in memory is what the evaluator says. -/
import Derived.Test.YtcmihlhmeonmfaaEv12
namespace Go.Proofs.Ytcmihlhmeonmfaa.Ev
open Go
set_option linter.unusedVariables false
set_option linter.unusedSimpArgs false

variable {P : Program} {w w' w0 : World} {E E' : Env} {hp hp' : Hp} {G G' U A W F S : Nat → Prop} {B : Nat → Prop} {ρ : Operand → V} {ρr : Operand → Value}

theorem run_append_zero {t ty e : TypeId} {i : TypeInfo} (ht : P.underlying t = some (.slice e)) (hi : P.info? e = some i) (a xa : Option Addr) (n cap xc : Nat) (hn : n ≤ cap) :
    (Builtin.append_ #[t, t] ty #[.slice a n cap, .slice xa 0 xc]).run P w = .ok (.slice a n cap) w := by
  have hf : (Builtin.firstCells i.size 0 (.slice xa 0 xc)).run P w = .ok #[] w := by
    cases xa with
    | none => rfl
    | some x => simp [Builtin.firstCells, loadCells, loadCellsFrom]
  cases a with
  | none => simp [Builtin.append_, run_underlying ht, sizeOf, typeInfo, hi, Builtin.lenOf, hn, hf]
  | some a => simp [Builtin.append_, run_underlying ht, sizeOf, typeInfo, hi, Builtin.lenOf, hn, hf, storeCells]

theorem append_exec {s x : Operand} {t : TypeId} {o : Oper} {a : Act} {y : Value} (ho : o.op = .call { callee := .builtin .append, args := #[s, x], argTypes := #[t, t] })
    (h : (Builtin.append_ #[t, t] o.type #[a.eval s, a.eval x]).run P w = .ok y w') : (execOp a.eval o).run P w = .ok (.value y) w' := by
  simp only [execOp, ho, resolve, invoke, builtin, Sem.run_bind, Sem.run_pure, Result.andThen_ok, List.map_toArray, List.map_cons, List.map_nil, h]

theorem steps_value {o : Oper} {a : Act} {x : V} {y : Value} {w' : World} {E' : Env} {G' : Nat → Prop} (hr : (execOp a.eval o).run P w = .ok (.value y) w') (h : HpInv w0 U A E' G' hp' w') (hv : VR2 w' E' hp' G' x y) (he : Ext B E G hp w E' G' hp' w') : StepsTo P w0 U A B E G hp w o a x hp' := by
  intro next Q hn
  unfold Oper.wp
  rw [hr]
  exact hn y w' E' G' h hv he

theorem drew_heap (w : World) : w.drew.heap = w.heap := rfl

theorem fr_grow (w : World) (o : Obj) : Fr0 w (w.drew.alloc o) := (Fr0.drew w).trans (Fr0.alloc w.drew o)

theorem grow_new (w : World) (o : Obj) : (w.drew.alloc o).heap[w.heap.size]? = some o := alloc_new w.drew o

/-- The cells of a grown row. -/
theorem grown_get {olds news : List Value} {z : Array Value} {m : Nat} {q : Nat} {u : Value} (h : (olds ++ news)[q]? = some u) : (olds.toArray ++ news.toArray ++ Builtin.zeroCells z m)[q]? = some u := by
  have hlt : q < (olds ++ news).length := (List.getElem?_eq_some_iff.1 h).1
  rw [Array.getElem?_append]
  rw [if_pos (by simpa using hlt)]
  have : olds.toArray ++ news.toArray = (olds ++ news).toArray := by simp
  rw [this]
  simpa using h

theorem rows_append {k1 rows : List (List V)} {n size : Nat} (hn : k1.length = n) {olds news : List Value} (ho : olds.length = n * size) {Q : V → Value → Prop}
    (h1 : ∀ (i j : Nat) (row : List V) (x : V), k1[i]? = some row → row[j]? = some x → ∃ u, olds[i * size + j]? = some u ∧ Q x u)
    (h2 : ∀ (i j : Nat) (row : List V) (x : V), rows[i]? = some row → row[j]? = some x → ∃ u, news[i * size + j]? = some u ∧ Q x u)
    (hl : ∀ (i : Nat) (row : List V), (k1 ++ rows)[i]? = some row → row.length = size) :
    ∀ (i j : Nat) (row : List V) (x : V), (k1 ++ rows)[i]? = some row → row[j]? = some x → ∃ u, (olds ++ news)[i * size + j]? = some u ∧ Q x u := by
  intro i j row x hi hj
  have hjs : j < size := by rw [← hl i row hi]; exact (List.getElem?_eq_some_iff.1 hj).1
  rw [List.getElem?_append] at hi
  split at hi
  · rename_i hlt
    obtain ⟨u, hu, hq⟩ := h1 i j row x hi hj
    refine ⟨u, ?_, hq⟩
    rw [List.getElem?_append_left (List.getElem?_eq_some_iff.1 hu).1]
    exact hu
  · rename_i hge
    obtain ⟨u, hu, hq⟩ := h2 _ j row x hi hj
    refine ⟨u, ?_, hq⟩
    have hle : n * size ≤ i * size := Nat.mul_le_mul_right _ (by omega)
    rw [List.getElem?_append_right (by omega)]
    rw [← hu]
    congr 1
    rw [ho, hn, Nat.sub_mul]
    omega

/-- The row of a slice of ours from its beginning, in memory: either there is none, or it lies in a block. -/
theorem own_at (hI : HpInv w0 U A E G hp w) {id n : Nat} {k : Blk} {y : Value} (hy : VR2 w E hp G (.ar id 0 n) y) (hk : hp id = some k) (hkk : k.kind = .arr) :
    ∃ a cap, y = .slice a n cap ∧ n ≤ cap ∧ n ≤ k.rows.length ∧ ((n = 0 ∧ cap = 0) ∨ ∃ b cur, a = some ⟨b, 0, none⟩ ∧ E.m id = some b ∧ w.heap[b]? = some (.cells cur k.ty (0, 0)) ∧ cap ≤ maxLen ∧ cur.size = cap * k.size ∧
      ∀ (i j : Nat) (row : List V) (x : V), (k.rows.take n)[i]? = some row → row[j]? = some x → ∃ u, cur[i * k.size + j]? = some u ∧ Rep w (if k.deep = true then E.N id else G) x u) ∧
      (∀ (i : Nat) (row : List V), k.rows[i]? = some row → row.length = k.size ∨ E.m id = none) := by
  obtain ⟨a, cap, hy, hrel⟩ := hy
  obtain ⟨h1, h2, h3⟩ := hrel k hk
  have hb := hI.blk id k hk
  unfold BlkRel at hb
  simp only [hkk] at hb
  have hncap : n ≤ cap := by rcases h3 with ⟨q1, q2⟩ | ⟨_, _, _, _, _, _, q3, _⟩ <;> omega
  rcases hb with ⟨q1, q2⟩ | ⟨b', cur', cap', q1, q2, q3, q4, q5, q6, q7, q8⟩
  · refine ⟨a, cap, hy, hncap, by omega, ?_, fun i row hi => .inr q2⟩
    rcases h3 with h3 | ⟨b, cur, ty, fz, hm, _⟩
    · exact .inl h3
    · rw [q2] at hm; cases hm
  · refine ⟨a, cap, hy, hncap, by omega, ?_, fun i row hi => .inl (q7 i row hi)⟩
    rcases h3 with h3 | ⟨b, cur, ty, fz, hm, ha, hn, hh, hs⟩
    · exact .inl h3
    · rw [hm] at q1
      cases q1
      rw [hh] at q2
      cases q2
      have hcc : cap' = cap := by
        have : (0 + cap) * k.size = cap' * k.size := by rw [← hs, q4]
        have := Nat.eq_of_mul_eq_mul_right q3 this
        omega
      subst hcc
      refine .inr ⟨b', cur', by rw [ha]; simp, hm, hh, q5, q4, fun i j row x hi hj => ?_⟩
      have hi' : k.rows[i]? = some row := by
        rw [List.getElem?_take] at hi
        split at hi
        · exact hi
        · cases hi
      obtain ⟨u, hu, hr⟩ := q8 i j row x hi' hj
      refine ⟨u, hu, ?_⟩
      cases hd : k.deep <;> simp [hd] at hr ⊢ <;> exact hr

theorem append_new {s x : Operand} {t e : TypeId} {d : TyD} {b : Nat} {o : Oper} {a : Act} (c : MCtx P w0 U A B E G hp w ρ a.eval b) (ho : o.op = .call { callee := .builtin .append, args := #[s, x], argTypes := #[t, t] })
    (he : (tyOf P t).bind (·.elem) = some e) (hd : tyOf P e = some d) {rows : List (List V)} {kills : List Nat} {deep : Bool} (hsrc : SrcRel w E hp G d.size rows kills deep (a.eval x))
    (hb1 : rows.length * d.bytes ≤ maxBytes) (hb2 : rows.length * d.size ≤ maxBytes) (hrl : ∀ r ∈ rows, r.length = d.size) {sa : Option Addr} (hs : a.eval s = .slice sa 0 0) {extra : List Nat} :
    StepsTo P w0 U A B E G hp w o a (.ar b 0 rows.length) (upd (kill hp (extra ++ kills)) b (some (arrOf e d.size deep rows))) := by
  obtain ⟨i, u, z, hi, hu, hz, hs0, hzs, hone, hdd⟩ := tyOf_some hd
  have hds : d.size = i.size := by rw [hdd]
  have hdb : d.bytes = i.bytes := by rw [hdd]
  have hpos := tyOf_pos hd
  have ht := elem_under he
  obtain ⟨xa, xc, hx, hor⟩ := hsrc.rel hrl
  have hmono : ∀ y, ((deep = false ∧ G y) ∨ Held E hp kills y) → (deep = false ∧ G y) ∨ Held E hp (extra ++ kills) y := fun y hy => hy.imp (fun h => h) fun ⟨id, h1, h2⟩ => ⟨id, by simp [h1], h2⟩
  have hrows : ∀ (i : Nat) (row : List V), rows[i]? = some row → row.length = d.size := fun i row hi => hrl row (List.mem_of_getElem? hi)
  rcases hor with h0 | ⟨ad, news, hxa, hnl, hnc, hn1, hnr⟩
  · subst h0
    obtain ⟨E', G', g1, g2, g3⟩ := newArr (F := fun _ => False) (mb := none) (e := e) (deep := deep) (rows := []) c.inv c.wf (c.new 0 (by omega)) (kills := extra ++ kills) (Fr.refl (fun _ => False) w) (fun y h => h.elim) hpos (fun i row hi => by simp at hi)
      (.inl ⟨rfl, rfl⟩) (fun y h => h.elim) (fun y h => h.elim)
    refine steps_value (append_exec ho (by rw [hs, hx]; exact run_append_zero ht hi sa xa 0 0 xc (Nat.le_refl _))) g1 ?_ g2
    refine ⟨_, _, rfl, fun k hk => ?_⟩
    simp only [upd, if_true, Option.some.injEq] at hk
    subst hk
    exact ⟨by simp [arrOf], by simp [arrOf], .inl ⟨rfl, rfl⟩⟩
  · by_cases hm0 : rows.length = 0
    · have h0 : rows = [] := List.eq_nil_of_length_eq_zero hm0
      subst h0
      obtain ⟨E', G', g1, g2, g3⟩ := newArr (F := fun _ => False) (mb := none) (e := e) (deep := deep) (rows := []) c.inv c.wf (c.new 0 (by omega)) (kills := extra ++ kills) (Fr.refl (fun _ => False) w) (fun y h => h.elim) hpos (fun i row hi => by simp at hi)
        (.inl ⟨rfl, rfl⟩) (fun y h => h.elim) (fun y h => h.elim)
      refine steps_value (append_exec ho (by rw [hs, hx]; exact run_append_zero ht hi sa xa 0 0 xc (Nat.le_refl _))) g1 ?_ g2
      refine ⟨_, _, rfl, fun k hk => ?_⟩
      simp only [upd, if_true, Option.some.injEq] at hk
      subst hk
      exact ⟨by simp [arrOf], by simp [arrOf], .inl ⟨rfl, rfl⟩⟩
    · have hmle : rows.length ≤ rows.length * d.size := Nat.le_mul_of_pos_right _ hpos
      have hm63 : rows.length ≤ maxLen := by unfold maxBytes at hb2; simp only [maxLen]; omega
      have hgc := grownCap_ge w rows.length 0 e
      have hgm := grownCap_le_maxLen w rows.length 0 e hm63
      have hrun : (Builtin.append_ #[t, t] o.type #[.slice sa 0 0, .slice xa rows.length xc]).run P w =
          .ok (.slice (some ⟨w.heap.size, 0, none⟩) rows.length (grownCap w rows.length 0 e)) (w.drew.alloc (.cells (([] : List Value).toArray ++ news.toArray ++ Builtin.zeroCells z.cells (grownCap w rows.length 0 e - rows.length)) e)) := by
        subst hxa
        cases sa with
        | none =>
          have := run_append_nil (P := P) w t o.type e i z ht hi hz ad rows.length xc news (by rw [← hds]; exact hnl) hnc (by omega) (by simp only [maxLen] at hm63; omega) (by rw [← hdb]; unfold maxBytes at hb1; omega)
          simpa using this
        | some b0 =>
          have := run_append_grow (P := P) w t o.type e i z ht hi hz b0 0 0 [] (by simp) (fun j v h => by simp at h) ad rows.length xc news (by rw [← hds]; exact hnl) hnc (by omega) (by simp only [maxLen] at hm63; omega) (growslice_fits (by omega) (by rw [← hdb, Nat.zero_add]; unfold maxBytes at hb1; omega))
          simpa using this
      obtain ⟨E', G', g1, g2, g3⟩ := newArr (F := fun y => (deep = false ∧ G y) ∨ Held E hp kills y) (mb := some w.heap.size) (e := e) (deep := deep) (rows := rows) c.inv c.wf (c.new 0 (by omega)) (kills := extra ++ kills) (fr_grow w (.cells (([] : List Value).toArray ++ news.toArray ++ Builtin.zeroCells z.cells (grownCap w rows.length 0 e - rows.length)) e)) (fun y h => h.elim) hpos hrows
        (.inr ⟨w.heap.size, ([] : List Value).toArray ++ news.toArray ++ Builtin.zeroCells z.cells (grownCap w rows.length 0 e - rows.length), grownCap w rows.length 0 e, rfl, grow_new w _, .inl (Nat.le_refl _), fun hh => by
          rcases hh with ⟨_, hg⟩ | hh
          · have := (c.inv.g1 _ hg).1; omega
          · have := (c.inv.freedL hh).1; omega, by
          simp only [Array.size_append, List.size_toArray, List.length_nil, size_zeroCells, hzs, hnl, hds]
          rw [Nat.zero_add, ← Nat.add_mul]; congr 1; omega, hgm, hgc, fun i' j row x hi' hj => by
          obtain ⟨u, hu, hr⟩ := hnr i' j row x hi' hj
          exact ⟨u, grown_get (by simpa using hu), hr⟩⟩) hmono (fun y _ h => h)
      refine steps_value (append_exec ho (by rw [hs, hx]; exact hrun)) g1 ?_ g2
      refine ⟨_, _, rfl, fun k hk => ?_⟩
      simp only [upd, if_true, Option.some.injEq] at hk
      subst hk
      refine ⟨by simp [arrOf], by simp [arrOf], .inr ⟨w.heap.size, _, _, _, g3, by simp, hgc, grow_new w _, ?_⟩⟩
      simp only [Array.size_append, List.size_toArray, List.length_nil, size_zeroCells, hzs, hnl, hds, arrOf]
      rw [Nat.zero_add, ← Nat.add_mul]; congr 1; omega

end Go.Proofs.Ytcmihlhmeonmfaa.Ev
