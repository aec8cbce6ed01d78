/- A store, a literal, a slice of a slice, an append: what they do in memory is what the evaluator says. -/
import Derived.Test.YtcmihlhmeonmfaaEv9
import Derived.Laws.AppendOwn
namespace Go.Proofs.Ytcmihlhmeonmfaa.Ev
open Go
set_option linter.unusedVariables false
set_option linter.unusedSimpArgs false

variable {P : Program} {w w' w0 : World} {E E' : Env} {hp hp' : Hp} {G G' U A W : Nat → Prop} {B : Nat → Prop} {ρ : Operand → V} {ρr : Operand → Value}

/-- What a step comes to, whatever is done next. -/
def StepsTo (P : Program) (w0 : World) (U A B : Nat → Prop) (E : Env) (G : Nat → Prop) (hp : Hp) (w : World) (o : Oper) (a : Act) (x : V) (hp' : Hp) : Prop :=
  ∀ (next : Act → World → Prop) (Q : Exit → Act → World → Prop),
    (∀ y w' E' G', HpInv w0 U A E' G' hp' w' → VR2 w' E' hp' G' x y → Ext B E G hp w E' G' hp' w' → next (a.put o.dst y) w') → o.wp P a w next Q

/-- Numbers that are known after a step. -/
def More (B : Nat → Prop) (b : Nat) (id : Nat) : Prop := B id ∨ (b ≤ id ∧ id < b + 16)

def WfOut (B : Nat → Prop) (b : Nat) (x : V) (hp' : Hp) : Prop := (∀ id ∈ refs2 x, More B b id) ∧ HpWf (More B b) hp'

theorem HpWf.more (h : HpWf B hp) (b : Nat) : HpWf (More B b) hp := fun id k hk => ⟨.inl (h id k hk).1, fun j hj => .inl ((h id k hk).2 j hj)⟩

theorem MGives.steps {op : Op} {x : V} {o : Oper} {a : Act} (h : MGives P w0 U A B E G hp w op a.eval x hp') (ho : o.op = op) : StepsTo P w0 U A B E G hp w o a x hp' := by
  intro next Q hn
  obtain ⟨y, w', E', G', h1, h2, h3, h4⟩ := h o ho
  unfold Oper.wp
  rw [h1]
  exact hn y w' E' G' h2 h3 h4

theorem steps_skip {o : Oper} {a : Act} {w' : World} {E' : Env} {G' : Nat → Prop} (hr : (execOp a.eval o).run P w = .ok .skip w') (h : HpInv w0 U A E' G' hp' w') (he : Ext B E G hp w E' G' hp' w') : StepsTo P w0 U A B E G hp w o a .any hp' := by
  intro next Q hn
  unfold Oper.wp
  rw [hr]
  exact hn undef w' E' G' h trivial he

theorem setRow_size (w : World) (g : Nat) (cs : Array Value) : (w.setRow g cs).heap.size = w.heap.size := by simp [World.setRow]

theorem run_storeVar {t : TypeId} {d : TyD} {b o : Nat} {v : Value} {cur : Array Value} {ty : TypeId} (hd : tyOf P t = some d) (hv : v.cells.size = d.size) (hh : w.heap[b]? = some (.cells cur ty (0, 0))) (hb : o + d.size ≤ cur.size)
    (h1 : ∀ u ∈ v.cells.toList, u.oneCell' = true) :
    (storeVar t ⟨b, o, none⟩ v).run P w = .ok () (w.setRow b (cur.toList.take o ++ v.cells.toList ++ cur.toList.drop (o + d.size)).toArray) := by
  unfold storeVar
  simp only [Sem.run_bind, run_size hd, Result.andThen_ok, hv, ne_eq, not_true_eq_false, if_false]
  have hst := run_storeCells_at P b o ty v.cells.toList 0 cur w hh (by simp; omega) h1
  simp only [Nat.add_zero, Array.length_toList] at hst
  rw [hv] at hst
  exact hst

theorem putSeg_some {cs new r : List V} {off : Nat} (h : putSeg cs off new = some r) : off + new.length ≤ cs.length ∧ r = cs.take off ++ new ++ cs.drop (off + new.length) ∧ r.length = cs.length := by
  unfold putSeg at h
  split at h
  · rename_i hle
    have h := Option.some.inj h
    subst h
    refine ⟨hle, rfl, by simp; omega⟩
  · cases h

theorem refs0_closed {hp : Hp} {x y : V} {kills : List Nat} {deep : Bool} (h : closeCell hp x = some (y, kills, deep)) : refs0 y = [] := by
  unfold closeCell at h
  split at h
  · cases h; rfl
  · cases h; rfl
  · cases h; rfl
  · split at h
    · split at h <;> cases h <;> rfl
    · cases h
  · cases h

theorem set_get {α : Type} {l : List α} {r i : Nat} {x y : α} (h : (l.set r x)[i]? = some y) : (i = r ∧ y = x) ∨ (i ≠ r ∧ l[i]? = some y) := by
  rw [List.getElem?_set] at h
  split at h
  · rename_i hri
    split at h
    · left; exact ⟨hri.symm, (Option.some.inj h).symm⟩
    · cases h
  · rename_i hri
    right; exact ⟨fun e => hri e.symm, h⟩

theorem nodupB_cons {x : Nat} {l : List Nat} (h : nodupB (x :: l) = true) : x ∉ l := by
  simp only [nodupB, Bool.and_eq_true, Bool.not_eq_true', List.contains_eq_mem, decide_eq_false_iff_not] at h
  exact h.1

theorem closed_of {x y : V} {kills : List Nat} {deep : Bool} (h : closeCell hp x = some (y, kills, deep)) : okCell x = true := by
  unfold closeCell at h
  split at h <;> first | rfl | cases h

theorem closed_all : ∀ {cs ys : List V} {kills : List Nat} {deep : Bool}, closeCells hp cs = some (ys, kills, deep) → cs.all okCell = true ∧ ys.length = cs.length ∧ ∀ y ∈ ys, refs0 y = []
  | [], ys, kills, deep, h => by
    simp only [closeCells, Option.some.injEq, Prod.mk.injEq] at h
    obtain ⟨rfl, rfl, rfl⟩ := h
    simp
  | c :: cs, ys, kills, deep, h => by
    simp only [closeCells] at h
    split at h
    · rename_i y a d ys' as ds h1 h2
      cases h
      obtain ⟨g1, g2, g3⟩ := closed_all h2
      refine ⟨by simp [closed_of h1, g1], by simp [g2], fun z hz => ?_⟩
      rcases List.mem_cons.1 hz with rfl | hz
      · exact refs0_closed h1
      · exact g3 z hz
    · cases h

/-- A cell of a row of an array in which a part of a row is written. -/
theorem row_put {cur : Array Value} {r sz off n : Nat} {cells : List Value} (hn : cells.length = n) (hoff : off + n ≤ sz) (hle : r * sz + sz ≤ cur.size) {i j : Nat} (hj : j < sz) (hi : i * sz + j < cur.size) :
    ((cur.toList.take (r * sz + off) ++ cells ++ cur.toList.drop (r * sz + off + n)).toArray)[i * sz + j]? =
      if i = r ∧ off ≤ j ∧ j < off + n then cells[j - off]? else cur[i * sz + j]? := by
  have hlen : (cur.toList.take (r * sz + off)).length = r * sz + off := by simp; omega
  simp only [List.getElem?_toArray]
  rw [List.getElem?_append, List.getElem?_append]
  simp only [List.length_append, hlen, hn]
  by_cases hir : i = r
  · subst hir
    by_cases h1 : j < off
    · rw [if_pos (by omega), if_pos (by omega), if_neg (by omega)]
      rw [List.getElem?_take, if_pos (by omega)]; simp
    · by_cases h2 : j < off + n
      · rw [if_pos (by omega), if_neg (by omega), if_pos ⟨rfl, by omega, h2⟩]
        congr 1; omega
      · rw [if_neg (by omega), if_neg (by omega), List.getElem?_drop]
        have : i * sz + off + n + (i * sz + j - (i * sz + off + n)) = i * sz + j := by omega
        rw [this]; simp
  · rw [if_neg (show ¬ (i = r ∧ off ≤ j ∧ j < off + n) from fun h => hir h.1)]
    rcases Nat.lt_or_gt_of_ne hir with hlt | hgt
    · have : i * sz + sz ≤ r * sz := by have := Nat.mul_le_mul_right sz (show i + 1 ≤ r by omega); rwa [Nat.add_mul, Nat.one_mul] at this
      rw [if_pos (by omega), if_pos (by omega), List.getElem?_take, if_pos (by omega)]; simp
    · have : r * sz + sz ≤ i * sz := by have := Nat.mul_le_mul_right sz (show r + 1 ≤ i by omega); rwa [Nat.add_mul, Nat.one_mul] at this
      rw [if_neg (by omega), List.getElem?_drop]
      have : r * sz + off + n + (i * sz + j - (r * sz + off + n)) = i * sz + j := by omega
      rw [this]; simp

theorem store_arr {t : TypeId} {ad x : Operand} {b : Nat} {o : Oper} {a : Act} {K : Cont} (c : MCtx P w0 U A B E G hp w ρ a.eval b) (ho : o.op = .store t ad x) {d : TyD} {id r cc : Nat} {k : Blk} {row row' cs : List V} {kills : List Nat} {deep : Bool} {bb off : Nat}
    (hd : tyOf P t = some d) (hx : ρ ad = .rf id r cc) (hk : hp id = some k) (hrow : k.rows[r]? = some row) (hlen : (flat (ρ x)).length = d.size) (hy : a.eval ad = .pointer (some ⟨bb, off, none⟩)) (hm : E.m id = some bb) (hoff : off = r * k.size + cc)
    (hkind : k.kind = .arr) (hclose : closeCells hp (flat (ρ x)) = some (cs, kills, deep)) (hnd : nodupB (id :: kills) = true) (hput : putSeg row cc cs = some row')
    (h : K .any (upd (kill hp kills) id (some { k with rows := k.rows.set r row', deep := k.deep && deep })) .E)
    (hrun : ∀ w1, (storeVar t ⟨bb, off, none⟩ (a.eval x)).run P w = .ok () w1 → (execOp a.eval o).run P w = .ok .skip w1) :
    ∃ hp', K .any hp' .E ∧ StepsTo P w0 U A B E G hp w o a .any hp' ∧ WfOut B b .any hp' := by
  obtain ⟨hok, hcl, hnorefs⟩ := closed_all hclose
  have hcells := flat_cells (c.rel x) hok
  have hones := VL.ones hok hcells
  obtain ⟨hrel, hkills⟩ := closeCells_rel c.inv hclose hcells
  have hsz : (a.eval x).cells.size = d.size := by have := hcells.length; simp at this; omega
  have hlv : liveB k = true := by simp [liveB, hkind]
  have hidk : id ∉ kills := nodupB_cons hnd
  -- the blocks that are used up are let go
  obtain ⟨i1, e1⟩ := c.inv.dropL (B := B) kills
  have hk1 : kill hp kills id = some k := by rw [kill_other kills hp id hidk]; exact hk
  have hblk := c.inv.blk id k hk
  unfold BlkRel at hblk
  simp only [hkind] at hblk
  rcases hblk with ⟨q1, q2⟩ | ⟨b', cur, cap, q1, q2, q3, q4, q5, q6, q7, q8⟩
  · rw [q1] at hrow; simp at hrow
  rw [hm] at q1
  cases q1
  have hrl : r < k.rows.length := (List.getElem?_eq_some_iff.1 hrow).1
  have hrowl := q7 r row hrow
  obtain ⟨hp1, hp2, hp3⟩ := putSeg_some hput
  have hbig : r * k.size + k.size ≤ cur.size := by
    have := Nat.mul_le_mul_right k.size (show r + 1 ≤ cap by omega)
    rw [q4]; rwa [Nat.add_mul, Nat.one_mul] at this
  have hst := run_storeVar (P := P) (o := off) hd hsz q2 (by omega) hones
  have hnl : (cur.toList.take off ++ (a.eval x).cells.toList ++ cur.toList.drop (off + d.size)).toArray.size = cur.size := by simp; omega
  have hfr := Fr.setRow q2 hnl
  let S : Nat → Prop := fun y => (k.deep && deep) = true ∧ (E.N id y ∨ Held E hp kills y)
  let G' : Nat → Prop := fun y => G y ∨ ((k.deep && deep) = false ∧ (E.N id y ∨ Held E hp kills y))
  have hfree : ∀ y, Held E hp kills y → Free w0 U E (kill hp kills) G w y := fun y hy => c.inv.freedL hy
  have hNfacts : ∀ y, E.N id y → ¬ G y ∧ y ≠ bb := fun y hy => ⟨fun hg => c.inv.g2 y hg ⟨id, k, hk, hlv, .inr hy⟩, fun he => c.inv.self id k bb hk hlv hm (he ▸ hy)⟩
  have hHfacts : ∀ y, Held E hp kills y → ¬ G y ∧ y ≠ bb := by
    rintro y ⟨j, hj, kj, hkj, hlj, hoj⟩
    refine ⟨fun hg => c.inv.g2 y hg ⟨j, kj, hkj, hlj, hoj⟩, fun he => ?_⟩
    subst he
    have := c.inv.dis j kj id k hkj hlj hk hlv y hoj (.inl hm)
    exact hidk (this ▸ hj)
  have hboth : ∀ y, (E.N id y ∨ Held E hp kills y) → ¬ G y ∧ y ≠ bb := fun y hy => hy.elim (hNfacts y) (hHfacts y)
  have hE1 : ∀ y, (E.N id y ∨ Held E hp kills y) → E.N id y ∨ Free w0 U E (kill hp kills) G w y := fun y hy => hy.imp (fun h => h) (hfree y)
  have hrlen : ∀ (i : Nat) (rw' : List V), (k.rows.set r row')[i]? = some rw' → rw'.length = k.size := by
    intro i rw' hi
    rcases set_get hi with ⟨_, rfl⟩ | ⟨_, hi⟩
    · omega
    · exact q7 i rw' hi
  obtain ⟨g1, g2⟩ := i1.write (B := B) (k' := { k with rows := k.rows.set r row', deep := k.deep && deep }) (G' := G') hk1 hlv hm hfr rfl rfl (by simp) S (fun _ h => .inl h)
    (fun y hy => hy.imp (fun h => h) fun ⟨h1, h2⟩ => ⟨hE1 y h2, (fun hs : S y => absurd hs.1 (by rw [h1]; simp)), (hboth y h2).2⟩)
    (fun y hg hs => (hboth y hs.2).1 hg)
    (fun y hs => ⟨hE1 y hs.2, (hboth y hs.2).2⟩) (by
    unfold BlkRel
    simp only [hkind]
    refine .inr ⟨bb, _, cap, hm, setRow_heap w bb cur _ _ _ q2, q3, by rw [hnl]; exact q4, q5, by simpa using q6, hrlen, ?_⟩
    intro i j rw' p hi hj
    have hjs : j < k.size := by rw [← hrlen i rw' hi]; exact (List.getElem?_eq_some_iff.1 hj).1
    have hil : i < k.rows.length := by have := (List.getElem?_eq_some_iff.1 hi).1; simpa using this
    have hic : i * k.size + j < cur.size := by
      have := Nat.mul_le_mul_right k.size (show i + 1 ≤ cap by omega)
      rw [q4]; rw [Nat.add_mul, Nat.one_mul] at this; omega
    have hrp := row_put (cells := (a.eval x).cells.toList) (n := d.size) (by simpa using hsz) (by omega : cc + d.size ≤ k.size) hbig hjs hic
    rw [← hoff] at hrp
    have hsameO : ∀ (S' : Nat → Prop), (∀ y, S' y → y < w.heap.size ∧ y ≠ bb) → Same S' w (w.setRow bb (cur.toList.take off ++ (a.eval x).cells.toList ++ cur.toList.drop (off + d.size)).toArray) := fun S' hS' y hy => setRow_other w bb y _ (hS' y hy).2
    have hNlt : ∀ y, E.N id y → y < w.heap.size := fun y hy => (c.inv.o1 y ⟨id, k, hk, hlv, .inr hy⟩).1
    have hHlt : ∀ y, Held E hp kills y → y < w.heap.size := fun y hy => (hfree y hy).1
    have hGlt : ∀ y, G y → y < w.heap.size ∧ y ≠ bb := fun y hg => ⟨(c.inv.g1 y hg).1, fun he => c.inv.g2 y hg (he ▸ ⟨id, k, hk, hlv, .inl hm⟩)⟩
    have hfin : ∀ (S' : Nat → Prop) (p : V) (u : Value), Rep w S' p u → (∀ y, S' y → y < w.heap.size ∧ y ≠ bb) → (∀ y, S' y → (if (k.deep && deep) = true then S y else G' y)) →
        Rep (w.setRow bb (cur.toList.take off ++ (a.eval x).cells.toList ++ cur.toList.drop (off + d.size)).toArray) (if (k.deep && deep) = true then upd E.N id S id else G') p u := by
      intro S' p u hr h1 h2
      refine hr.same (hsameO S' h1) fun y hy => ?_
      have := h2 y hy
      by_cases hdd : (k.deep && deep) = true
      · rw [if_pos hdd] at this ⊢; simpa only [upd, if_true] using this
      · rw [if_neg hdd] at this ⊢; exact this
    rw [hrp]
    by_cases hcase : i = r ∧ cc ≤ j ∧ j < cc + d.size
    · rw [if_pos hcase]
      obtain ⟨rfl, hj1, hj2⟩ := hcase
      rcases set_get hi with ⟨_, rfl⟩ | ⟨hne, _⟩
      · have hpc : cs[j - cc]? = some p := by
          rw [hp2, List.getElem?_append, List.getElem?_append] at hj
          simp only [List.length_append, List.length_take] at hj
          rw [if_pos (by omega), if_neg (by omega)] at hj
          rw [show j - cc = j - min cc row.length by omega]
          exact hj
        obtain ⟨u, hu, hr⟩ := hrel.get _ _ hpc
        refine ⟨u, hu, hfin _ p u hr (fun y hy => ?_) (fun y hy => ?_)⟩
        · rcases hy with ⟨_, hg⟩ | hh
          · exact hGlt y hg
          · exact ⟨hHlt y hh, (hHfacts y hh).2⟩
        · by_cases hdd : (k.deep && deep) = true
          · rw [if_pos hdd]
            simp only [Bool.and_eq_true] at hdd
            rcases hy with ⟨hf, _⟩ | hh
            · rw [hdd.2] at hf; cases hf
            · exact ⟨by simp [hdd], .inr hh⟩
          · rw [if_neg hdd]
            rcases hy with ⟨_, hg⟩ | hh
            · exact .inl hg
            · exact .inr ⟨by simpa using hdd, .inr hh⟩
      · exact absurd rfl hne
    · rw [if_neg hcase]
      have hold : ∃ rw0, k.rows[i]? = some rw0 ∧ rw0[j]? = some p := by
        rcases set_get hi with ⟨rfl, rfl⟩ | ⟨_, hi'⟩
        · refine ⟨row, hrow, ?_⟩
          rw [hp2, List.getElem?_append, List.getElem?_append] at hj
          simp only [List.length_append, List.length_take] at hj
          by_cases h1 : j < cc
          · rw [if_pos (by omega), if_pos (by omega), List.getElem?_take, if_pos h1] at hj
            exact hj
          · rw [if_neg (by omega), List.getElem?_drop] at hj
            rw [← hj]; congr 1; omega
        · exact ⟨rw', hi', hj⟩
      obtain ⟨rw0, ho1, ho2⟩ := hold
      obtain ⟨u, hu, hr⟩ := q8 i j rw0 p ho1 ho2
      refine ⟨u, hu, ?_⟩
      cases hkd : k.deep with
      | true =>
        rw [hkd] at hr
        simp only [if_true] at hr
        have := hfin _ p u hr (fun y hy => ⟨hNlt y hy, (hNfacts y hy).2⟩) (fun y hy => by
          by_cases hdd : (k.deep && deep) = true
          · rw [if_pos hdd]; exact ⟨hdd, .inl hy⟩
          · rw [if_neg hdd]; exact .inr ⟨by simpa using hdd, .inl hy⟩)
        rw [hkd] at this; exact this
      | false =>
        rw [hkd] at hr
        simp only [Bool.false_eq_true, if_false] at hr
        have := hfin _ p u hr hGlt (fun y hy => by rw [if_neg (by simp [hkd])]; exact .inl hy)
        rw [hkd] at this; exact this)
  refine ⟨_, h, steps_skip (hrun _ hst) g1 (e1.trans g2 fun _ h => h), fun id hid => by simp [refs2, refs1, refs0] at hid, ?_⟩
  intro j kj hj
  by_cases hji : j = id
  · subst hji
    simp only [upd, if_true, Option.some.injEq] at hj
    subst hj
    exact ⟨.inl (c.wf j k hk).1, fun q hq => by simp [refsB, hkind] at hq⟩
  · simp only [upd, if_neg hji] at hj
    have hj' := (kill_some kills hp j kj hj).1
    exact ⟨.inl (c.wf j kj hj').1, fun q hq => .inl ((c.wf j kj hj').2 q hq)⟩

theorem store_sound {t : TypeId} {ad x : Operand} {b : Nat} {o : Oper} {a : Act} {K : Cont} (c : MCtx P w0 U A B E G hp w ρ a.eval b) (ho : o.op = .store t ad x) (h : weStore P t (ρ ad) (ρ x) hp K) :
    ∃ hp', K .any hp' .E ∧ StepsTo P w0 U A B E G hp w o a .any hp' ∧ WfOut B b .any hp' := by
  unfold weStore at h
  split at h
  · rename_i d id r cc hd hx
    split at h
    · rename_i k hk
      split at h
      · rename_i row hrow
        split at h
        · rename_i hlen
          have ha := c.rel ad
          rw [hx] at ha
          obtain ⟨bb, off, hy, hrel⟩ := ha
          obtain ⟨hm, hoff⟩ := hrel k hk
          have hblk := c.inv.blk id k hk
          have hrun : ∀ w1, (storeVar t ⟨bb, off, none⟩ (a.eval x)).run P w = .ok () w1 → (execOp a.eval o).run P w = .ok .skip w1 := by
            intro w1 h1
            simp only [execOp, ho, Instr.storeAt, hy, Instr.sureAddr, Sem.run_bind, Sem.run_pure, Result.andThen_ok, h1]
          split at h
          · rename_i hkind
            split at h
            · rename_i hok
              split at h
              · rename_i row' hput
                refine ⟨_, h, ?_⟩
                obtain ⟨hp1, hp2, hp3⟩ := putSeg_some hput
                have hcells := flat_cells (c.rel x) hok
                have hones := VL.ones hok hcells
                have hsz : (a.eval x).cells.size = d.size := by have := hcells.length; simp at this; omega
                unfold BlkRel at hblk
                simp only [hkind] at hblk
                obtain ⟨b', row0, cur, q1, q2, q3, q4, q5, q6⟩ := hblk
                rw [hm] at q1
                cases q1
                rw [q3] at hrow
                cases r with
                | succ r => simp at hrow
                | zero =>
                  simp at hrow
                  subst hrow
                  simp only [Nat.zero_mul, Nat.zero_add] at hoff
                  subst hoff
                  have hcl : cur.size = row0.length := by have := q6.length; simpa using this
                  have hlv : liveB k = true := by simp [liveB, hkind]
                  have hst := run_storeVar (P := P) (o := off) hd hsz q2 (by omega) hones
                  have hnl : (cur.toList.take off ++ (a.eval x).cells.toList ++ cur.toList.drop (off + d.size)).toArray.size = cur.size := by simp; omega
                  have hfr := Fr.setRow q2 hnl
                  have hsame : k.rows.set 0 row' = [row'] := by rw [q3]; rfl
                  obtain ⟨g1, g2⟩ := c.inv.write (B := B) (k' := { k with rows := k.rows.set 0 row' }) (G' := G) hk (by simp [liveB, hkind]) hm hfr rfl rfl (by simp) (E.N id) (fun _ h => h) (fun _ h => .inl h)
                    (fun y hg hs => c.inv.g2 y hg ⟨id, k, hk, by simp [liveB, hkind], .inr hs⟩)
                    (fun y hs => ⟨.inl hs, fun he => c.inv.self id k bb hk (by simp [liveB, hkind]) hm (he ▸ hs)⟩) (by
                    unfold BlkRel
                    simp only [hkind]
                    refine ⟨bb, row', _, hm, setRow_heap w bb cur _ _ _ q2, hsame, by rw [q4, hp3], q5, ?_⟩
                    have hold : VL (fun x y => VR0 w E hp G x y ∧ y.oneCell' = true) row' (cur.toList.take off ++ (a.eval x).cells.toList ++ cur.toList.drop (off + d.size)) := by
                      rw [hp2]
                      have hfl : (flat (ρ x)).length = d.size := hlen
                      rw [hfl]
                      refine ((q6.take off).append ?_).append (q6.drop _)
                      exact VL.of_get hcells.length fun j p q hp hq => by
                        obtain ⟨q', hq', hr⟩ := hcells.get j p hp
                        rw [hq] at hq'; cases hq'
                        exact ⟨hr, hones q (List.mem_of_getElem? hq)⟩
                    simp only [List.toList_toArray]
                    exact hold.mono fun p _ q hpq => ⟨VR0.write (k' := { kind := .box, ty := k.ty, size := k.size, deep := k.deep, rows := k.rows.set 0 row' }) c.inv hk hlv hm hfr hkind.symm rfl (by simp) (fun _ h => h) p q hpq.1, hpq.2⟩)
                  refine ⟨steps_skip (hrun _ hst) g1 g2, fun id hid => by simp [refs2, refs1, refs0] at hid, ?_⟩
                  intro j kj hj
                  by_cases hji : j = id
                  · subst hji
                    simp only [upd, if_true, Option.some.injEq] at hj
                    subst hj
                    refine ⟨.inl (c.wf j k hk).1, fun q hq => .inl ?_⟩
                    unfold refsB at hq
                    simp only [hkind, hsame] at hq
                    simp only [List.flatMap_cons, List.flatMap_nil, List.append_nil, List.mem_flatMap] at hq
                    obtain ⟨p, hp', hq⟩ := hq
                    rw [hp2] at hp'
                    rcases List.mem_append.1 hp' with hp' | hp'
                    · rcases List.mem_append.1 hp' with hp' | hp'
                      · exact (c.wf j k hk).2 q (mem_refsB hkind (by rw [q3]; simp) (List.mem_of_mem_take hp') hq)
                      · exact c.ids x q (refs_flat hp' hq hok)
                    · exact (c.wf j k hk).2 q (mem_refsB hkind (by rw [q3]; simp) (List.mem_of_mem_drop hp') hq)
                  · simp only [upd, if_neg hji] at hj
                    exact ⟨.inl (c.wf j kj hj).1, fun q hq => .inl ((c.wf j kj hj).2 q hq)⟩
              · exact h.elim
            · exact h.elim
          · rename_i hkind
            split at h
            · rename_i cs kills deep hclose
              split at h
              · rename_i hnd
                split at h
                · rename_i row' hput
                  exact store_arr c ho hd hx hk hrow hlen hy hm hoff hkind hclose hnd hput h hrun
                · exact h.elim
              · exact h.elim
            · exact h.elim
          · exact h.elim
        · exact h.elim
      · exact h.elim
    · exact h.elim
  · exact h.elim

end Go.Proofs.Ytcmihlhmeonmfaa.Ev
