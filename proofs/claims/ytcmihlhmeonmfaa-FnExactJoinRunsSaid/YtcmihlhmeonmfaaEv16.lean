/- A call: how the evaluator's blocks are handed over. -/
import Derived.Test.YtcmihlhmeonmfaaEv15
namespace Go.Proofs.Ytcmihlhmeonmfaa.Ev
open Go
set_option linter.unusedVariables false
set_option linter.unusedSimpArgs false

variable {P : Program} {w w' w0 : World} {E E' : Env} {hp hp' : Hp} {G G' U A W F S : Nat → Prop} {B : Nat → Prop} {ρ : Operand → V} {ρr : Operand → Value}

theorem close_spec (hp : Hp) : ∀ (n : Nat) (todo acc order : List Nat), close hp n todo acc = some order → acc.Nodup → (∀ id ∈ acc, ∃ k, hp id = some k) →
    order.Nodup ∧ (∀ id ∈ order, ∃ k, hp id = some k) ∧ (∀ id ∈ acc, id ∈ order) ∧ ∀ id ∈ todo, id ∈ order ∨ hp id = none
  | 0, _, _, _, h, _, _ => by simp [close] at h
  | n + 1, [], acc, order, h, hn, hs => by
    simp only [close, Option.some.injEq] at h
    subst h
    exact ⟨hn, hs, fun _ h => h, fun id hid => by simp at hid⟩
  | n + 1, i :: l, acc, order, h, hn, hs => by
    simp only [close] at h
    split at h
    · rename_i hc
      obtain ⟨h1, h2, h3, h4⟩ := close_spec hp n l acc order h hn hs
      refine ⟨h1, h2, h3, fun id hid => ?_⟩
      rcases List.mem_cons.1 hid with rfl | hid
      · exact .inl (h3 _ (by simpa using hc))
      · exact h4 id hid
    · rename_i hc
      split at h
      · rename_i hnone
        obtain ⟨h1, h2, h3, h4⟩ := close_spec hp n l acc order h hn hs
        refine ⟨h1, h2, h3, fun id hid => ?_⟩
        rcases List.mem_cons.1 hid with rfl | hid
        · exact .inr hnone
        · exact h4 id hid
      · rename_i k hk
        obtain ⟨h1, h2, h3, h4⟩ := close_spec hp n _ _ order h (by
          rw [List.nodup_append]
          refine ⟨hn, by simp, fun a ha b hb => ?_⟩
          simp at hb
          subst hb
          intro he
          subst he
          exact hc (by simpa using ha)) (by
          intro id hid
          rcases List.mem_append.1 hid with hid | hid
          · exact hs id hid
          · simp at hid; subst hid; exact ⟨k, hk⟩)
        refine ⟨h1, h2, fun id hid => h3 id (by simp [hid]), fun id hid => ?_⟩
        rcases List.mem_cons.1 hid with rfl | hid
        · exact .inl (h3 _ (by simp))
        · exact h4 id (by simp [hid])

theorem idx_some {order : List Nat} {id j : Nat} (h : idx order id = some j) : order[j]? = some id := by
  unfold idx at h
  rw [List.idxOf?_eq_some_iff] at h
  obtain ⟨hj, h1, _⟩ := h
  rw [List.getElem?_eq_getElem hj]
  simpa using h1

theorem idx_get {order : List Nat} (hn : order.Nodup) {id j : Nat} (h : order[j]? = some id) : idx order id = some j := by
  unfold idx
  rw [List.idxOf?_eq_some_iff]
  have hj := (List.getElem?_eq_some_iff.1 h).1
  have he := (List.getElem?_eq_some_iff.1 h).2
  refine ⟨hj, by simpa using he, fun i hi hh => ?_⟩
  have := (List.getElem_inj (h₀ := by omega) (h₁ := hj) hn).1 (hh.trans he.symm)
  omega

/-- The callee's blocks: those of an order. -/
def envOf (E : Env) (order : List Nat) : Env := ⟨fun j => (order[j]?).bind E.m, fun j x => ∃ id, order[j]? = some id ∧ E.N id x⟩

theorem blksOf_get {order : List Nat} {j : Nat} {k' : Blk} (h : lkB (blksOf hp order) j = some k') : ∃ id, order[j]? = some id ∧ k' = renB (idx order) ((hp id).getD default) := by
  unfold lkB blksOf at h
  rw [List.getElem?_map, Option.map_eq_some_iff] at h
  obtain ⟨id, h1, h2⟩ := h
  exact ⟨id, h1, h2.symm⟩

theorem renB_shape (f : Nat → Option Nat) (k : Blk) : (renB f k).kind = k.kind ∧ (renB f k).size = k.size ∧ (renB f k).ty = k.ty ∧ (renB f k).deep = k.deep ∧ (renB f k).rows.length = k.rows.length := by
  unfold renB
  split <;> simp

theorem renB_rows (f : Nat → Option Nat) (k : Blk) (h : k.kind ≠ .box) : (renB f k).rows = k.rows := by
  unfold renB
  split
  · rename_i hk; exact absurd hk h
  · rfl

theorem turn_in {order : List Nat} (hs : ∀ id ∈ order, ∃ k, hp id = some k) : Turn (idx order) E hp (envOf E order) (lkB (blksOf hp order)) := by
  refine ⟨fun id j hj k' hk' => ?_⟩
  have h1 := idx_some hj
  obtain ⟨id', h2, h3⟩ := blksOf_get hk'
  rw [h1] at h2
  cases h2
  obtain ⟨k, hk⟩ := hs id (List.mem_of_getElem? h1)
  obtain ⟨r1, r2, r3, r4, r5⟩ := renB_shape (idx order) k
  rw [hk, Option.getD_some] at h3
  subst h3
  exact ⟨k, hk, by rw [r1], r2, r5, by simp [envOf, h1]⟩

theorem own_in {order : List Nat} (hs : ∀ id ∈ order, ∃ k, hp id = some k) {b : Nat} (h : Own (envOf E order) (lkB (blksOf hp order)) b) : ∃ id ∈ order, ∃ k, hp id = some k ∧ liveB k = true ∧ OwnBy E id b := by
  obtain ⟨j, k', hk', hl, ho⟩ := h
  obtain ⟨id, h1, h2⟩ := blksOf_get hk'
  obtain ⟨k, hk⟩ := hs id (List.mem_of_getElem? h1)
  rw [hk, Option.getD_some] at h2
  subst h2
  refine ⟨id, List.mem_of_getElem? h1, k, hk, by unfold liveB at hl ⊢; rw [(renB_shape (idx order) k).1] at hl; exact hl, ?_⟩
  rcases ho with ho | ⟨id', h3, ho⟩
  · left; simpa [envOf, h1] using ho
  · rw [h1] at h3; cases h3; exact .inr ho

/-- A block, at another number. -/
theorem BlkRel.turn {f : Nat → Option Nat} {id j : Nat} {k : Blk} (hm : E'.m j = E.m id) (hN : ∀ x, E.N id x → E'.N j x) (hG : (k.kind = .frz ∨ (k.kind = .arr ∧ k.deep = false)) → ∀ b, G b → G' b)
    (hv : k.kind = .box → ∀ row ∈ k.rows, ∀ x ∈ row, ∀ y, VR0 w E hp G x y → VR0 w E' hp' G' (ren0 f x) y) (h : BlkRel w E hp G id k) : BlkRel w E' hp' G' j (renB f k) := by
  obtain ⟨r1, r2, r3, r4, r5⟩ := renB_shape f k
  unfold BlkRel at h ⊢
  rw [r1]
  cases hk : k.kind with
  | box =>
    simp only [hk] at h ⊢
    obtain ⟨b, row, cur, h1, h2, h3, h4, h5, h6⟩ := h
    have hrows : (renB f k).rows = [row.map (ren0 f)] := by unfold renB; rw [hk]; simp [h3]
    refine ⟨b, row.map (ren0 f), cur, by rw [hm]; exact h1, by rw [r3]; exact h2, hrows, by rw [r2, h4]; simp, by rw [r2]; exact h5, ?_⟩
    exact h6.map fun x hx y hxy => ⟨hv hk row (by rw [h3]; simp) x hx y hxy.1, hxy.2⟩
  | arr =>
    have hrows := renB_rows f k (by simp [hk])
    simp only [hk] at h ⊢
    rw [hrows, r2, r3, r4]
    rcases h with ⟨h1, h2⟩ | ⟨b, cur, cap, h1, h2, h3, h4, h5, h6, h7, h8⟩
    · exact .inl ⟨h1, by rw [hm]; exact h2⟩
    · refine .inr ⟨b, cur, cap, by rw [hm]; exact h1, h2, h3, h4, h5, h6, h7, fun i q row x hi hq => ?_⟩
      obtain ⟨u, hu, hr⟩ := h8 i q row x hi hq
      refine ⟨u, hu, ?_⟩
      cases hd : k.deep with
      | true => simp only [hd, if_true] at hr ⊢; exact hr.mono hN
      | false => simp only [hd, Bool.false_eq_true, if_false] at hr ⊢; exact hr.mono (hG (.inr ⟨hk, hd⟩))
  | frz =>
    have hrows := renB_rows f k (by simp [hk])
    simp only [hk] at h ⊢
    rw [hrows, r2, r3]
    rcases h with ⟨h1, h2⟩ | ⟨b, cur, cap, fz, h1, h1', h2, h3, h4, h5, h6, h7, h8⟩
    · exact .inl ⟨h1, by rw [hm]; exact h2⟩
    · refine .inr ⟨b, cur, cap, fz, by rw [hm]; exact h1, hG (.inl hk) b h1', h2, h3, h4, h5, h6, h7, fun i q row x hi hq => ?_⟩
      obtain ⟨u, hu, hr⟩ := h8 i q row x hi hq
      exact ⟨u, hu, hr.mono (hG (.inl hk))⟩

/-- The blocks as the callee holds them. -/
theorem call_in (hI : HpInv w0 U A E G hp w) {order lent : List Nat} (hn : order.Nodup) (hs : ∀ id ∈ order, ∃ k, hp id = some k) (hdis : ∀ id ∈ order, id ∉ lent) :
    HpInv w (Own (envOf E order) (lkB (blksOf hp order))) (fun b => G b ∨ Held E hp lent b) (envOf E order) (fun b => G b ∨ Held E hp lent b) (lkB (blksOf hp order)) w := by
  refine ⟨Fr.refl _ w, ?_, ?_, ?_, ?_, ?_, ?_⟩
  · intro b hb
    refine ⟨?_, .inl hb⟩
    rcases hb with hb | ⟨id, _, k, hk, hl, ho⟩
    · exact (hI.g1 b hb).1
    · exact (hI.o1 b ⟨id, k, hk, hl, ho⟩).1
  · intro b hb ho
    obtain ⟨id, hid, k, hk, hl, ho⟩ := own_in hs ho
    rcases hb with hb | ⟨id', hid', k', hk', hl', ho'⟩
    · exact hI.g2 b hb ⟨id, k, hk, hl, ho⟩
    · have := hI.dis id k id' k' hk hl hk' hl' b ho ho'
      exact hdis id hid (this ▸ hid')
  · intro b ho
    obtain ⟨id, hid, k, hk, hl, ho'⟩ := own_in hs ho
    exact ⟨(hI.o1 b ⟨id, k, hk, hl, ho'⟩).1, .inl ho⟩
  · intro j k' j' k'' hj hl hj' hl' b ho ho'
    obtain ⟨id, h1, h2⟩ := blksOf_get hj
    obtain ⟨id', h1', h2'⟩ := blksOf_get hj'
    obtain ⟨k, hk⟩ := hs id (List.mem_of_getElem? h1)
    obtain ⟨k1, hk1⟩ := hs id' (List.mem_of_getElem? h1')
    rw [hk, Option.getD_some] at h2
    rw [hk1, Option.getD_some] at h2'
    subst h2
    subst h2'
    have hl1 : liveB k = true := by unfold liveB at hl ⊢; rw [(renB_shape (idx order) k).1] at hl; exact hl
    have hl2 : liveB k1 = true := by unfold liveB at hl' ⊢; rw [(renB_shape (idx order) k1).1] at hl'; exact hl'
    have e1 : OwnBy E id b := by
      rcases ho with ho | ⟨i, h3, ho⟩
      · left; simpa [envOf, h1] using ho
      · rw [h1] at h3; cases h3; exact .inr ho
    have e2 : OwnBy E id' b := by
      rcases ho' with ho | ⟨i, h3, ho⟩
      · left; simpa [envOf, h1'] using ho
      · rw [h1'] at h3; cases h3; exact .inr ho
    have := hI.dis id k id' k1 hk hl1 hk1 hl2 b e1 e2
    subst this
    have q1 := idx_get hn h1
    have q2 := idx_get hn h1'
    rw [q1] at q2
    exact Option.some.inj q2
  · intro j k' b hj hl hm hN
    obtain ⟨id, h1, h2⟩ := blksOf_get hj
    obtain ⟨k, hk⟩ := hs id (List.mem_of_getElem? h1)
    rw [hk, Option.getD_some] at h2
    subst h2
    have hl1 : liveB k = true := by unfold liveB at hl ⊢; rw [(renB_shape (idx order) k).1] at hl; exact hl
    obtain ⟨i, h3, hN⟩ := hN
    rw [h1] at h3
    cases h3
    exact hI.self id k b hk hl1 (by simpa [envOf, h1] using hm) hN
  · intro j k' hj
    obtain ⟨id, h1, h2⟩ := blksOf_get hj
    obtain ⟨k, hk⟩ := hs id (List.mem_of_getElem? h1)
    rw [hk, Option.getD_some] at h2
    subst h2
    exact (hI.blk id k hk).turn (by simp [envOf, h1]) (fun x hx => ⟨id, h1, hx⟩) (fun _ b hb => .inl hb) (fun _ row _ x _ y hv => (turn_in hs).vr0 (fun b hb => .inl hb) hv)

end Go.Proofs.Ytcmihlhmeonmfaa.Ev
