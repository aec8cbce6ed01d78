/- A block of ours that is written, or is only read from now on. -/
import Derived.Test.YtcmihlhmeonmfaaEv7
import Derived.Laws.CopyRow
namespace Go.Proofs.Ytcmihlhmeonmfaa.Ev
open Go
set_option linter.unusedVariables false
set_option linter.unusedSimpArgs false

variable {P : Program} {w w' w0 : World} {E E' : Env} {hp hp' : Hp} {G G' U A W : Nat → Prop} {B : Nat → Prop} {ρ : Operand → V} {ρr : Operand → Value}

theorem Fr.setRow {g : Nat} {cur new : Array Value} {ty : TypeId} {fz : Nat × Nat} (h : w.heap[g]? = some (.cells cur ty fz)) (hs : new.size = cur.size) : Fr (fun b => b = g) w (w.setRow g new) :=
  .mk' rfl rfl rfl (by simp [World.setRow]) (fun b _ hb => setRow_other w g b new hb) (fun b c t f hb hc => by
    subst hb
    rw [h] at hc
    cases hc
    exact ⟨new, fz, setRow_heap w b cur new ty fz h, hs⟩)

/-- A value stands where one block of ours is written and its shape stays. -/
theorem VR0.write (h : HpInv w0 U A E G hp w) {id : Nat} {k k' : Blk} {b : Nat} {N' : Nat → Nat → Prop} (hk : hp id = some k) (hl : liveB k = true) (hm : E.m id = some b) (hf : Fr (fun x => x = b) w w')
    (hkind : k'.kind = k.kind) (hsize : k'.size = k.size) (hlen : k'.rows.length = k.rows.length) (hGG : ∀ x, G x → G' x) (x : V) (y : Value) (hv : VR0 w E hp G x y) : VR0 w' ⟨E.m, N'⟩ (upd hp id (some k')) G' x y := by
  have hob : Own E hp b := ⟨id, k, hk, hl, .inl hm⟩
  have hGb : ∀ x, G x → x < w.heap.size ∧ ¬ x = b := fun x hx => ⟨(h.g1 x hx).1, fun he => h.g2 x hx (he ▸ hob)⟩
  have hsub : ∀ j kj, upd hp id (some k') j = some kj → ∃ kj', hp j = some kj' ∧ kj.kind = kj'.kind ∧ kj.size = kj'.size ∧ kj.rows.length = kj'.rows.length := by
    intro j kj hj
    by_cases hji : j = id
    · subst hji
      simp only [upd, if_true, Option.some.injEq] at hj
      subst hj
      exact ⟨k, hk, hkind, hsize, hlen⟩
    · simp only [upd, if_neg hji] at hj
      exact ⟨kj, hj, rfl, rfl, rfl⟩
  cases x with
  | ar j lo n =>
    obtain ⟨a, cap, hy, hr⟩ := hv
    refine ⟨a, cap, hy, fun kj hj => ?_⟩
    obtain ⟨kj', h1, h2, h3, h4⟩ := hsub j kj hj
    obtain ⟨r1, r2, r3⟩ := hr kj' h1
    refine ⟨by rw [h2]; exact r1, by rw [h4]; exact r2, r3.imp (fun h => h) ?_⟩
    rintro ⟨b', cur, ty, fz, q1, q2, q3, q4, q5⟩
    obtain ⟨cur', fz', q6, q7⟩ := hf.shape b' cur ty fz q4
    exact ⟨b', cur', ty, fz', q1, by rw [h3]; exact q2, q3, q6, by rw [h3, q7]; exact q5⟩
  | rf j r c =>
    obtain ⟨b', o, hy, hr⟩ := hv
    refine ⟨b', o, hy, fun kj hj => ?_⟩
    obtain ⟨kj', h1, h2, h3, h4⟩ := hsub j kj hj
    obtain ⟨r2, r3⟩ := hr kj' h1
    exact ⟨r2, by rw [h3]; exact r3⟩
  | ir row c =>
    obtain ⟨b', off, f, hg, hy, hc⟩ := hv
    refine ⟨b', off, f, hGG b' hg, hy, fun j x hx => ?_⟩
    obtain ⟨h1, h2⟩ := hc j x hx
    exact ⟨by rw [cell_same (hf.block b' (hGb b' hg).1 (hGb b' hg).2)]; exact h1, h2.same (hf.same hGb) hGG⟩
  | v a => exact Rep.same hv (hf.same hGb) hGG
  | em => exact Rep.same hv (hf.same hGb) hGG
  | im rows => exact Rep.same hv (hf.same hGb) hGG
  | any => exact trivial
  | agg cs => exact hv.elim
  | tup vs => exact hv.elim
  | cl f caps => cases caps <;> exact hv

/-- One block of ours is written; its shape stays. -/
theorem HpInv.write (h : HpInv w0 U A E G hp w) {id : Nat} {k k' : Blk} {b : Nat} (hk : hp id = some k) (hl : liveB k = true) (hm : E.m id = some b) (hf : Fr (fun x => x = b) w w')
    (hkind : k'.kind = k.kind) (hsize : k'.size = k.size) (hlen : k'.rows.length = k.rows.length) (S : Nat → Prop)
    (hGG : ∀ x, G x → G' x) (hG' : ∀ x, G' x → G x ∨ ((E.N id x ∨ Free w0 U E hp G w x) ∧ ¬ S x ∧ x ≠ b)) (hGS : ∀ x, G x → ¬ S x)
    (hS : ∀ x, S x → (E.N id x ∨ Free w0 U E hp G w x) ∧ x ≠ b)
    (hb : BlkRel w' ⟨E.m, upd E.N id S⟩ (upd hp id (some k')) G' id k') :
    HpInv w0 U A ⟨E.m, upd E.N id S⟩ G' (upd hp id (some k')) w' ∧ Ext B E G hp w ⟨E.m, upd E.N id S⟩ G' (upd hp id (some k')) w' := by
  have hl' : liveB k' = true := by unfold liveB at hl ⊢; rw [hkind]; exact hl
  have hob : Own E hp b := ⟨id, k, hk, hl, .inl hm⟩
  have hGb : ∀ x, G x → x < w.heap.size ∧ ¬ x = b := fun x hx => ⟨(h.g1 x hx).1, fun he => h.g2 x hx (he ▸ hob)⟩
  have hv : ∀ x y, VR0 w E hp G x y → VR0 w' ⟨E.m, upd E.N id S⟩ (upd hp id (some k')) G' x y := VR0.write h hk hl hm hf hkind hsize hlen hGG
  have hob' : ∀ j x, OwnBy ⟨E.m, upd E.N id S⟩ j x → (j ≠ id ∧ OwnBy E j x) ∨ (j = id ∧ (x = b ∨ S x)) := by
    intro j x ho
    by_cases hji : j = id
    · subst hji
      right
      refine ⟨rfl, ?_⟩
      rcases ho with ho | ho
      · left
        have : E.m j = some x := ho
        rw [hm] at this
        exact (Option.some.inj this).symm
      · right; simpa only [upd, if_true] using ho
    · left
      refine ⟨hji, ?_⟩
      rcases ho with ho | ho
      · exact .inl ho
      · right; simpa only [upd, if_neg hji] using ho
  have hNb : ∀ x, E.N id x → x < w.heap.size ∧ (U x ∨ w0.heap.size ≤ x) := fun x hx => h.o1 x ⟨id, k, hk, hl, .inr hx⟩
  have hother : ∀ j kj, upd hp id (some k') j = some kj → j ≠ id → hp j = some kj := by
    intro j kj hj hji
    simpa only [upd, if_neg hji] using hj
  refine ⟨⟨h.fr.then hf (fun x hx => by subst hx; exact (h.o1 _ hob).2), ?_, ?_, ?_, ?_, ?_, ?_⟩, ⟨fun x y _ hx => hv x y hx⟩⟩
  · intro x hx
    rcases hG' x hx with hg | ⟨hn | hn, _⟩
    · have := h.g1 x hg; exact ⟨Nat.lt_of_lt_of_le this.1 hf.size, this.2⟩
    · exact ⟨Nat.lt_of_lt_of_le (hNb x hn).1 hf.size, .inr (hNb x hn).2⟩
    · exact ⟨Nat.lt_of_lt_of_le hn.1 hf.size, .inr hn.2.2.2⟩
  · rintro x hx ⟨j, kj, hj, hlj, ho⟩
    rcases hob' j x ho with ⟨hji, ho⟩ | ⟨hji, ho⟩
    · have hjx := hother j kj hj hji
      rcases hG' x hx with hg | ⟨hn | hn, _⟩
      · exact h.g2 x hg ⟨j, kj, hjx, hlj, ho⟩
      · exact hji (h.dis j kj id k hjx hlj hk hl x ho (.inr hn))
      · exact hn.2.2.1 ⟨j, kj, hjx, hlj, ho⟩
    · rcases hG' x hx with hg | ⟨_, hns, hnb⟩
      · rcases ho with ho | ho
        · exact (hGb x hg).2 ho
        · exact hGS x hg ho
      · exact ho.elim hnb hns
  · rintro x ⟨j, kj, hj, hlj, ho⟩
    rcases hob' j x ho with ⟨hji, ho⟩ | ⟨hji, ho⟩
    · have := h.o1 x ⟨j, kj, hother j kj hj hji, hlj, ho⟩
      exact ⟨Nat.lt_of_lt_of_le this.1 hf.size, this.2⟩
    · rcases ho with ho | ho
      · subst ho; have := h.o1 _ hob; exact ⟨Nat.lt_of_lt_of_le this.1 hf.size, this.2⟩
      · rcases (hS x ho).1 with hn | hn
        · exact ⟨Nat.lt_of_lt_of_le (hNb x hn).1 hf.size, (hNb x hn).2⟩
        · exact ⟨Nat.lt_of_lt_of_le hn.1 hf.size, hn.2.2.2⟩
  · have hone : ∀ j kj x, hp j = some kj → liveB kj = true → j ≠ id → OwnBy E j x → ¬ (x = b ∨ S x) := by
      intro j kj x hj hlj hji ho hx
      rcases hx with hx | hx
      · subst hx; exact hji (h.dis j kj id k hj hlj hk hl _ ho (.inl hm))
      · rcases (hS x hx).1 with hn | hn
        · exact hji (h.dis j kj id k hj hlj hk hl x ho (.inr hn))
        · exact hn.2.2.1 ⟨j, kj, hj, hlj, ho⟩
    intro j kj j' kj' hj hlj hj' hlj' x ho ho'
    rcases hob' j x ho with ⟨hji, ho⟩ | ⟨hji, ho⟩
    · rcases hob' j' x ho' with ⟨hji', ho'⟩ | ⟨hji', ho'⟩
      · exact h.dis j kj j' kj' (hother j kj hj hji) hlj (hother j' kj' hj' hji') hlj' x ho ho'
      · exact absurd ho' (hone j kj x (hother j kj hj hji) hlj hji ho)
    · rcases hob' j' x ho' with ⟨hji', ho'⟩ | ⟨hji', ho'⟩
      · exact absurd ho (hone j' kj' x (hother j' kj' hj' hji') hlj' hji' ho')
      · rw [hji, hji']
  · intro j kj x hj hlj hmj hnj
    by_cases hji : j = id
    · subst hji
      simp only [upd, if_true] at hnj
      have : E.m j = some x := hmj
      rw [hm] at this
      exact (hS x hnj).2 (Option.some.inj this).symm
    · simp only [upd, if_neg hji] at hnj
      exact h.self j kj x (hother j kj hj hji) hlj hmj hnj
  · intro j kj hj
    by_cases hji : j = id
    · subst hji
      simp only [upd, if_true, Option.some.injEq] at hj
      subst hj
      exact hb
    · have hjx := hother j kj hj hji
      have hbj := h.blk j kj hjx
      have hmb : ∀ x, E.m j = some x → x ≠ b := by
        intro x hx he
        subst he
        cases hlk : kj.kind with
        | frz =>
          unfold BlkRel at hbj
          simp only [hlk] at hbj
          rcases hbj with ⟨_, h2⟩ | ⟨b', _, _, _, h1, h1', _⟩
          · rw [hx] at h2; cases h2
          · rw [hx] at h1; cases h1; exact (hGb _ h1').2 rfl
        | _ => exact hji (h.dis j kj id k hjx (by simp [liveB, hlk]) hk hl x (.inl hx) (.inl hm))
      unfold BlkRel at hbj ⊢
      cases hlk : kj.kind with
      | box =>
        simp only [hlk] at hbj ⊢
        obtain ⟨b', row, cur, h1, h2, h3, h4, h5, h6⟩ := hbj
        exact ⟨b', row, cur, h1, hf.at (hmb b' h1) h2, h3, h4, h5, h6.mono fun x _ y hxy => ⟨hv x y hxy.1, hxy.2⟩⟩
      | arr =>
        simp only [hlk] at hbj ⊢
        rcases hbj with ⟨h1, h2⟩ | ⟨b', cur, cap, h1, h2, h3, h4, h5, h6, h7, h8⟩
        · exact .inl ⟨h1, h2⟩
        · refine .inr ⟨b', cur, cap, h1, hf.at (hmb b' h1) h2, h3, h4, h5, h6, h7, fun i q row x hi hq => ?_⟩
          obtain ⟨u, hu, hr⟩ := h8 i q row x hi hq
          refine ⟨u, hu, ?_⟩
          cases hd : kj.deep with
          | true =>
            simp only [hd, if_true, upd, if_neg hji] at hr ⊢
            exact hr.same (hf.same fun x hx => ⟨(h.o1 x ⟨j, kj, hjx, by simp [liveB, hlk], .inr hx⟩).1, fun he => by
              subst he
              exact hji (h.dis j kj id k hjx (by simp [liveB, hlk]) hk hl _ (.inr hx) (.inl hm))⟩) (fun _ h => h)
          | false =>
            simp only [hd, Bool.false_eq_true, if_false] at hr ⊢
            exact hr.same (hf.same hGb) hGG
      | frz =>
        simp only [hlk] at hbj ⊢
        rcases hbj with ⟨h1, h2⟩ | ⟨b', cur, cap, fz, h1, h1', h2, h3, h4, h5, h6, h7, h8⟩
        · exact .inl ⟨h1, h2⟩
        · refine .inr ⟨b', cur, cap, fz, h1, hGG b' h1', hf.at (hmb b' h1) h2, h3, h4, h5, h6, h7, fun i q row x hi hq => ?_⟩
          obtain ⟨u, hu, hr⟩ := h8 i q row x hi hq
          exact ⟨u, hu, hr.same (hf.same hGb) hGG⟩

end Go.Proofs.Ytcmihlhmeonmfaa.Ev
