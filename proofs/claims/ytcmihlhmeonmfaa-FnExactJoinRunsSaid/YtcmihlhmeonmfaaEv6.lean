/- How the evaluator's blocks stand in memory from one step to the next. -/
import Derived.Test.YtcmihlhmeonmfaaEv5
namespace Go.Proofs.Ytcmihlhmeonmfaa.Ev
open Go
set_option linter.unusedVariables false
set_option linter.unusedSimpArgs false

variable {P : Program} {w w' w0 : World} {E E' : Env} {hp hp' : Hp} {G G' U A W : Nat → Prop} {B : Nat → Prop}

abbrev Fr0 (w w' : World) : Prop := Fr (fun _ => False) w w'

theorem heap_lt {b : Nat} {o : Obj} (h : w.heap[b]? = some o) : b < w.heap.size := (Array.getElem?_eq_some_iff.1 h).1

theorem Fr.same {S : Nat → Prop} (h : Fr W w w') (hs : ∀ b, S b → b < w.heap.size ∧ ¬ W b) : Same S w w' := fun b hb => h.block b (hs b hb).1 (hs b hb).2

theorem Fr.at (h : Fr W w w') {b : Nat} {o : Obj} (hW : ¬ W b) (hb : w.heap[b]? = some o) : w'.heap[b]? = some o := by
  rw [h.block b (heap_lt hb) hW]; exact hb

theorem Fr0.alloc (w : World) (o : Obj) : Fr0 w (w.alloc o) :=
  .mk' rfl rfl rfl (by simp) (fun b hb _ => by simp only [World.alloc]; rw [Array.getElem?_push]; rw [if_neg (by omega)]) (fun b _ _ _ h _ => h.elim)

theorem Fr0.drew (w : World) : Fr0 w w.drew := .mk' rfl rfl rfl (Nat.le_refl _) (fun b hb _ => rfl) (fun b _ _ _ h _ => h.elim)

/-- A value stands where the blocks that bear it stand and the numbers mean the same. -/
theorem VR0.grow (hf : Fr W w w') (hG : ∀ b, G b → b < w.heap.size ∧ ¬ W b) (hGG : ∀ b, G b → G' b) : ∀ {x : V} {y : Value}, VR0 w E hp G x y → (∀ id ∈ refs0 x, hp' id = hp id ∧ E'.m id = E.m id) → VR0 w' E' hp' G' x y
  | .any, _, _, _ => trivial
  | .cl f [], y, h, _ => h
  | .cl _ (_ :: _), _, h, _ => h.elim
  | .agg _, _, h, _ => h.elim
  | .tup _, _, h, _ => h.elim
  | .v x, y, h, _ => Rep.same h (hf.same hG) hGG
  | .em, y, h, _ => Rep.same h (hf.same hG) hGG
  | .im rows, y, h, _ => Rep.same h (hf.same hG) hGG
  | .ar id lo n, y, h, ha => by
    obtain ⟨h1, h2⟩ := ha id (by simp [refs0])
    obtain ⟨a, cap, hy, hk⟩ := h
    refine ⟨a, cap, hy, fun k hkk => ?_⟩
    rw [h1] at hkk
    obtain ⟨k1, k2, k3⟩ := hk k hkk
    refine ⟨k1, k2, k3.imp (fun h => h) ?_⟩
    rintro ⟨b, cur, ty, fz, hm, hab, hn, hb, hs⟩
    obtain ⟨cur', fz', hb', hs'⟩ := hf.shape b cur ty fz hb
    exact ⟨b, cur', ty, fz', by rw [h2]; exact hm, hab, hn, hb', by rw [hs']; exact hs⟩
  | .rf id r c, y, h, ha => by
    obtain ⟨h1, h2⟩ := ha id (by simp [refs0])
    obtain ⟨b, o, hy, hk⟩ := h
    refine ⟨b, o, hy, fun k hkk => ?_⟩
    rw [h1] at hkk
    obtain ⟨k2, k3⟩ := hk k hkk
    exact ⟨by rw [h2]; exact k2, k3⟩
  | .ir row c, y, h, _ => by
    obtain ⟨b, off, f, hg, hy, hc⟩ := h
    refine ⟨b, off, f, hGG b hg, hy, fun j x hx => ?_⟩
    obtain ⟨h1, h2⟩ := hc j x hx
    exact ⟨by rw [cell_same (hf.block b (hG b hg).1 (hG b hg).2)]; exact h1, h2.same (hf.same hG) hGG⟩

theorem mem_refsB {k : Blk} {row : List V} {x : V} {i : Nat} (hb : k.kind = .box) (hr : row ∈ k.rows) (hx : x ∈ row) (hi : i ∈ refs0 x) : i ∈ refsB k := by
  unfold refsB
  rw [hb]
  exact List.mem_flatMap.2 ⟨row, hr, List.mem_flatMap.2 ⟨x, hx, hi⟩⟩

theorem BlkRel.grow {id : Nat} {k : Blk} (hf : Fr W w w') (hG : ∀ b, G b → b < w.heap.size ∧ ¬ W b) (hN : ∀ b, E.N id b → (b < w.heap.size ∧ ¬ W b) ∨ k.kind = .frz ∨ k.deep = false) (hM : ∀ b, E.m id = some b → ¬ W b) (hGG : ∀ b, G b → G' b)
    (hm : E'.m id = E.m id) (hn : ∀ b, E.N id b → E'.N id b) (ha : ∀ j ∈ refsB k, hp' j = hp j ∧ E'.m j = E.m j) (h : BlkRel w E hp G id k) : BlkRel w' E' hp' G' id k := by
  unfold BlkRel at h ⊢
  cases hk : k.kind with
  | box =>
    simp only [hk] at h ⊢
    obtain ⟨b, row, cur, h1, h2, h3, h4, h5, h6⟩ := h
    refine ⟨b, row, cur, by rw [hm]; exact h1, hf.at (hM b h1) h2, h3, h4, h5, h6.mono fun x hx y hxy => ⟨hxy.1.grow hf hG hGG fun j hj => ha j (mem_refsB hk (by rw [h3]; simp) hx hj), hxy.2⟩⟩
  | arr =>
    simp only [hk] at h ⊢
    rcases h with ⟨h1, h2⟩ | ⟨b, cur, cap, h1, h2, h3, h4, h5, h6, h7, h8⟩
    · exact .inl ⟨h1, by rw [hm]; exact h2⟩
    · refine .inr ⟨b, cur, cap, by rw [hm]; exact h1, hf.at (hM b h1) h2, h3, h4, h5, h6, h7, fun i j row x hi hj => ?_⟩
      obtain ⟨u, hu, hr⟩ := h8 i j row x hi hj
      refine ⟨u, hu, ?_⟩
      cases hd : k.deep with
      | true =>
        simp only [hd, if_true] at hr ⊢
        exact hr.same (hf.same fun b hb => (hN b hb).elim (fun h => h) (fun h => by simp [hk, hd] at h)) hn
      | false =>
        simp only [hd, Bool.false_eq_true, if_false] at hr ⊢
        exact hr.same (hf.same hG) hGG
  | frz =>
    simp only [hk] at h ⊢
    rcases h with ⟨h1, h2⟩ | ⟨b, cur, cap, fz, h1, h1', h2, h3, h4, h5, h6, h7, h8⟩
    · exact .inl ⟨h1, by rw [hm]; exact h2⟩
    · refine .inr ⟨b, cur, cap, fz, by rw [hm]; exact h1, hGG b h1', hf.at (hM b h1) h2, h3, h4, h5, h6, h7, fun i j row x hi hj => ?_⟩
      obtain ⟨u, hu, hr⟩ := h8 i j row x hi hj
      exact ⟨u, hu, hr.same (hf.same hG) hGG⟩

/-- Blocks that nobody holds: written at will. -/
def Loose (E : Env) (hp : Hp) (G W : Nat → Prop) : Prop := ∀ b, W b → ¬ G b ∧ ¬ Own E hp b

theorem Loose.none : Loose E hp G (fun _ => False) := fun _ h => h.elim

theorem HpInv.G_lt (h : HpInv w0 U A E G hp w) (hW : Loose E hp G W) : ∀ b, G b → b < w.heap.size ∧ ¬ W b := fun b hb => ⟨(h.g1 b hb).1, fun hw => (hW b hw).1 hb⟩

theorem HpInv.N_lt (h : HpInv w0 U A E G hp w) (hW : Loose E hp G W) {id : Nat} {k : Blk} (hk : hp id = some k) : ∀ b, E.N id b → (b < w.heap.size ∧ ¬ W b) ∨ k.kind = .frz ∨ k.deep = false := by
  intro b hb
  cases hl : k.kind with
  | frz => exact .inr (.inl rfl)
  | _ =>
    have ho : Own E hp b := ⟨id, k, hk, by simp [liveB, hl], .inr hb⟩
    exact .inl ⟨(h.o1 b ho).1, fun hw => (hW b hw).2 ho⟩

theorem HpInv.M_nW (h : HpInv w0 U A E G hp w) (hW : Loose E hp G W) {id : Nat} {k : Blk} (hk : hp id = some k) : ∀ b, E.m id = some b → ¬ W b := by
  intro b hb hw
  cases hl : k.kind with
  | frz =>
    have := h.blk id k hk
    unfold BlkRel at this
    simp only [hl] at this
    rcases this with ⟨_, h2⟩ | ⟨b', _, _, _, h1, h1', _⟩
    · rw [hb] at h2; cases h2
    · rw [hb] at h1; cases h1; exact (hW b hw).1 h1'
  | _ => exact (hW b hw).2 ⟨id, k, hk, by simp [liveB, hl], .inl hb⟩

/-- A block that was not there. -/
theorem HpInv.fresh (hw : HpWf B hp) {i : Nat} (hi : ¬ B i) : hp i = none := by
  cases h : hp i with
  | none => rfl
  | some k => exact absurd (hw i k h).1 hi

/-- What may be taken: a block in memory that nobody holds. -/
def Free (w0 : World) (U : Nat → Prop) (E : Env) (hp : Hp) (G : Nat → Prop) (w : World) (b : Nat) : Prop := b < w.heap.size ∧ ¬ G b ∧ ¬ Own E hp b ∧ (U b ∨ w0.heap.size ≤ b)

theorem HpInv.new_free (h : HpInv w0 U A E G hp w) (hf : Fr W w w') {b : Nat} (h1 : w.heap.size ≤ b) (h2 : b < w'.heap.size) : Free w0 U E hp G w' b :=
  ⟨h2, fun hg => by have := (h.g1 b hg).1; omega, fun ho => by have := (h.o1 b ho).1; omega, .inr (Nat.le_trans h.fr.size h1)⟩

/-- Loose blocks are written, the world grows, free blocks become good. -/
theorem HpInv.grow (h : HpInv w0 U A E G hp w) (hf : Fr W w w') (hW : Loose E hp G W) (hWU : ∀ b, W b → U b ∨ w0.heap.size ≤ b) (hGG : ∀ b, G b → G' b) (hG' : ∀ b, G' b → G b ∨ Free w0 U E hp G w' b) :
    HpInv w0 U A E G' hp w' ∧ Ext B E G hp w E G' hp w' := by
  refine ⟨⟨h.fr.then hf hWU, ?_, ?_, ?_, h.dis, h.self, ?_⟩, ⟨fun x y _ hv => hv.grow hf (h.G_lt hW) hGG fun _ _ => ⟨rfl, rfl⟩⟩⟩
  · intro b hb
    rcases hG' b hb with hg | hg
    · have := h.g1 b hg; exact ⟨Nat.lt_of_lt_of_le this.1 hf.size, this.2⟩
    · exact ⟨hg.1, .inr hg.2.2.2⟩
  · intro b hb ho
    rcases hG' b hb with hg | hg
    · exact h.g2 b hg ho
    · exact hg.2.2.1 ho
  · intro b hb
    have := h.o1 b hb
    exact ⟨Nat.lt_of_lt_of_le this.1 hf.size, this.2⟩
  · intro id k hk
    exact (h.blk id k hk).grow hf (h.G_lt hW) (h.N_lt hW hk) (h.M_nW hW hk) hGG rfl (fun _ h => h) fun _ _ => ⟨rfl, rfl⟩

theorem ownBy_ne {i j b : Nat} {mb : Option Nat} {S : Nat → Prop} (h : OwnBy ⟨upd E.m i mb, upd E.N i S⟩ j b) (hji : j ≠ i) : OwnBy E j b := by
  rcases h with q | q
  · left; simpa only [upd, if_neg hji] using q
  · right; simpa only [upd, if_neg hji] using q

theorem ownBy_eq {i b : Nat} {mb : Option Nat} {S : Nat → Prop} (h : OwnBy ⟨upd E.m i mb, upd E.N i S⟩ i b) : mb = some b ∨ S b := by
  rcases h with q | q
  · left; simpa only [upd, if_true] using q
  · right; simpa only [upd, if_true] using q

/-- A block of ours is laid where nobody holds anything: at a number that was not given, or at one that has been let go and at which nothing is known but what holds again. -/
theorem HpInv.put (h : HpInv w0 U A E G hp w) {i : Nat} (hi : hp i = none) (hf : Fr W w w') (hW : Loose E hp G W) (hWU : ∀ b, W b → U b ∨ w0.heap.size ≤ b) (k : Blk) (mb : Option Nat) (S : Nat → Prop)
    (hmb : ∀ b, mb = some b → liveB k = true → Free w0 U E hp G w' b ∧ ¬ S b) (hS : ∀ b, S b → liveB k = true → Free w0 U E hp G w' b)
    (hB : ∀ j kj, hp j = some kj → i ∉ refsB kj)
    (hb : BlkRel w' ⟨upd E.m i mb, upd E.N i S⟩ (upd hp i (some k)) G i k) :
    HpInv w0 U A ⟨upd E.m i mb, upd E.N i S⟩ G (upd hp i (some k)) w' := by
  have hne : ∀ j kj, hp j = some kj → j ≠ i := fun j kj hj he => by rw [he, hi] at hj; cases hj
  have hown : ∀ b, Own ⟨upd E.m i mb, upd E.N i S⟩ (upd hp i (some k)) b → Own E hp b ∨ Free w0 U E hp G w' b := by
    rintro b ⟨j, kj, hj, hlj, ho⟩
    by_cases hji : j = i
    · subst hji
      right
      simp only [upd, if_true, Option.some.injEq] at hj
      subst hj
      rcases ownBy_eq ho with ho | ho
      · exact (hmb b ho hlj).1
      · exact hS b ho hlj
    · left
      simp only [upd, if_neg hji] at hj
      exact ⟨j, kj, hj, hlj, ownBy_ne ho hji⟩
  refine ⟨h.fr.then hf hWU, ?_, ?_, ?_, ?_, ?_, ?_⟩
  · intro b hb
    have := h.g1 b hb; exact ⟨Nat.lt_of_lt_of_le this.1 hf.size, this.2⟩
  · intro b hb ho
    rcases hown b ho with ho | ho
    · exact h.g2 b hb ho
    · exact ho.2.1 hb
  · intro b ho
    rcases hown b ho with ho | ho
    · have := h.o1 b ho; exact ⟨Nat.lt_of_lt_of_le this.1 hf.size, this.2⟩
    · exact ⟨ho.1, ho.2.2.2⟩
  · intro j kj j' kj' hj hlj hj' hlj' b ho ho'
    have hnew : liveB k = true → ∀ q, OwnBy ⟨upd E.m i mb, upd E.N i S⟩ i q → ¬ Own E hp q := by
      intro hl q hq
      rcases ownBy_eq hq with hq | hq
      · exact (hmb q hq hl).1.2.2.1
      · exact (hS q hq hl).2.2.1
    by_cases hji : j = i
    · by_cases hji' : j' = i
      · rw [hji, hji']
      · exfalso
        simp only [upd, if_neg hji'] at hj'
        subst hji
        simp only [upd, if_true, Option.some.injEq] at hj
        subst hj
        exact hnew hlj b ho ⟨j', kj', hj', hlj', ownBy_ne ho' hji'⟩
    · by_cases hji' : j' = i
      · exfalso
        simp only [upd, if_neg hji] at hj
        subst hji'
        simp only [upd, if_true, Option.some.injEq] at hj'
        subst hj'
        exact hnew hlj' b ho' ⟨j, kj, hj, hlj, ownBy_ne ho hji⟩
      · simp only [upd, if_neg hji] at hj
        simp only [upd, if_neg hji'] at hj'
        exact h.dis j kj j' kj' hj hlj hj' hlj' b (ownBy_ne ho hji) (ownBy_ne ho' hji')
  · intro j kj b hj hlj hm hn
    by_cases hji : j = i
    · subst hji
      simp only [upd, if_true, Option.some.injEq] at hj hm hn
      subst hj
      exact (hmb b hm hlj).2 hn
    · simp only [upd, if_neg hji] at hj hm hn
      exact h.self j kj b hj hlj hm hn
  · intro j kj hj
    by_cases hji : j = i
    · subst hji
      simp only [upd, if_true, Option.some.injEq] at hj
      subst hj
      exact hb
    · simp only [upd, if_neg hji] at hj
      refine (h.blk j kj hj).grow hf (h.G_lt hW) (h.N_lt hW hj) (h.M_nW hW hj) (fun _ h => h) ?_ ?_ ?_
      · simp only [upd, if_neg hji]
      · intro b hb; simpa only [upd, if_neg hji] using hb
      · intro q hq
        have : q ≠ i := fun he => hB j kj hj (he ▸ hq)
        simp only [upd, if_neg this, and_self]

/-- A new block of ours, at a new number. -/
theorem HpInv.add (h : HpInv w0 U A E G hp w) (hw : HpWf B hp) {i : Nat} (hi : ¬ B i) (hf : Fr W w w') (hW : Loose E hp G W) (hWU : ∀ b, W b → U b ∨ w0.heap.size ≤ b) (k : Blk) (mb : Option Nat) (S : Nat → Prop)
    (hmb : ∀ b, mb = some b → Free w0 U E hp G w' b ∧ ¬ S b) (hS : ∀ b, S b → Free w0 U E hp G w' b)
    (hb : BlkRel w' ⟨upd E.m i mb, upd E.N i S⟩ (upd hp i (some k)) G i k) :
    HpInv w0 U A ⟨upd E.m i mb, upd E.N i S⟩ G (upd hp i (some k)) w' ∧ Ext B E G hp w ⟨upd E.m i mb, upd E.N i S⟩ G (upd hp i (some k)) w' :=
  ⟨h.put (HpInv.fresh hw hi) hf hW hWU k mb S (fun b hb _ => hmb b hb) (fun b hb _ => hS b hb) (fun j kj hj hq => hi ((hw j kj hj).2 i hq)) hb,
    ⟨fun x y hx hv => hv.grow hf (h.G_lt hW) (fun _ h => h) fun j hj => by
      have : j ≠ i := fun he => hi (he ▸ hx j hj)
      simp only [upd, if_neg this, and_self]⟩⟩

/-- A block is let go. -/
theorem HpInv.drop (h : HpInv w0 U A E G hp w) (i : Nat) : HpInv w0 U A E G (upd hp i none) w ∧ Ext B E G hp w E G (upd hp i none) w := by
  have hsub : ∀ j k, upd hp i none j = some k → j ≠ i ∧ hp j = some k := by
    intro j k hj
    by_cases hji : j = i
    · subst hji; simp [upd] at hj
    · simp only [upd, if_neg hji] at hj; exact ⟨hji, hj⟩
  have hv : ∀ x y, VR0 w E hp G x y → VR0 w E (upd hp i none) G x y := by
    intro x y hv
    cases x with
    | ar id lo n =>
      obtain ⟨a, cap, hy, hk⟩ := hv
      exact ⟨a, cap, hy, fun k hkk => hk k (hsub id k hkk).2⟩
    | rf id r c =>
      obtain ⟨b, o, hy, hk⟩ := hv
      exact ⟨b, o, hy, fun k hkk => hk k (hsub id k hkk).2⟩
    | cl f caps => cases caps <;> exact hv
    | _ => exact hv
  have hown : ∀ b, Own E (upd hp i none) b → Own E hp b := by
    rintro b ⟨j, k, hj, hl, ho⟩
    exact ⟨j, k, (hsub j k hj).2, hl, ho⟩
  refine ⟨⟨h.fr, h.g1, fun b hg ho => h.g2 b hg (hown b ho), fun b ho => h.o1 b (hown b ho), ?_, ?_, ?_⟩, ⟨fun x y _ => hv x y⟩⟩
  · intro j k j' k' hj hl hj' hl' b ho ho'
    exact h.dis j k j' k' (hsub j k hj).2 hl (hsub j' k' hj').2 hl' b ho ho'
  · intro j k b hj hl
    exact h.self j k b (hsub j k hj).2 hl
  · intro j k hj
    have hb := h.blk j k (hsub j k hj).2
    unfold BlkRel at hb ⊢
    cases hk : k.kind with
    | box =>
      simp only [hk] at hb ⊢
      obtain ⟨b, row, cur, h1, h2, h3, h4, h5, h6⟩ := hb
      exact ⟨b, row, cur, h1, h2, h3, h4, h5, h6.mono fun x _ y hxy => ⟨hv x y hxy.1, hxy.2⟩⟩
    | arr => simp only [hk] at hb ⊢; exact hb
    | frz => simp only [hk] at hb ⊢; exact hb

/-- What a block held is held by nobody when it is let go. -/
theorem HpInv.freed (h : HpInv w0 U A E G hp w) {i : Nat} {k : Blk} (hk : hp i = some k) (hl : liveB k = true) {b : Nat} (ho : OwnBy E i b) : Free w0 U E (upd hp i none) G w b := by
  have h1 : Own E hp b := ⟨i, k, hk, hl, ho⟩
  refine ⟨(h.o1 b h1).1, fun hg => h.g2 b hg h1, ?_, (h.o1 b h1).2⟩
  rintro ⟨j, kj, hj, hlj, hoj⟩
  by_cases hji : j = i
  · subst hji; simp [upd] at hj
  · simp only [upd, if_neg hji] at hj
    exact hji (h.dis j kj i k hj hlj hk hl b hoj ho)

end Go.Proofs.Ytcmihlhmeonmfaa.Ev
