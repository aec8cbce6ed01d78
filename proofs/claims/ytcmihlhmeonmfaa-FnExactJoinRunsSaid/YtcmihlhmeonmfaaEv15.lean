/- A call: how the evaluator's blocks are handed over and taken back. -/
import Derived.Test.YtcmihlhmeonmfaaEv14
namespace Go.Proofs.Ytcmihlhmeonmfaa.Ev
open Go
set_option linter.unusedVariables false
set_option linter.unusedSimpArgs false

variable {P : Program} {w w' w0 : World} {E E' : Env} {hp hp' : Hp} {G G' U A W F S : Nat → Prop} {B : Nat → Prop} {ρ : Operand → V} {ρr : Operand → Value}

/-- Blocks' numbers are turned: the same blocks lie behind the new ones. -/
structure Turn (f : Nat → Option Nat) (E : Env) (hp : Hp) (E' : Env) (hp' : Hp) : Prop where
  at' : ∀ id j, f id = some j → ∀ k', hp' j = some k' → ∃ k, hp id = some k ∧ (k'.kind = .box ↔ k.kind = .box) ∧ k'.size = k.size ∧ k'.rows.length = k.rows.length ∧ E'.m j = E.m id

theorem Turn.vr0 {f : Nat → Option Nat} (h : Turn f E hp E' hp') (hG : (∀ b, G b → G' b)) : ∀ {x : V} {y : Value}, VR0 w E hp G x y → VR0 w E' hp' G' (ren0 f x) y
  | .any, _, _ => trivial
  | .cl g [], y, h => h
  | .cl _ (_ :: _), _, h => h.elim
  | .agg _, _, h => h.elim
  | .tup _, _, h => h.elim
  | .v x, y, h => Rep.mono h hG
  | .em, y, h => Rep.mono h hG
  | .im rows, y, h => Rep.mono h hG
  | .ar id lo n, y, hv => by
    simp only [ren0]
    cases hf : f id with
    | none => exact trivial
    | some j =>
      obtain ⟨a, cap, hy, hk⟩ := hv
      refine ⟨a, cap, hy, fun k' hk' => ?_⟩
      obtain ⟨k, h1, h2, h3, h4, h5⟩ := h.at' id j hf k' hk'
      obtain ⟨q1, q2, q3⟩ := hk k h1
      refine ⟨fun hh => q1 (h2.1 hh), by rw [h4]; exact q2, ?_⟩
      rw [h3, h5]
      exact q3
  | .rf id r c, y, hv => by
    simp only [ren0]
    cases hf : f id with
    | none => exact trivial
    | some j =>
      obtain ⟨b, o, hy, hk⟩ := hv
      refine ⟨b, o, hy, fun k' hk' => ?_⟩
      obtain ⟨k, h1, h2, h3, h4, h5⟩ := h.at' id j hf k' hk'
      obtain ⟨q2, q3⟩ := hk k h1
      exact ⟨by rw [h5]; exact q2, by rw [h3]; exact q3⟩
  | .ir row c, y, hv => by
    obtain ⟨b, off, f', hg, hy, hc⟩ := hv
    exact ⟨b, off, f', hG b hg, hy, fun j x hx => ⟨(hc j x hx).1, (hc j x hx).2.mono hG⟩⟩

/-- The same of a value that leads to nothing that is only borrowed. -/
theorem Turn.vr0' {f : Nat → Option Nat} (h : Turn f E hp E' hp') : ∀ {x : V} {y : Value}, noIm0 x = true → VR0 w E hp G x y → VR0 w E' hp' G' (ren0 f x) y
  | .any, _, hn, _ => by simp [noIm0] at hn
  | .cl g [], y, _, h => h
  | .cl _ (_ :: _), _, hn, h => h.elim
  | .agg _, _, hn, h => h.elim
  | .tup _, _, hn, h => h.elim
  | .v x, y, _, h => Rep.scalar rfl h
  | .em, y, hn, h => by simp [noIm0] at hn
  | .im rows, y, hn, h => by simp [noIm0] at hn
  | .ar id lo n, y, _, hv => Turn.vr0 (G := fun _ => False) h (fun b hb => hb.elim) (x := .ar id lo n) hv
  | .rf id r c, y, _, hv => Turn.vr0 (G := fun _ => False) h (fun b hb => hb.elim) (x := .rf id r c) hv
  | .ir row c, y, hn, hv => by simp [noIm0] at hn

theorem VL.map {R R' : V → Value → Prop} {f : V → V} : ∀ {xs : List V} {ys : List Value}, VL R xs ys → (∀ x ∈ xs, ∀ y, R x y → R' (f x) y) → VL R' (xs.map f) ys
  | [], [], _, _ => trivial
  | x :: xs, y :: ys, h, hm => ⟨hm x (by simp) y h.1, VL.map h.2 fun x hx => hm x (by simp [hx])⟩
  | [], _ :: _, h, _ => h.elim
  | _ :: _, [], h, _ => h.elim

theorem Turn.vr1 {f : Nat → Option Nat} (h : Turn f E hp E' hp') (hG : ∀ b, G b → G' b) {x : V} {y : Value} (hv : VR1 w E hp G x y) : VR1 w E' hp' G' (ren1 f x) y := by
  cases x with
  | agg cs => obtain ⟨us, rfl, hl⟩ := hv; exact ⟨us, rfl, hl.map fun x _ y hx => h.vr0 hG hx⟩
  | cl g caps => obtain ⟨us, rfl, hl⟩ := hv; exact ⟨us, rfl, hl.map fun x _ y hx => h.vr0 hG hx⟩
  | v a => exact (h.vr0 hG (x := .v a) hv).to1
  | em => exact (h.vr0 hG (x := .em) hv).to1
  | im a => exact (h.vr0 hG (x := .im a) hv).to1
  | ar a b c => exact (h.vr0 hG (x := .ar a b c) hv).to1
  | rf a b c => exact (h.vr0 hG (x := .rf a b c) hv).to1
  | ir a b => exact (h.vr0 hG (x := .ir a b) hv).to1
  | tup a => exact hv.elim
  | any => exact trivial

theorem Turn.vr2 {f : Nat → Option Nat} (h : Turn f E hp E' hp') (hG : ∀ b, G b → G' b) {x : V} {y : Value} (hv : VR2 w E hp G x y) : VR2 w E' hp' G' (ren2 f x) y := by
  cases x with
  | tup vs => obtain ⟨us, rfl, hl⟩ := hv; exact ⟨us, rfl, hl.map fun x _ y hx => h.vr1 hG hx⟩
  | agg a => exact (h.vr1 hG (x := .agg a) hv).to2
  | cl a b => exact (h.vr1 hG (x := .cl a b) hv).to2
  | v a => exact (h.vr1 hG (x := .v a) hv).to2
  | em => exact (h.vr1 hG (x := .em) hv).to2
  | im a => exact (h.vr1 hG (x := .im a) hv).to2
  | ar a b c => exact (h.vr1 hG (x := .ar a b c) hv).to2
  | rf a b c => exact (h.vr1 hG (x := .rf a b c) hv).to2
  | ir a b => exact (h.vr1 hG (x := .ir a b) hv).to2
  | any => exact trivial

theorem Turn.vr2' {f : Nat → Option Nat} (h : Turn f E hp E' hp') {x : V} {y : Value} (hn : noIm x = true) (hv : VR2 w E hp G x y) : VR2 w E' hp' G' (ren2 f x) y := by
  cases x with
  | tup vs =>
    obtain ⟨us, rfl, hl⟩ := hv
    refine ⟨us, rfl, hl.map fun x hx y hv => ?_⟩
    have hnx := List.all_eq_true.1 hn x hx
    cases x with
    | agg cs => obtain ⟨us, rfl, hl⟩ := hv; exact ⟨us, rfl, hl.map fun x hx y hv => h.vr0' (List.all_eq_true.1 hnx x hx) hv⟩
    | cl g caps =>
      cases caps with
      | nil => obtain ⟨us, h1, hl⟩ := hv; exact ⟨us, h1, hl.map (f := ren0 f) fun x hx => by simp at hx⟩
      | cons a l => simp [noIm0] at hnx
    | v a => exact (h.vr0' (x := .v a) hnx hv).to1
    | em => exact (h.vr0' (x := .em) hnx hv).to1
    | im a => exact (h.vr0' (x := .im a) hnx hv).to1
    | ar a b c => exact (h.vr0' (G := G) (x := .ar a b c) hnx hv).to1
    | rf a b c => exact (h.vr0' (G := G) (x := .rf a b c) hnx hv).to1
    | ir a b => exact (h.vr0' (x := .ir a b) hnx hv).to1
    | tup a => exact hv.elim
    | any => exact trivial
  | agg cs => obtain ⟨us, rfl, hl⟩ := hv; exact ⟨us, rfl, hl.map fun x hx y hv => h.vr0' (List.all_eq_true.1 hn x hx) hv⟩
  | cl g caps =>
    cases caps with
    | nil => obtain ⟨us, h1, hl⟩ := hv; exact ⟨us, h1, hl.map (f := ren0 f) fun x hx => by simp at hx⟩
    | cons a l => simp [noIm, noIm0] at hn
  | v a => exact (h.vr0' (x := .v a) hn hv).to1.to2
  | em => exact (h.vr0' (x := .em) hn hv).to1.to2
  | im a => exact (h.vr0' (x := .im a) hn hv).to1.to2
  | ar a b c => exact (h.vr0' (G := G) (x := .ar a b c) hn hv).to1.to2
  | rf a b c => exact (h.vr0' (G := G) (x := .rf a b c) hn hv).to1.to2
  | ir a b => exact (h.vr0' (x := .ir a b) hn hv).to1.to2
  | any => exact trivial

/-- A value handed over to be read. -/
theorem lend0_rel (hI : HpInv w0 U A E G hp w) {x x' : V} {y : Value} {lent : List Nat} (h : lend0 hp x = some x') (hl : ∀ i ∈ arIds0 x, i ∈ lent) (hv : VR0 w E hp G x y) :
    VR0 w E hp (fun b => G b ∨ Held E hp lent b) x' y ∧ (∀ i ∈ refs0 x', i ∈ refs0 x) ∧ okCell x' = okCell x := by
  have hG : ∀ b, G b → G b ∨ Held E hp lent b := fun _ h => .inl h
  cases x with
  | ar id lo n =>
    simp only [lend0] at h
    split at h
    · rename_i k hk
      have hin : id ∈ lent := hl id (by simp [arIds0])
      have hrep : k.kind ≠ .box → VR0 w E hp (fun b => G b ∨ Held E hp lent b) (.im ((k.rows.take (lo + n)).drop lo)) y := by
        intro hkb
        refine (ar_im hI hv hk (S := fun b => G b ∨ Held E hp lent b) (fun b hb => ?_) (fun b hb => ?_)).vr0
        · cases hkk : k.kind with
          | box => exact absurd hkk hkb
          | arr => exact .inr ⟨id, hin, k, hk, by simp [liveB, hkk], .inl hb⟩
          | frz =>
            have := hI.blk id k hk
            unfold BlkRel at this
            simp only [hkk] at this
            rcases this with ⟨_, h2⟩ | ⟨b', _, _, _, h1, h1', _⟩
            · rw [hb] at h2; cases h2
            · rw [hb] at h1; cases h1; exact .inl h1'
        · by_cases hc : k.kind = .arr ∧ k.deep = true
          · rw [if_pos hc] at hb; exact .inr ⟨id, hin, k, hk, by simp [liveB, hc.1], .inr hb⟩
          · rw [if_neg hc] at hb; exact .inl hb
      split at h
      · cases h
      · rename_i hkb
        cases h
        exact ⟨hrep (by simpa using hkb), by simp [refs0], rfl⟩
    · cases h
  | em =>
    cases h
    have hv' : Rep w G .em y := hv
    cases hv' with
    | em a => exact ⟨Rep.im0 a 0, by simp [refs0], rfl⟩
  | tup vs => cases h
  | agg cs => cases h
  | cl g caps =>
    cases caps with
    | nil => cases h; exact ⟨hv, fun _ h => h, rfl⟩
    | cons a l => cases h
  | v a => cases h; exact ⟨Rep.mono hv hG, fun _ h => h, rfl⟩
  | im a => cases h; exact ⟨Rep.mono hv hG, fun _ h => h, rfl⟩
  | rf a b c => cases h; exact ⟨hv, fun _ h => h, rfl⟩
  | ir row c =>
    cases h
    obtain ⟨b, off, f, hg, hy, hc⟩ := hv
    exact ⟨⟨b, off, f, .inl hg, hy, fun j x hx => ⟨(hc j x hx).1, (hc j x hx).2.mono hG⟩⟩, fun _ h => h, rfl⟩
  | any => cases h; exact ⟨trivial, fun _ h => h, rfl⟩

theorem lendL_rel (hI : HpInv w0 U A E G hp w) {lent : List Nat} : ∀ {xs xs' : List V} {ys : List Value}, lendL hp xs = some xs' → (∀ i ∈ xs.flatMap arIds0, i ∈ lent) → VL (VR0 w E hp G) xs ys →
    VL (VR0 w E hp (fun b => G b ∨ Held E hp lent b)) xs' ys ∧ ∀ i ∈ xs'.flatMap refs0, i ∈ xs.flatMap refs0
  | [], xs', ys, h, _, hv => by
    simp only [lendL, Option.some.injEq] at h
    subst h
    cases ys with
    | nil => exact ⟨trivial, fun _ h => h⟩
    | cons y ys => exact hv.elim
  | x :: xs, xs', ys, h, hl, hv => by
    simp only [lendL] at h
    split at h
    · rename_i y r h1 h2
      cases h
      cases ys with
      | nil => exact hv.elim
      | cons u us =>
        obtain ⟨q1, q2, _⟩ := lend0_rel hI h1 (lent := lent) (fun i hi => hl i (by simp only [List.flatMap_cons, List.mem_append]; exact .inl hi)) hv.1
        obtain ⟨r1, r2⟩ := lendL_rel hI h2 (fun i hi => hl i (by simp only [List.flatMap_cons, List.mem_append]; exact .inr hi)) hv.2
        refine ⟨⟨q1, r1⟩, fun i hi => ?_⟩
        simp only [List.flatMap_cons, List.mem_append] at hi ⊢
        exact hi.imp (q2 i) (r2 i)
    · cases h

theorem lend1_rel (hI : HpInv w0 U A E G hp w) {x x' : V} {y : Value} {lent : List Nat} (h : lend1 hp x = some x') (hl : ∀ i ∈ arIds1 x, i ∈ lent) (hv : VR2 w E hp G x y) :
    VR1 w E hp (fun b => G b ∨ Held E hp lent b) x' y ∧ (∀ i ∈ refs1 x', i ∈ refs2 x) := by
  cases x with
  | agg cs =>
    simp only [lend1] at h
    split at h
    · rename_i r hr
      cases h
      obtain ⟨us, rfl, hvl⟩ := hv
      obtain ⟨q1, q2⟩ := lendL_rel hI hr hl hvl
      exact ⟨⟨us, rfl, q1⟩, q2⟩
    · cases h
  | cl g caps =>
    simp only [lend1] at h
    split at h
    · rename_i r hr
      cases h
      obtain ⟨us, rfl, hvl⟩ := hv
      obtain ⟨q1, q2⟩ := lendL_rel hI hr hl hvl
      exact ⟨⟨us, rfl, q1⟩, q2⟩
    · cases h
  | tup vs => cases h
  | v a => obtain ⟨q1, q2, _⟩ := lend0_rel hI (x := .v a) h hl hv; exact ⟨q1.to1, fun i hi => by cases h; exact q2 i hi⟩
  | em => obtain ⟨q1, q2, _⟩ := lend0_rel hI (x := .em) h hl hv; exact ⟨q1.to1, fun i hi => by cases h; exact q2 i hi⟩
  | im a => obtain ⟨q1, q2, _⟩ := lend0_rel hI (x := .im a) h hl hv; exact ⟨q1.to1, fun i hi => by cases h; exact q2 i hi⟩
  | ar a b c =>
    obtain ⟨q1, q2, _⟩ := lend0_rel hI (x := .ar a b c) h hl hv
    refine ⟨q1.to1, fun i hi => ?_⟩
    simp only [lend1, lend0] at h
    split at h
    · split at h
      · cases h
      · cases h; exact q2 i hi
    · cases h
  | rf a b c => obtain ⟨q1, q2, _⟩ := lend0_rel hI (x := .rf a b c) h hl hv; exact ⟨q1.to1, fun i hi => by cases h; exact q2 i hi⟩
  | ir a b => obtain ⟨q1, q2, _⟩ := lend0_rel hI (x := .ir a b) h hl hv; exact ⟨q1.to1, fun i hi => by cases h; exact q2 i hi⟩
  | any => cases h; exact ⟨trivial, fun i hi => hi⟩

theorem lendA_rel (hI : HpInv w0 U A E G hp w) {lent : List Nat} : ∀ {xs xs' : List V} {ys : List Value}, lendA hp xs = some xs' → (∀ i ∈ xs.flatMap arIds1, i ∈ lent) → VL (VR2 w E hp G) xs ys →
    VL (VR1 w E hp (fun b => G b ∨ Held E hp lent b)) xs' ys ∧ ∀ i ∈ xs'.flatMap refs1, i ∈ xs.flatMap refs2
  | [], xs', ys, h, _, hv => by
    simp only [lendA, Option.some.injEq] at h
    subst h
    cases ys with
    | nil => exact ⟨trivial, fun _ h => h⟩
    | cons y ys => exact hv.elim
  | x :: xs, xs', ys, h, hl, hv => by
    simp only [lendA] at h
    split at h
    · rename_i y r h1 h2
      cases h
      cases ys with
      | nil => exact hv.elim
      | cons u us =>
        obtain ⟨q1, q2⟩ := lend1_rel hI h1 (lent := lent) (fun i hi => hl i (by simp only [List.flatMap_cons, List.mem_append]; exact .inl hi)) hv.1
        obtain ⟨r1, r2⟩ := lendA_rel hI h2 (fun i hi => hl i (by simp only [List.flatMap_cons, List.mem_append]; exact .inr hi)) hv.2
        refine ⟨⟨q1, r1⟩, fun i hi => ?_⟩
        simp only [List.flatMap_cons, List.mem_append] at hi ⊢
        exact hi.imp (q2 i) (r2 i)
    · cases h

end Go.Proofs.Ytcmihlhmeonmfaa.Ev
