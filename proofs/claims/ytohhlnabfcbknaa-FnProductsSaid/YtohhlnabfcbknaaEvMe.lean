/- The evaluator, part 5: EvP EvC. -/
import Derived.Test.YtohhlnabfcbknaaEvMd
import Derived.IntWalk

/-! #### EvP -/
section
/- Plain facts about the typed texts' words. -/
namespace Go.Proofs.Ytohhlnabfcbknaa.Ev
open Go
set_option linter.unusedVariables false
set_option linter.unusedSimpArgs false

theorem wrapI {n : Int} (h1 : -9223372036854775808 ≤ n) (h2 : n ≤ 9223372036854775807) : IntKind.wrap .i64 n = n := by rw [IntKind.wrap_i64]; omega

theorem wrapI' (n : Int) : -9223372036854775808 ≤ IntKind.wrap .i64 n ∧ IntKind.wrap .i64 n ≤ 9223372036854775807 := by rw [IntKind.wrap_i64]; omega

section
variable {σ τ ρ ρ' : Type} {f : σ → Option (σ ⊕ ρ)} {g : τ → Option (τ ⊕ ρ')}

theorem loop_go {s s' : σ} (h : f s = some (.inl s')) : loopM f s = loopM f s' := by rw [loopM_eq, h]; rfl
theorem loop_end {s : σ} {r : ρ} (h : f s = some (.inr r)) : loopM f s = some r := by rw [loopM_eq, h]; rfl

/-- A loop that comes to an end. -/
theorem loop_one {I : σ → Prop} {R : ρ → Prop} (m : σ → Nat) (h : ∀ s, I s → (∃ s', f s = some (.inl s') ∧ I s' ∧ m s' < m s) ∨ ∃ r, f s = some (.inr r) ∧ R r) : ∀ s, I s → ∃ r, loopM f s = some r ∧ R r := by
  have : ∀ n s, m s < n → I s → ∃ r, loopM f s = some r ∧ R r := by
    intro n
    induction n with
    | zero => intro s h; omega
    | succ n ih =>
      intro s hn hs
      rcases h s hs with ⟨s', h1, h2, h3⟩ | ⟨r, h1, h2⟩
      · obtain ⟨r, h4, h5⟩ := ih s' (by omega) h2
        exact ⟨r, by rw [loop_go h1, h4], h5⟩
      · exact ⟨r, loop_end h1, h2⟩
  exact fun s hs => this (m s + 1) s (by omega) hs

/-- Two loops side by side. -/
theorem loop_two {I : σ → τ → Prop} {R : ρ → ρ' → Prop} (m : σ → Nat) (h : ∀ s t, I s t → (∃ s' t', f s = some (.inl s') ∧ g t = some (.inl t') ∧ I s' t' ∧ m s' < m s) ∨ ∃ r r', f s = some (.inr r) ∧ g t = some (.inr r') ∧ R r r') :
    ∀ s t, I s t → ∃ r r', loopM f s = some r ∧ loopM g t = some r' ∧ R r r' := by
  have : ∀ n s t, m s < n → I s t → ∃ r r', loopM f s = some r ∧ loopM g t = some r' ∧ R r r' := by
    intro n
    induction n with
    | zero => intro s t h; omega
    | succ n ih =>
      intro s t hn hs
      rcases h s t hs with ⟨s', t', h1, h1', h2, h3⟩ | ⟨r, r', h1, h1', h2⟩
      · obtain ⟨r, r', h4, h4', h5⟩ := ih s' t' (by omega) h2
        exact ⟨r, r', by rw [loop_go h1, h4], by rw [loop_go h1', h4'], h5⟩
      · exact ⟨r, r', loop_end h1, loop_end h1', h2⟩
  exact fun s t hs => this (m s + 1) s t (by omega) hs
end

section
variable {α β γ : Type}
theorem getI_nat (l : List α) (i : Nat) : getI l (i : Int) = l[i]? := by
  unfold getI
  rw [if_pos (by omega)]
  simp

theorem getI_lt {l : List α} {i : Int} (h0 : 0 ≤ i) (h1 : i < l.length) : ∃ a, getI l i = some a ∧ l[i.toNat]? = some a := by
  unfold getI
  rw [if_pos h0]
  have : i.toNat < l.length := by omega
  exact ⟨l[i.toNat], List.getElem?_eq_getElem this, List.getElem?_eq_getElem this⟩

theorem idxI_nat {i n : Nat} (h : i < n) : idxI (i : Int) n = some i := by
  unfold idxI
  rw [if_pos (by omega)]
  simp

theorem lenI_nat {n b s : Nat} (h1 : n * b ≤ maxBytes) (h2 : n * s ≤ maxBytes) : lenI (n : Int) b s = some n := by
  unfold lenI
  rw [if_pos (by simp; omega)]
  simp

def copyB (G : α → Option β) (H : β → γ) : List α × List γ × Int → Option ((List α × List γ × Int) ⊕ List γ) := fun s => bif decide (s.2.2 < ((s.1.length : Nat) : Int)) then (getI s.1 s.2.2).bind fun x0 => (G x0).bind fun x1 => (idxI s.2.2 s.2.1.length).bind fun x2 => (getN s.2.1 x2).bind fun _ => some (Sum.inl (s.1, s.2.1.set x2 (H x1), IntKind.wrap .i64 (s.2.2 + 1))) else some (.inr s.2.1)
def sameB (E : α → α → Option Bool) : List α × List α × Int → Option ((List α × List α × Int) ⊕ (Unit ⊕ Bool)) := fun s => bif decide (s.2.2 < ((s.1.length : Nat) : Int)) then (getI s.1 s.2.2).bind fun x0 => (getI s.2.1 s.2.2).bind fun x1 => (E x0 x1).bind fun x2 => bif (!x2) then some (.inr (.inr false)) else some (Sum.inl (s.1, s.2.1, IntKind.wrap .i64 (s.2.2 + 1))) else some (.inr (.inl ()))

/-- A list that is copied, element by element. -/
theorem copy_loop {G : α → Option β} {g : α → γ} {H : β → γ} {z : γ} {l : List α} (hl : l.length < 4611686018427387904) (hG : ∀ a ∈ l, ∃ b, G a = some b ∧ H b = g a) :
    loopM (copyB G H) (l, List.replicate l.length z, 0) = some (l.map g) := by
  obtain ⟨r, h1, h2⟩ := loop_one (f := copyB G H)
    (I := fun s => ∃ (k : Nat) (acc : List γ), s = (l, acc, (k : Int)) ∧ k ≤ l.length ∧ acc.length = l.length ∧ ∀ j : Nat, j < k → acc[j]? = (l.map g)[j]?) (R := fun r => r = l.map g) (fun s => (((s.1.length : Nat) : Int) - s.2.2).toNat) (by
      rintro s ⟨k, acc, rfl, hk, hacc, hj⟩
      by_cases hlt : k < l.length
      · left
        have e1 : l[k]? = some l[k] := List.getElem?_eq_getElem hlt
        obtain ⟨b, hb, hbg⟩ := hG l[k] (List.getElem_mem hlt)
        have e2 : getN acc k = some acc[k] := List.getElem?_eq_getElem (by omega)
        refine ⟨(l, acc.set k (H b), ((k + 1 : Nat) : Int)), ?_, ⟨k + 1, _, rfl, hlt, by simp [hacc], fun j hj' => ?_⟩, ?_⟩
        · unfold copyB
          simp only [getI_nat, e1, Option.bind_some, hb, hacc, idxI_nat hlt, e2]
          rw [wrapI (by omega) (by omega)]
          have : decide ((k : Int) < (l.length : Int)) = true := by simpa using hlt
          rw [this]; rfl
        · rw [List.getElem?_set]
          by_cases hjk : k = j
          · subst hjk
            rw [if_pos rfl, if_pos (by omega), List.getElem?_map, e1, hbg]
            rfl
          · rw [if_neg hjk]; exact hj j (by omega)
        · simp only; omega
      · right
        refine ⟨acc, ?_, ?_⟩
        · have : decide ((k : Int) < (l.length : Int)) = false := by simpa using hlt
          unfold copyB
          simp only [this, cond_false]
        · apply List.ext_getElem?
          intro j
          by_cases hjl : j < k
          · exact hj j hjl
          · rw [List.getElem?_eq_none (by omega), List.getElem?_eq_none (by simp; omega)])
    (l, List.replicate l.length z, 0) ⟨0, _, rfl, by omega, by simp, fun j hj => by omega⟩
  rw [h1, h2]

/-- Two lists that are compared, element by element. -/
theorem same_loop {E : α → α → Option Bool} {l m : List α} (hl : l.length < 4611686018427387904) (hlm : m.length = l.length) (hE : ∀ a ∈ l, ∀ b ∈ m, ∃ t : Bool, E a b = some t ∧ (t = true ↔ a = b)) :
    ∃ r : Unit ⊕ Bool, loopM (sameB E) (l, m, 0) = some r ∧
      (l = m → r = .inl ()) ∧ (l ≠ m → r = .inr false) := by
  refine loop_one (f := sameB E)
    (I := fun s => ∃ k : Nat, s = (l, m, (k : Int)) ∧ k ≤ l.length ∧ ∀ j : Nat, j < k → l[j]? = m[j]?) (fun s => (((s.1.length : Nat) : Int) - s.2.2).toNat) ?_ (l, m, 0) ⟨0, rfl, by omega, fun j hj => by omega⟩
  rintro s ⟨k, rfl, hk, hj⟩
  by_cases hlt : k < l.length
  · have e1 : l[k]? = some l[k] := List.getElem?_eq_getElem hlt
    have e2 : m[k]? = some (m[k]'(by omega)) := List.getElem?_eq_getElem (by omega)
    obtain ⟨t, h1, h2⟩ := hE l[k] (List.getElem_mem hlt) (m[k]'(by omega)) (List.getElem_mem (by omega))
    have hd : decide ((k : Int) < (l.length : Int)) = true := by simpa using hlt
    cases t with
    | true =>
      left
      refine ⟨(l, m, ((k + 1 : Nat) : Int)), ?_, ⟨k + 1, rfl, hlt, fun j hj' => ?_⟩, ?_⟩
      · unfold sameB
        simp only [getI_nat, e1, e2, Option.bind_some, h1, hd]
        rw [wrapI (by omega) (by omega)]
        rfl
      · by_cases hjk : j = k
        · subst hjk; rw [e1, e2, h2.1 rfl]
        · exact hj j (by omega)
      · simp only; omega
    | false =>
      right
      refine ⟨.inr false, ?_, fun he => ?_, fun _ => rfl⟩
      · unfold sameB
        simp only [getI_nat, e1, e2, Option.bind_some, h1, hd]
        rfl
      · subst he
        have := h2.2 rfl
        cases this
  · right
    refine ⟨.inl (), ?_, fun _ => rfl, fun hne => ?_⟩
    · have : decide ((k : Int) < (l.length : Int)) = false := by simpa using hlt
      unfold sameB
      simp only [this, cond_false]
    · exfalso
      apply hne
      apply List.ext_getElem?
      intro j
      by_cases hjl : j < k
      · exact hj j hjl
      · rw [List.getElem?_eq_none (by omega), List.getElem?_eq_none (by omega)]
end

section
variable {α σ ρ : Type} {body : σ → Option (σ ⊕ ρ)}
/-- A loop that looks at each element and stops at the first that fails. -/
theorem all_loop {l : List α} {st : Nat → σ} {p : α → Bool} {fin : ρ} {bad : Nat → ρ} (hgo : ∀ k a, l[k]? = some a → p a = true → body (st k) = some (.inl (st (k + 1)))) (hbad : ∀ k a, l[k]? = some a → p a = false → body (st k) = some (.inr (bad k))) (hend : body (st l.length) = some (.inr fin)) :
    (l.all p = true → loopM body (st 0) = some fin) ∧ (l.all p = false → ∃ k, k < l.length ∧ loopM body (st 0) = some (bad k)) := by
  have key : ∀ (n k : Nat), k + n = l.length → ((l.drop k).all p = true → loopM body (st k) = some fin) ∧ ((l.drop k).all p = false → ∃ j, j < l.length ∧ loopM body (st k) = some (bad j)) := by
    intro n
    induction n with
    | zero =>
      intro k hk
      have : k = l.length := by omega
      subst this
      rw [List.drop_length]
      exact ⟨fun _ => loop_end hend, (fun h => by cases h)⟩
    | succ n ih =>
      intro k hk
      have hlt : k < l.length := by omega
      have hd : l.drop k = l[k] :: l.drop (k + 1) := List.drop_eq_getElem_cons hlt
      have he : l[k]? = some l[k] := List.getElem?_eq_getElem hlt
      rw [hd, List.all_cons]
      cases hp : p l[k] with
      | true =>
        have h1 := hgo k _ he hp
        obtain ⟨q1, q2⟩ := ih (k + 1) (by omega)
        rw [Bool.true_and, loop_go h1]
        exact ⟨q1, q2⟩
      | false =>
        rw [Bool.false_and]
        exact ⟨(fun h => by cases h), fun _ => ⟨k, hlt, loop_end (hbad k _ he hp)⟩⟩
  have := key l.length 0 (by omega)
  rwa [List.drop_zero] at this
end

/-! ### rows that are marked, and looked at again -/
section
def markIB : List Int × Int × Int → Option ((List Int × Int × Int) ⊕ (List Int × Int)) := fun s => bif decide (s.2.2 < ((s.1.length : Nat) : Int)) then (idxI s.2.2 s.1.length).bind fun x0 => (getN s.1 x0).bind fun _ => some (Sum.inl (s.1.set x0 s.2.1, IntKind.wrap .i64 (s.2.1 + 1), IntKind.wrap .i64 (s.2.2 + 1))) else some (.inr (s.1, s.2.1))
def heldIB : List Int × Int × Int → Option ((List Int × Int × Int) ⊕ (Int ⊕ Int)) := fun s => bif decide (s.2.2 < ((s.1.length : Nat) : Int)) then (getI s.1 s.2.2).bind fun x0 => bif (x0 != s.2.1) then some (Sum.inr (Sum.inr (-1))) else some (Sum.inl (s.1, IntKind.wrap .i64 (s.2.1 + 1), IntKind.wrap .i64 (s.2.2 + 1))) else some (.inr (.inl s.2.1))
def markPB : List (Int × Int) × Int × Int → Option ((List (Int × Int) × Int × Int) ⊕ (List (Int × Int) × Int)) := fun s => bif decide (s.2.2 < ((s.1.length : Nat) : Int)) then
    (idxI s.2.2 s.1.length).bind fun x0 => (getN s.1 x0).bind fun x1 => (idxI s.2.2 (s.1.set x0 (s.2.1, x1.2)).length).bind fun x2 => (getN (s.1.set x0 (s.2.1, x1.2)) x2).bind fun x3 =>
      some (Sum.inl ((s.1.set x0 (s.2.1, x1.2)).set x2 (x3.1, IntKind.wrap .i64 (s.2.1 + 1)), IntKind.wrap .i64 (IntKind.wrap .i64 (s.2.1 + 1) + 1), IntKind.wrap .i64 (s.2.2 + 1)))
  else some (.inr (s.1, s.2.1))
def heldPB : List (Int × Int) × Int × Int → Option ((List (Int × Int) × Int × Int) ⊕ (Int ⊕ Int)) := fun s => bif decide (s.2.2 < ((s.1.length : Nat) : Int)) then
    (getI s.1 s.2.2).bind fun x0 => bif (x0.1 != s.2.1) then some (Sum.inr (Sum.inr (-1))) else
    (getI s.1 s.2.2).bind fun x1 => bif (x1.2 != IntKind.wrap .i64 (s.2.1 + 1)) then some (Sum.inr (Sum.inr (-1))) else
    some (Sum.inl (s.1, IntKind.wrap .i64 (IntKind.wrap .i64 (s.2.1 + 1) + 1), IntKind.wrap .i64 (s.2.2 + 1)))
  else some (.inr (.inl s.2.1))

def markI (b : Int) (n : Nat) : List Int := (List.range n).map fun (j : Nat) => b + (j : Int)
def markP (b : Int) (n : Nat) : List (Int × Int) := (List.range n).map fun (j : Nat) => (b + 2 * (j : Int), b + 2 * (j : Int) + 1)

theorem wrap1 {k : Nat} (h : k < 4611686018427387904) : IntKind.wrap .i64 ((k : Int) + 1) = ((k + 1 : Nat) : Int) := by rw [wrapI (by omega) (by omega)]; omega

theorem markI_loop {l : List Int} {b : Int} (hl : l.length < 1099511627776) (hb0 : 0 ≤ b) (hb : b < 1099511627776) : loopM markIB (l, b, 0) = some (markI b l.length, b + l.length) := by
  obtain ⟨r, h1, h2⟩ := loop_one (f := markIB) (I := fun s => ∃ (k : Nat) (acc : List Int), s = (acc, b + (k : Int), (k : Int)) ∧ k ≤ l.length ∧ acc.length = l.length ∧ ∀ j : Nat, j < k → acc[j]? = some (b + (j : Int))) (R := fun r => r = (markI b l.length, b + (l.length : Int))) (fun s => (((s.1.length : Nat) : Int) - s.2.2).toNat) (by
      rintro s ⟨k, acc, rfl, hk, hacc, hj⟩
      unfold markIB
      by_cases hlt : k < l.length
      · left
        have hd : decide ((k : Int) < ((acc.length : Nat) : Int)) = true := by rw [hacc]; simpa using hlt
        have e2 : getN acc k = some acc[k] := List.getElem?_eq_getElem (by omega)
        refine ⟨(acc.set k (b + (k : Int)), b + ((k + 1 : Nat) : Int), ((k + 1 : Nat) : Int)), ?_, ⟨k + 1, _, rfl, hlt, by simp [hacc], fun j hj' => ?_⟩, ?_⟩
        · simp only [hd, cond_true, idxI_nat (show k < acc.length by omega), Option.bind_some, e2, wrap1 (show k < 4611686018427387904 by omega)]
          rw [wrapI (by omega) (by omega)]
          simp [Int.add_assoc]
        · rw [List.getElem?_set]
          by_cases hjk : k = j
          · subst hjk; rw [if_pos rfl, if_pos (by omega)]
          · rw [if_neg hjk]; exact hj j (by omega)
        · simp only [List.length_set]; omega
      · right
        have hkl : k = l.length := by omega
        subst hkl
        have hd : decide ((l.length : Int) < ((acc.length : Nat) : Int)) = false := by rw [hacc]; simp
        refine ⟨(acc, b + (l.length : Int)), by simp only [hd, cond_false], ?_⟩
        congr 1
        apply List.ext_getElem?
        intro j
        unfold markI
        by_cases hjl : j < l.length
        · rw [hj j hjl, List.getElem?_map, List.getElem?_range hjl]; rfl
        · rw [List.getElem?_eq_none (by omega), List.getElem?_eq_none (by simp; omega)])
    (l, b, 0) ⟨0, l, by simp, by omega, rfl, fun j hj => by omega⟩
  rw [h1, h2]

theorem heldI_loop {n : Nat} {b : Int} (hl : n < 1099511627776) (hb0 : 0 ≤ b) (hb : b < 1099511627776) : loopM heldIB (markI b n, b, 0) = some (.inl (b + n)) := by
  have hlen : (markI b n).length = n := by simp [markI]
  obtain ⟨r, h1, h2⟩ := loop_one (f := heldIB) (I := fun s => ∃ (k : Nat), s = (markI b n, b + (k : Int), (k : Int)) ∧ k ≤ n) (R := fun r => r = .inl (b + (n : Int))) (fun s => (((s.1.length : Nat) : Int) - s.2.2).toNat) (by
      rintro s ⟨k, rfl, hk⟩
      unfold heldIB
      by_cases hlt : k < n
      · left
        have hd : decide ((k : Int) < (((markI b n).length : Nat) : Int)) = true := by rw [hlen]; simpa using hlt
        have e1 : (markI b n)[k]? = some (b + (k : Int)) := by unfold markI; rw [List.getElem?_map, List.getElem?_range hlt]; rfl
        refine ⟨(markI b n, b + ((k + 1 : Nat) : Int), ((k + 1 : Nat) : Int)), ?_, ⟨k + 1, rfl, hlt⟩, by simp only; omega⟩
        simp only [hd, cond_true, getI_nat, e1, Option.bind_some, wrap1 (show k < 4611686018427387904 by omega), bne_self_eq_false, cond_false]
        rw [wrapI (by omega) (by omega)]
        simp [Int.add_assoc]
      · right
        have hkl : k = n := by omega
        subst hkl
        have hd : decide ((k : Int) < (((markI b k).length : Nat) : Int)) = false := by rw [hlen]; simp
        exact ⟨_, by simp only [hd, cond_false], rfl⟩)
    (markI b n, b, 0) ⟨0, by simp, by omega⟩
  rw [h1, h2]

theorem markP_loop {l : List (Int × Int)} {b : Int} (hl : l.length < 1099511627776) (hb0 : 0 ≤ b) (hb : b < 1099511627776) : loopM markPB (l, b, 0) = some (markP b l.length, b + 2 * l.length) := by
  obtain ⟨r, h1, h2⟩ := loop_one (f := markPB) (I := fun s => ∃ (k : Nat) (acc : List (Int × Int)), s = (acc, b + 2 * (k : Int), (k : Int)) ∧ k ≤ l.length ∧ acc.length = l.length ∧ ∀ j : Nat, j < k → acc[j]? = some (b + 2 * (j : Int), b + 2 * (j : Int) + 1)) (R := fun r => r = (markP b l.length, b + 2 * (l.length : Int))) (fun s => (((s.1.length : Nat) : Int) - s.2.2).toNat) (by
      rintro s ⟨k, acc, rfl, hk, hacc, hj⟩
      unfold markPB
      by_cases hlt : k < l.length
      · left
        have hd : decide ((k : Int) < ((acc.length : Nat) : Int)) = true := by rw [hacc]; simpa using hlt
        have e2 : getN acc k = some acc[k] := List.getElem?_eq_getElem (by omega)
        generalize acc[k] = a at e2
        have e3 : getN (acc.set k (b + 2 * (k : Int), a.2)) k = some (b + 2 * (k : Int), a.2) := by unfold getN; rw [List.getElem?_set_self (by omega)]
        refine ⟨(acc.set k (b + 2 * (k : Int), b + 2 * (k : Int) + 1), b + 2 * ((k + 1 : Nat) : Int), ((k + 1 : Nat) : Int)), ?_, ⟨k + 1, _, rfl, hlt, by simp [hacc], fun j hj' => ?_⟩, ?_⟩
        · simp only [hd, cond_true, idxI_nat (show k < acc.length by omega), Option.bind_some, e2, e3, wrap1 (show k < 4611686018427387904 by omega), List.length_set, List.set_set]
          rw [show IntKind.wrap .i64 (b + 2 * (k : Int) + 1) = b + 2 * (k : Int) + 1 from wrapI (by omega) (by omega), show IntKind.wrap .i64 (b + 2 * (k : Int) + 1 + 1) = b + 2 * ((k + 1 : Nat) : Int) by rw [wrapI (by omega) (by omega)]; omega]
        · rw [List.getElem?_set]
          by_cases hjk : k = j
          · subst hjk; rw [if_pos rfl, if_pos (by omega)]
          · rw [if_neg hjk]; exact hj j (by omega)
        · simp only [List.length_set]; omega
      · right
        have hkl : k = l.length := by omega
        subst hkl
        have hd : decide ((l.length : Int) < ((acc.length : Nat) : Int)) = false := by rw [hacc]; simp
        refine ⟨(acc, b + 2 * (l.length : Int)), by simp only [hd, cond_false], ?_⟩
        congr 1
        apply List.ext_getElem?
        intro j
        unfold markP
        by_cases hjl : j < l.length
        · rw [hj j hjl, List.getElem?_map, List.getElem?_range hjl]; rfl
        · rw [List.getElem?_eq_none (by omega), List.getElem?_eq_none (by simp; omega)])
    (l, b, 0) ⟨0, l, by simp, by omega, rfl, fun j hj => by omega⟩
  rw [h1, h2]

theorem heldP_loop {n : Nat} {b : Int} (hl : n < 1099511627776) (hb0 : 0 ≤ b) (hb : b < 1099511627776) : loopM heldPB (markP b n, b, 0) = some (.inl (b + 2 * n)) := by
  have hlen : (markP b n).length = n := by simp [markP]
  obtain ⟨r, h1, h2⟩ := loop_one (f := heldPB) (I := fun s => ∃ (k : Nat), s = (markP b n, b + 2 * (k : Int), (k : Int)) ∧ k ≤ n) (R := fun r => r = .inl (b + 2 * (n : Int))) (fun s => (((s.1.length : Nat) : Int) - s.2.2).toNat) (by
      rintro s ⟨k, rfl, hk⟩
      unfold heldPB
      by_cases hlt : k < n
      · left
        have hd : decide ((k : Int) < (((markP b n).length : Nat) : Int)) = true := by rw [hlen]; simpa using hlt
        have e1 : (markP b n)[k]? = some (b + 2 * (k : Int), b + 2 * (k : Int) + 1) := by unfold markP; rw [List.getElem?_map, List.getElem?_range hlt]; rfl
        refine ⟨(markP b n, b + 2 * ((k + 1 : Nat) : Int), ((k + 1 : Nat) : Int)), ?_, ⟨k + 1, rfl, hlt⟩, by simp only; omega⟩
        simp only [hd, cond_true, getI_nat, e1, Option.bind_some, wrap1 (show k < 4611686018427387904 by omega), bne_self_eq_false, cond_false]
        rw [show IntKind.wrap .i64 (b + 2 * (k : Int) + 1) = b + 2 * (k : Int) + 1 from wrapI (by omega) (by omega), show IntKind.wrap .i64 (b + 2 * (k : Int) + 1 + 1) = b + 2 * ((k + 1 : Nat) : Int) by rw [wrapI (by omega) (by omega)]; omega]
        simp only [bne_self_eq_false, cond_false]
      · right
        have hkl : k = n := by omega
        subst hkl
        have hd : decide ((k : Int) < (((markP b k).length : Nat) : Int)) = false := by rw [hlen]; simp
        exact ⟨_, by simp only [hd, cond_false], rfl⟩)
    (markP b n, b, 0) ⟨0, by simp, by omega⟩
  rw [h1, h2]
end

theorem appL_is {β : Type} {b s : Nat} {l m : List β} (h1 : (l.length + m.length) * b ≤ maxBytes) (h2 : (l.length + m.length) * s ≤ maxBytes) : appL b s l m = some (l ++ m) := by
  unfold appL
  rw [if_pos ⟨h1, h2⟩]
end Go.Proofs.Ytohhlnabfcbknaa.Ev
end

/-! #### EvC -/
section
/- slices.Clone: it asks whether its slice is nil. -/
namespace Go.Proofs.Ytohhlnabfcbknaa.Ev
open Go
set_option linter.unusedVariables false
set_option linter.unusedSimpArgs false

variable {P : Program} {J : Tabs}

def nilS : Value := .slice none 0 0
/-- The body of slices.Clone, at a type of slices. -/
def cloneBody (t tb : TypeId) : Code :=
  .seq (.region 0 #[⟨some 2, .assign (.const nilS), t, "slices.go:355", #[], none⟩] false)
    (.seq (.seq (.region 1 #[⟨some 3, .move (.tmp 0), t, "slices.go:357", #[], none⟩, ⟨some 4, .binOp .eql t (.tmp 3) (.const nilS) t, tb, "slices.go:357", #[⟨0, .data⟩], none⟩] false)
        (.cond (.tmp 4) (.seq (.region 2 #[⟨some 2, .assign (.const nilS), t, "slices.go:358", #[], none⟩] false) .ret) .skip))
      (.seq (.region 3 #[⟨some 5, .buildSlice t 0 #[], t, "slices.go:362", #[], none⟩, ⟨some 6, .move (.tmp 0), t, "slices.go:362", #[], none⟩,
          ⟨some 7, .call ⟨.builtin .append, #[.tmp 5, .tmp 6], #[t, t]⟩, t, "slices.go:362", #[⟨0, .data⟩, ⟨1, .data⟩], none⟩,
          ⟨some 2, .assign (.tmp 7), t, "slices.go:362", #[⟨2, .data⟩, ⟨2, .chain⟩, ⟨0, .phase⟩, ⟨1, .phase⟩, ⟨2, .phase⟩], none⟩] false) .ret))

/-- How its results are laid. -/
def cfN (e size : Nat) (deep : Bool) : Cfg := { live := fun _ _ => [], out := fun _ _ _ => [], join := fun _ _ => none, res := fun _ => [.one (.own e size deep)], par := fun _ => [(0, .one .keep)], rts := fun _ => [], byref := fun _ => [], isExt := fun _ => false }

theorem clone_nil {g : FuncId} {fn : Func} {t tb e : TypeId} {d de : TyD} (hfn : P.funcs[g]? = some fn) (hb : fn.body = some (cloneBody t tb)) (hok : bodyOK fn (cloneBody t tb) 1 = true) (hr : fn.results.toList = [.tmp 2])
    (hd : tyOf P t = some d) (he : d.elem = some e) (hde : tyOf P e = some de) (hst : isStr P t = false) (a : Option Addr) (c : Nat) :
    Runs P (cfN e de.size (de.zero.all isVB)) (fun _ _ _ _ _ => False) g [.v (.slice a 0 c)] [] (.ar 0 0 0) [arrOf e de.size (de.zero.all isVB) []] := by
  refine Runs.intro rfl hfn hb hok rfl ?_
  rw [hr]
  have hsl : isSl P t = true := by unfold isSl; rw [hd]; simp [he]
  cases a with
  | none =>
    simp [canon, normS, normV, normC, caseO, entry, enum, lk, upd, canon0, close, refs2, refs1, refs0, ren2, ren1, ren0, lkB, blksOf, cloneBody, we, weOps, opAt, isR, weOp, nevT, nilEq, opnd, Ev.put, drawn, ofConst, ofCell, nilS, hsl, meet, caseB, toVal, cfN, outs, rootsOK, resVs, resV, normR, rootVs, outL, out1, idx, renB, arrOf, refsB]
  | some a =>
    simp [canon, normS, normV, normC, caseO, entry, enum, lk, upd, canon0, close, refs2, refs1, refs0, ren2, ren1, ren0, lkB, blksOf, cloneBody, we, weOps, opAt, isR, weOp, nevT, nilEq, opnd, Ev.put, drawn, ofConst, ofCell, nilS, hsl, meet, caseB, toVal, cfN, outs, rootsOK, resVs, resV, normR, rootVs, outL, out1, idx, renB, arrOf, refsB, weBuildSlice, hd, he, hde, weAppend, srcRows, nodupB]

/-- What is known of an instance: the function, its elements' type, their size, whether they are flat. -/
structure CloneOK (P : Program) (x : FuncId × TypeId × Nat × Bool) : Prop where
  ok : ∃ (fn : Func) (t tb : TypeId) (d de : TyD), P.funcs[x.1]? = some fn ∧ fn.body = some (cloneBody t tb) ∧ bodyOK fn (cloneBody t tb) 1 = true ∧ fn.results.toList = [.tmp 2] ∧
    tyOf P t = some d ∧ d.elem = some x.2.1 ∧ tyOf P x.2.1 = some de ∧ isStr P t = false ∧ de.size = x.2.2.1 ∧ de.zero.all isVB = x.2.2.2

theorem clone_spec0 (hm : P.follows .mixedOrders = true) {x : FuncId × TypeId × Nat × Bool} (h : CloneOK P x) {v : V} (hv : v = .em ∨ v = .im []) : CSpec P J x.1 [v] [] (.ar 0 0 0) [arrOf x.2.1 x.2.2.1 x.2.2.2 []] := by
  obtain ⟨fn, t, tb, d, de, h1, h2, h3, h4, h5, h6, h7, h8, h9, h10⟩ := h.ok
  have key : ∀ (a : Option Addr) (c : Nat), CSpec P J x.1 [.v (.slice a 0 c)] [] (.ar 0 0 0) [arrOf x.2.1 x.2.2.1 x.2.2.2 []] := by
    intro a c
    obtain ⟨k, hk⟩ := clone_nil h1 h2 h3 h4 h5 h6 h7 h8 a c
    rw [← h9, ← h10]
    exact runs_spec hm (fun _ _ _ _ _ h => h.elim) k _ _ _ _ _ hk
  refine ⟨(key none 0).enter, fun _ w A E vals hT hI hvl => ?_⟩
  obtain ⟨y, hy⟩ : ∃ y, vals.toList = [y] := by
    match hl : vals.toList with
    | [] => rw [hl] at hvl; exact hvl.elim
    | [y] => exact ⟨y, rfl⟩
    | _ :: _ :: _ => rw [hl] at hvl; exact hvl.2.elim
  rw [hy] at hvl
  have hv1 := hvl.1
  obtain ⟨a, c, hyc⟩ : ∃ a c, y = .slice a 0 c := by
    rcases hv with rfl | rfl
    · have hv1 : Rep w A .em y := hv1
      cases hv1 with
      | em a => exact ⟨a, 0, rfl⟩
    · have hv1 : Rep w A (.im []) y := hv1
      cases hv1 with
      | im0 a c => exact ⟨a, c, rfl⟩
      | im b off cap => exact ⟨some ⟨b, off, none⟩, cap, rfl⟩
  subst hyc
  have hk := (key a c).calls rfl w A E vals hT hI (by rw [hy]; exact ⟨.v _ rfl, trivial⟩)
  refine hk.mono fun e w' he => ?_
  obtain ⟨y', E', G', q1, q2, q3, q4⟩ := he
  refine ⟨y', E', G', q1, q2, q3, fun j hj => ?_⟩
  rcases hv with rfl | rfl <;> simp [refs1, refs0] at hj

/-- The contracts of slices.Clone: what the evaluator finds of slices that are not empty, and the empty ones. -/
def cloneRel (Rc : Rel) (tab : List (FuncId × TypeId × Nat × Bool)) : Rel := fun g args blks r blks' =>
  Rc g args blks r blks' ∨ ∃ x ∈ tab, g = x.1 ∧ (args = [.em] ∨ args = [.im []]) ∧ blks = [] ∧ r = .ar 0 0 0 ∧ blks' = [arrOf x.2.1 x.2.2.1 x.2.2.2 []]

theorem cloneRel_spec {cf : Cfg} {tab : List (FuncId × TypeId × Nat × Bool)} (hm : P.follows .mixedOrders = true) (ht : ∀ x ∈ tab, CloneOK P x) :
    ∀ g args blks r blks', cloneRel (Runs P cf fun _ _ _ _ _ => False) tab g args blks r blks' → CSpec P J g args blks r blks' := by
  intro g args blks r blks' h
  rcases h with ⟨k, hk⟩ | ⟨x, hx, rfl, ha, rfl, rfl, rfl⟩
  · exact runs_spec hm (fun _ _ _ _ _ h => h.elim) k _ _ _ _ _ hk
  · rcases ha with rfl | rfl
    · exact clone_spec0 hm (ht x hx) (.inl rfl)
    · exact clone_spec0 hm (ht x hx) (.inr rfl)

theorem dec_im {t : Ty} {st : TSt} {x : denI [.slot 0 (.cell (.im t))]} (h : decSt 0 [.slot 0 (.cell (.im t))] st = some x) : asLh st.hp t (getV st.tm 0) = some (show List t.den from x) := by
  unfold decSt at h
  split at h
  case isFalse => cases h
  simp only [keepT, blksI, tmS, tmC, tnS, tnV, tnC] at h
  cases ha : asLh st.hp t (getV st.tm 0) with
  | none => rw [ha] at h; cases h
  | some l =>
    rw [ha] at h
    simp only [Nat.zero_le, Nat.ble_eq, if_true] at h
    have hc : ∀ c, canonT 0 (slotsI [.slot 0 (.cell (.im t))]) { tm := (0, .im t l) :: st.tm, hp := freezeT st.hp (frV (getV st.tm 0)), c := c } = some { tm := [(0, .im t l)], hp := [], c := 1 } := fun c => rfl
    rw [hc] at h
    simp only [rdI, rdS, rdC, Nat.beq_refl, if_true, dite_true] at h
    rw [← Option.some.inj h]
    rfl

/-- What is done with a list that is not empty; the empty one is handed back. -/
def orNil {α β : Type} (F : List α → Option (List β)) (l : List α) : Option (List β) := match l with | [] => some [] | a :: l => F (a :: l)

theorem clone_ent {cf : Cfg} {Rc : Rel} {tab : List (FuncId × TypeId × Nat × Bool)} {g : FuncId} {e : TypeId} {deep : Bool} {t : Ty} {heads joins : List (Nat × List Item)} {outs : List (Nat × List (Ex × List Item))} {F : List t.den → Option (List t.den)}
    (h : EntOK Rc ⟨⟨g, 0, [.slot 0 (.cell (.im t))], [.blk (.arr e deep t), .slot 0 (.ref 0 false)], heads, outs, joins⟩, F⟩) (hmem : (g, e, t.size, deep) ∈ tab) :
    EntOK (Runs P cf (cloneRel Rc tab)) ⟨⟨g, 0, [.slot 0 (.cell (.im t))], [.blk (.arr e deep t), .slot 0 (.ref 0 false)], heads, outs, joins⟩, fun l => orNil F l⟩ := by
  intro x y args blks st hF hs hd hid hlen href hb0
  have ha := dec_im hd
  cases hx : (show List t.den from x) with
  | cons a l =>
    have hx' : x = (show denI [.slot 0 (.cell (.im t))] from (a :: l : List t.den)) := hx
    subst hx'
    obtain ⟨r, blks', q1, q2⟩ := h _ y args blks st hF hs hd hid hlen href hb0
    exact ⟨r, blks', Runs.ext (.inl q1), q2⟩
  | nil =>
    have hx' : x = (show denI [.slot 0 (.cell (.im t))] from ([] : List t.den)) := hx
    subst hx'
    have hy : y = (show denI [.blk (.arr e deep t), .slot 0 (.ref 0 false)] from ([] : List t.den)) := (Option.some.inj hF).symm
    subst hy
    -- what is handed in
    obtain ⟨v, rfl⟩ : ∃ v, args = [v] := by
      match args, hlen with
      | [v], _ => exact ⟨v, rfl⟩
    have hrefs : ([v] : List V).flatMap refs1 = [] := by
      cases hr : ([v] : List V).flatMap refs1 with
      | nil => rfl
      | cons i l => rw [hr] at href; simp [List.eraseDups_cons] at href
    have hv := hs.tm 0
    have hv : RV2 st.hp (getV st.tm 0) v := hv
    have hcase : v = .em ∨ v = .im [] := by
      generalize getV st.tm 0 = u at ha hv
      cases u with
      | em => exact .inl hv
      | im t' l =>
        simp only [asLh, asL] at ha
        rcases hv with ⟨_, hv⟩ | ⟨rows, hv, hl⟩
        · exact .inl hv
        · split at ha
          · rename_i ht
            subst ht
            have h0 : l = [] := by have := Option.some.inj ha; exact this
            subst h0
            have : rows = [] := List.eq_nil_of_length_eq_zero (by have := hl.1; simpa using this)
            subst this
            exact .inr hv
          · cases ha
      | ow id =>
        obtain ⟨n, rfl, _⟩ := hv
        simp [refs1, refs0] at hrefs
      | ar id lo n =>
        have hv : v = .ar id lo n := hv
        subst hv
        simp [refs1, refs0] at hrefs
      | _ => simp [asLh, asL] at ha
    have hblks : blks = [] := hb0 rfl
    subst hblks
    refine ⟨.ar 0 0 0, [arrOf e t.size deep []], Runs.ext (.inr ⟨_, hmem, rfl, ?_, rfl, rfl, rfl⟩), ?_, ?_, rfl⟩
    · rcases hcase with rfl | rfl
      · exact .inl rfl
      · exact .inr rfl
    · exact ⟨0, rfl, fun b hb => by cases hb; rfl⟩
    · intro id b hb
      have hb : getB [(0, some (TB.arr e deep t []))] id = some b := hb
      simp only [getB] at hb
      cases hi : Nat.beq id 0 with
      | false => rw [hi] at hb; cases hb
      | true =>
        rw [hi] at hb
        have hb : some (TB.arr e deep t []) = some b := hb
        cases hb
        have : id = 0 := Nat.eq_of_beq_eq_true hi
        subst this
        exact ⟨_, rfl, rfl, rfl, rfl, rfl, RLx.nil⟩
end Go.Proofs.Ytohhlnabfcbknaa.Ev
end
