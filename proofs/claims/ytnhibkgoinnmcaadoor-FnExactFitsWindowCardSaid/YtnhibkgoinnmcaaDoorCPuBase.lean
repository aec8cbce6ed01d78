/- Plain words for the typed texts: loops over lists, numbers that do not turn over, the cursor of the draws. -/
import Derived.Test.YtnhibkgoinnmcaaDoorEvMe
namespace Go.Proofs.YtnhibkgoinnmcaaDoor.Ev
open Go
set_option linter.unusedVariables false
set_option linter.unusedSimpArgs false
set_option linter.unusedSectionVars false

section
variable {α β σ ρ : Type} {body : σ → Option (σ ⊕ ρ)}
/-- A loop over a list: what is kept turns with each element; it may end early. -/
theorem fold_loop {l : List α} (st : Nat → β → σ) (step : β → α → β) (fin : β → ρ) (I : Nat → β → Prop)
    (hgo : ∀ k b a, l[k]? = some a → I k b → body (st k b) = some (.inl (st (k + 1) (step b a))) ∧ I (k + 1) (step b a))
    (hend : ∀ b, I l.length b → body (st l.length b) = some (.inr (fin b))) (b : β) (h0 : I 0 b) :
    loopM body (st 0 b) = some (fin (l.foldl step b)) ∧ I l.length (l.foldl step b) := by
  have key : ∀ (n k : Nat) (b : β), k + n = l.length → I k b → loopM body (st k b) = some (fin ((l.drop k).foldl step b)) ∧ I l.length ((l.drop k).foldl step b) := by
    intro n
    induction n with
    | zero =>
      intro k b hk hI
      have : k = l.length := by omega
      subst this
      rw [List.drop_length]
      exact ⟨loop_end (hend b hI), hI⟩
    | succ n ih =>
      intro k b hk hI
      have hlt : k < l.length := by omega
      have hd : l.drop k = l[k] :: l.drop (k + 1) := List.drop_eq_getElem_cons hlt
      have he : l[k]? = some l[k] := List.getElem?_eq_getElem hlt
      obtain ⟨h1, h2⟩ := hgo k b _ he hI
      rw [hd, List.foldl_cons, loop_go h1]
      exact ih (k + 1) _ (by omega) h2
  have := key l.length 0 b (by omega) h0
  rwa [List.drop_zero] at this

/-- A walk over a list that ends early where a step says so. -/
def foldX (step : β → α → ρ ⊕ β) : β → List α → ρ ⊕ β
  | b, [] => .inr b
  | b, a :: l => match step b a with | .inl r => .inl r | .inr b' => foldX step b' l

theorem try_loop {l : List α} (st : Nat → β → σ) (step : β → α → ρ ⊕ β) (fin : β → ρ) (I : Nat → β → Prop)
    (hgo : ∀ k b a, l[k]? = some a → I k b → (∃ b', step b a = .inr b' ∧ body (st k b) = some (.inl (st (k + 1) b')) ∧ I (k + 1) b') ∨ ∃ r, step b a = .inl r ∧ body (st k b) = some (.inr r))
    (hend : ∀ b, I l.length b → body (st l.length b) = some (.inr (fin b))) (b : β) (h0 : I 0 b) :
    loopM body (st 0 b) = some (Sum.elim id fin (foldX step b l)) ∧ ∀ b', foldX step b l = .inr b' → I l.length b' := by
  have key : ∀ (n k : Nat) (b : β), k + n = l.length → I k b → loopM body (st k b) = some (Sum.elim id fin (foldX step b (l.drop k))) ∧ ∀ b', foldX step b (l.drop k) = .inr b' → I l.length b' := by
    intro n
    induction n with
    | zero =>
      intro k b hk hI
      have : k = l.length := by omega
      subst this
      rw [List.drop_length]
      exact ⟨loop_end (hend b hI), fun b' h => by cases h; exact hI⟩
    | succ n ih =>
      intro k b hk hI
      have hlt : k < l.length := by omega
      have hd : l.drop k = l[k] :: l.drop (k + 1) := List.drop_eq_getElem_cons hlt
      have he : l[k]? = some l[k] := List.getElem?_eq_getElem hlt
      rw [hd]
      unfold foldX
      rcases hgo k b _ he hI with ⟨b', h1, h2, h3⟩ | ⟨r, h1, h2⟩
      · rw [h1, loop_go h2]
        exact ih (k + 1) _ (by omega) h3
      · rw [h1]
        exact ⟨loop_end h2, fun b' h => by cases h⟩
  have := key l.length 0 b (by omega) h0
  rwa [List.drop_zero] at this

/-- A loop that counts down. -/
theorem down_loop (st : Nat → β → σ) (fin : β → ρ) (I : Nat → β → Prop)
    (hgo : ∀ n b, I (n + 1) b → ∃ b', body (st (n + 1) b) = some (.inl (st n b')) ∧ I n b')
    (hend : ∀ b, I 0 b → body (st 0 b) = some (.inr (fin b))) : ∀ n b, I n b → ∃ b', loopM body (st n b) = some (fin b') ∧ I 0 b' := by
  intro n
  induction n with
  | zero => intro b h; exact ⟨b, loop_end (hend b h), h⟩
  | succ n ih =>
    intro b h
    obtain ⟨b1, h1, h2⟩ := hgo n b h
    obtain ⟨b2, h3, h4⟩ := ih b1 h2
    exact ⟨b2, by rw [loop_go h1, h3], h4⟩
end

/-- A loop that counts up. -/
theorem up_loop {β σ ρ : Type} {body : σ → Option (σ ⊕ ρ)} (st : Nat → β → σ) (fin : β → ρ) (I : Nat → β → Prop) (e : Nat)
    (hgo : ∀ k b, k < e → I k b → ∃ b', body (st k b) = some (.inl (st (k + 1) b')) ∧ I (k + 1) b')
    (hend : ∀ b, I e b → body (st e b) = some (.inr (fin b))) : ∀ k b, k ≤ e → I k b → ∃ b', loopM body (st k b) = some (fin b') ∧ I e b' := by
  have key : ∀ (n k : Nat) (b : β), k + n = e → I k b → ∃ b', loopM body (st k b) = some (fin b') ∧ I e b' := by
    intro n
    induction n with
    | zero =>
      intro k b hk hI
      have : k = e := by omega
      subst this
      exact ⟨b, loop_end (hend b hI), hI⟩
    | succ n ih =>
      intro k b hk hI
      obtain ⟨b1, h1, h2⟩ := hgo k b (by omega) hI
      obtain ⟨b2, h3, h4⟩ := ih (k + 1) b1 (by omega) h2
      exact ⟨b2, by rw [loop_go h1, h3], h4⟩
  intro k b hk hI
  exact key (e - k) k b (by omega) hI

/-- What is done for each number from one on. -/
def upto {β : Type} (step : Int → β → β) (a : Int) : Nat → β → β
  | 0, b => b
  | n + 1, b => upto step (a + 1) n (step a b)

theorem upto_loop {β σ ρ : Type} {body : σ → Option (σ ⊕ ρ)} (st : Int → β → σ) (step : Int → β → β) (fin : β → ρ) (I : Int → β → Prop) (e : Int)
    (hgo : ∀ k b, k ≤ e → I k b → body (st k b) = some (.inl (st (k + 1) (step k b))) ∧ I (k + 1) (step k b))
    (hend : ∀ b, I (e + 1) b → body (st (e + 1) b) = some (.inr (fin b))) : ∀ a b, a ≤ e + 1 → I a b → loopM body (st a b) = some (fin (upto step a (e + 1 - a).toNat b)) := by
  have key : ∀ (n : Nat) (a : Int) (b : β), a + n = e + 1 → I a b → loopM body (st a b) = some (fin (upto step a n b)) := by
    intro n
    induction n with
    | zero =>
      intro a b ha hI
      have : a = e + 1 := by omega
      subst this
      exact loop_end (hend b hI)
    | succ n ih =>
      intro a b ha hI
      obtain ⟨h1, h2⟩ := hgo a b (by omega) hI
      rw [loop_go h1]
      exact ih (a + 1) _ (by omega) h2
  intro a b ha hI
  exact key _ a b (by omega) hI

/-- A part of a text that does not end it. -/
theorem bind_inr {α β γ : Type} {X : Option (α ⊕ β)} {f : α → Option γ} {g : β → Option γ} {v : β} {r : Option γ} (h : X = some (.inr v)) (h2 : g v = r) : X.bind (fun t => Sum.elim f g t) = r := by
  rw [h]; exact h2

/-- A number of 64 bits. -/
def I64 (n : Int) : Prop := -9223372036854775808 ≤ n ∧ n ≤ 9223372036854775807

theorem wrapU {n : Int} (h1 : 0 ≤ n) (h2 : n < 18446744073709551616) : IntKind.wrap .u64 n = n := by rw [IntKind.wrap_u64]; omega
theorem wrapU' (n : Int) : 0 ≤ IntKind.wrap .u64 n ∧ IntKind.wrap .u64 n < 18446744073709551616 := by rw [IntKind.wrap_u64]; omega

/-- A list whose length is no matter. -/
def Short {α : Type} (l : List α) : Prop := l.length < 1099511627776
theorem getL {α : Type} {l : List α} {k : Nat} {a : α} (h : l[k]? = some a) : k < l.length := (List.getElem?_eq_some_iff.1 h).1

/-! ### the cursor -/
/-- A cursor over bytes that has made so many steps at most. -/
structure Cur (B : Nat) (c : List Int × Int × Int) : Prop where
  bytes : ∀ b ∈ c.1, 0 ≤ b ∧ b ≤ 255
  short : c.1.length ≤ 1048576
  lo : 0 ≤ c.2.1
  hi : c.2.1 ≤ (B : Int)
  seed0 : 0 ≤ c.2.2
  seed1 : c.2.2 < 18446744073709551616

theorem Cur.start {l : List Int} (h : ∀ b ∈ l, 0 ≤ b ∧ b ≤ 255) (hl : l.length ≤ 1048576) : Cur 0 (l, 0, 0) := ⟨h, hl, by simp, by simp, by simp, by simp⟩
theorem Cur.mono {B B' : Nat} {c : List Int × Int × Int} (h : Cur B c) (hb : B ≤ B') : Cur B' c := ⟨h.bytes, h.short, h.lo, by have := h.hi; omega, h.seed0, h.seed1⟩
end Go.Proofs.YtnhibkgoinnmcaaDoor.Ev
