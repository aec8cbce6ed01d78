/- Loops that copy a list, element by element, or compare two (the list that is made stands first). -/
import Derived.Test.YtnhibkgoinnmcaaDoorCPuBase
namespace Go.Proofs.YtnhibkgoinnmcaaDoor.Ev
open Go
set_option linter.unusedVariables false
set_option linter.unusedSimpArgs false
variable {α β γ : Type}
theorem obs {α β : Type} (a : α) (f : α → Option β) : (some a).bind f = f a := (rfl)
theorem cT {α : Type} (a b : α) : (bif true then a else b) = a := (rfl)
theorem cF {α : Type} (a b : α) : (bif false then a else b) = b := (rfl)
theorem nT : (!true) = false := (rfl)
theorem nF : (!false) = true := (rfl)
theorem catS_is {s t : Str} (h : s.length + t.length ≤ 9223372036854775807) : catS s t = some (s ++ t) := by unfold catS; rw [if_pos h]

/-- A list that is made in its place, element by element. -/
theorem put_loop {body : List γ × List α × Int → Option ((List γ × List α × Int) ⊕ List γ)} {g : α → γ} {z : γ} {l : List α} (hl : l.length < 4611686018427387904)
    (hgo : ∀ (k : Nat) (a : α) (acc : List γ), l[k]? = some a → acc.length = l.length → body (acc, l, (k : Int)) = some (.inl (acc.set k (g a), l, ((k + 1 : Nat) : Int))))
    (hend : ∀ acc : List γ, body (acc, l, (l.length : Int)) = some (.inr acc)) :
    loopM body (List.replicate l.length z, l, 0) = some (l.map g) := by
  have key : ∀ (n k : Nat) (acc : List γ), k + n = l.length → acc.length = l.length → acc.take k = (l.take k).map g → loopM body (acc, l, (k : Int)) = some (l.map g) := by
    intro n
    induction n with
    | zero =>
      intro k acc hk ha ht
      have : k = l.length := by omega
      subst this
      rw [loop_end (hend acc)]
      rw [← ha, List.take_length, ha, List.take_length] at ht
      rw [ht]
    | succ n ih =>
      intro k acc hk ha ht
      have hlt : k < l.length := by omega
      have e1 : l[k]? = some l[k] := List.getElem?_eq_getElem hlt
      rw [loop_go (hgo k _ acc e1 ha)]
      refine ih (k + 1) _ (by omega) (by simp [ha]) ?_
      rw [List.take_add_one, List.take_add_one, List.map_append, ← ht, List.getElem?_set_self (by omega), e1, List.take_set_of_le (Nat.le_refl k)]
      rfl
  exact key l.length 0 _ (by omega) (by simp) rfl
end Go.Proofs.YtnhibkgoinnmcaaDoor.Ev
