/- Texts that are cut at one byte, and put together. -/
import Derived.Test.YtnhibkgoinnmcaaDoorCPuCopy
import Derived.Test.YtnhibkgoinnmcaaDoorEvMe
import Derived.Lib.Split
import Derived.Lib.SplitLaws
import Derived.Lib.IndexMore
import Derived.Lib.Join
namespace Go.Proofs.YtnhibkgoinnmcaaDoor.Ev
open Go
set_option linter.unusedVariables false
set_option linter.unusedSimpArgs false
set_option linter.unusedSectionVars false

theorem index_cons (b c : UInt8) (l : Str) : Lib.index (b :: l) [c] = if b = c then 0 else if Lib.index l [c] = -1 then -1 else Lib.index l [c] + 1 := by
  rw [Lib.index]
  have : ([c] : Str).isPrefixOf (b :: l) = (c == b) := by simp [List.isPrefixOf]
  rw [this]
  by_cases h : b = c
  · subst h; simp
  · rw [if_neg (show ¬ (c == b) = true by simpa using Ne.symm h), if_neg h]
    by_cases h2 : Lib.index l [c] = -1
    · simp [h2]
    · rw [if_neg (by simpa using h2), if_neg h2]
theorem index_none {c : UInt8} : ∀ {s : Str}, c ∉ s → Lib.index s [c] = -1
  | [], _ => by rw [Lib.index]; rfl
  | b :: l, h => by
    rw [index_cons, if_neg (fun e => h (by rw [e]; simp)), if_pos (index_none (fun hm => h (List.mem_cons_of_mem _ hm)))]
theorem index_some {c : UInt8} : ∀ {x r : Str}, c ∉ x → Lib.index (x ++ c :: r) [c] = (x.length : Nat)
  | [], r, _ => by rw [List.nil_append, index_cons, if_pos rfl]; rfl
  | b :: x, r, h => by
    have ih := index_some (r := r) (fun hm : c ∈ x => h (List.mem_cons_of_mem _ hm))
    rw [List.cons_append, index_cons, if_neg (fun e => h (by rw [e]; simp)), ih, if_neg (by omega), List.length_cons]
    omega
theorem cut_at (c : UInt8) (s : Str) : c ∉ s ∨ ∃ x r, s = x ++ c :: r ∧ c ∉ x := by
  by_cases h : c ∈ s
  · right
    induction s with
    | nil => exact absurd h List.not_mem_nil
    | cons b l ih =>
      by_cases hb : b = c
      · subst hb; exact ⟨[], l, rfl, List.not_mem_nil⟩
      · have hm : c ∈ l := by
          rcases List.mem_cons.1 h with rfl | h
          · exact absurd rfl hb
          · exact h
        obtain ⟨x, r, h1, h2⟩ := ih hm
        refine ⟨b :: x, r, by rw [h1, List.cons_append], fun h3 => ?_⟩
        rcases List.mem_cons.1 h3 with rfl | h3
        · exact hb rfl
        · exact h2 h3
  · exact .inl h

theorem cut_none {c : UInt8} {s : Str} (h : c ∉ s) : Lib.cut s [c] = (s, [], false) := by
  unfold Lib.cut
  rw [index_none h, if_neg (by omega)]
theorem cut_some {c : UInt8} {x r : Str} (h : c ∉ x) : Lib.cut (x ++ c :: r) [c] = (x, r, true) := by
  unfold Lib.cut
  rw [index_some h, if_pos (by omega)]
  simp

/-- The parts of a text between the bytes c. -/
def parts (c : UInt8) (s : Str) : List Str := Lib.split s [c]
theorem parts_none {c : UInt8} {s : Str} (h : c ∉ s) : parts c s = [s] := by
  unfold parts Lib.split
  rw [Lib.count_miss (index_none h)]
  rfl
theorem parts_some {c : UInt8} {x r : Str} (h : c ∉ x) : parts c (x ++ c :: r) = x :: parts c r := by
  unfold parts Lib.split
  have e : List.drop (x.length + ([c] : Str).length) (x ++ c :: r) = r := by simp
  rw [Lib.count_hit (by simp) (index_some h), e, Nat.add_comm, Lib.splitK, index_some h, if_neg (by simp), Int.toNat_natCast, Nat.add_zero, e]
  simp
theorem parts_ne (c : UInt8) (s : Str) : parts c s ≠ [] := by
  rcases cut_at c s with h | ⟨x, r, rfl, h⟩
  · rw [parts_none h]; simp
  · rw [parts_some h]; simp
theorem parts_len {c : UInt8} : ∀ (n : Nat) (s : Str), s.length ≤ n → ∀ p ∈ parts c s, p.length ≤ s.length := by
  intro n
  induction n with
  | zero =>
    intro s hs p hp
    have : s = [] := List.eq_nil_of_length_eq_zero (by omega)
    subst this
    rw [parts_none (by simp)] at hp
    cases List.mem_singleton.1 hp
    exact Nat.le_refl _
  | succ n ih =>
    intro s hs p hp
    rcases cut_at c s with h | ⟨x, r, rfl, h⟩
    · rw [parts_none h] at hp
      cases List.mem_singleton.1 hp
      exact Nat.le_refl _
    · rw [parts_some h] at hp
      rw [List.length_append, List.length_cons] at hs ⊢
      rcases List.mem_cons.1 hp with rfl | hp
      · omega
      · have := ih r (by omega) p hp
        omega
theorem parts_join {c : UInt8} : ∀ (xs : List Str), xs ≠ [] → (∀ x ∈ xs, c ∉ x) → parts c (Lib.join xs [c]) = xs
  | [], h, _ => absurd rfl h
  | [x], _, h => by rw [Lib.join_one, parts_none (h x (by simp))]
  | x :: y :: r, _, h => by
    have ih := parts_join (c := c) (y :: r) (by simp) (fun z hz => h z (List.mem_cons_of_mem _ hz))
    have e : Lib.join (x :: y :: r) [c] = x ++ c :: Lib.join (y :: r) [c] := by
      rw [Lib.join_cons, Lib.join_cons]
      simp [Lib.joinTail]
    rw [e, parts_some (h x (by simp)), ih]

theorem splitS_is (s : Str) (c : UInt8) : splitS s [c] = parts c s := by
  unfold splitS parts Lib.split
  exact Lib.splitB_data ⟨#[c]⟩ 0 _ ⟨s.toArray⟩
theorem split_is {s : Str} {c : UInt8} (h : s.length < 4294967281) : F_split s [c] = some (parts c s) := by
  unfold F_split
  rw [if_pos ⟨h, by simp⟩, splitS_is]
end Go.Proofs.YtnhibkgoinnmcaaDoor.Ev
