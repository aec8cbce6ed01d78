/- Texts that are joined. -/
import Derived.Test.YtnhibkgoinnmcaaDoorCPuCopy
import Derived.Test.YtnhibkgoinnmcaaDoorCLawFnExactPrintPath
import Derived.Lib.Join
namespace Go.Proofs.YtnhibkgoinnmcaaDoor.Ev
open Go
set_option linter.unusedVariables false
set_option linter.unusedSimpArgs false
set_option linter.unusedSectionVars false

theorem join_snoc (xs : List Str) (x sep : Str) : Lib.join (xs ++ [x]) sep = if xs = [] then x else Lib.join xs sep ++ (sep ++ x) := by
  cases xs with
  | nil => rw [if_pos rfl, List.nil_append, Lib.join_one]
  | cons y ys =>
    rw [if_neg (by simp), List.cons_append, Lib.join_cons, Lib.join_cons]
    simp [Lib.joinTail]
theorem join_len {c : Nat} : ∀ {xs : List Str}, (∀ x ∈ xs, x.length ≤ c) → ∀ b, (Lib.join xs [b]).length ≤ (c + 1) * xs.length
  | [], _, b => by simp [Lib.join_nil]
  | x :: xs, h, b => by
    rw [Lib.join_cons]
    have ht : ∀ ys : List Str, (∀ y ∈ ys, y.length ≤ c) → (Lib.joinTail [b] ys).length ≤ (c + 1) * ys.length := by
      intro ys
      induction ys with
      | nil => intro _; simp [Lib.joinTail]
      | cons y ys ih =>
        intro hy
        have h1 := ih (fun z hz => hy z (List.mem_cons_of_mem _ hz))
        have h2 := hy y (List.mem_cons_self ..)
        simp only [Lib.joinTail, List.map_cons, List.flatten_cons, List.length_append, List.length_cons, List.length_nil] at h1 ⊢
        rw [Nat.mul_add]
        omega
    have h1 := ht xs (fun z hz => h z (List.mem_cons_of_mem _ hz))
    have h2 := h x (List.mem_cons_self ..)
    rw [List.length_append, List.length_cons, Nat.mul_add]
    omega

theorem l_Join {l : List Str} {sep : Str} (h1 : l.length ≤ 140737488355328) (h2 : (Lib.join l sep).length ≤ 140737488355328) : F_strings_Join l sep = some (Lib.join l sep) := by
  unfold F_strings_Join F_join
  rw [if_pos ⟨h1, h2⟩]

end Go.Proofs.YtnhibkgoinnmcaaDoor.Ev
