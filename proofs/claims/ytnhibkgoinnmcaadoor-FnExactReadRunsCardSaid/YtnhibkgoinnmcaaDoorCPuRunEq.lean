/- Rows of runs that are compared. -/
import Derived.Test.YtnhibkgoinnmcaaDoorCPuCopy
import Derived.Test.YtnhibkgoinnmcaaDoorCLawFnExactReadRuns
namespace Go.Proofs.YtnhibkgoinnmcaaDoor.Ev
open Go
set_option linter.unusedVariables false
abbrev Rq := Int × Int
theorem l_eqRun (a b : Rq) : F_l_eqRun a b = some (decide (a = b)) := by
  obtain ⟨a1, a2⟩ := a
  obtain ⟨b1, b2⟩ := b
  unfold F_l_eqRun
  by_cases h1 : a1 = b1 <;> by_cases h2 : a2 = b2 <;> simp [h1, h2, bne, beq_eq_false_iff_ne.2]
theorem l_eqRunS {l m : List Rq} (hl : l.length < 4611686018427387904) : F_l_eqRunS l m = some (decide (l = m)) := by
  unfold F_l_eqRunS
  by_cases hlm : m.length = l.length
  · rw [show ((l.length : Int) != (m.length : Int)) = false by simp [hlm], cF]
    obtain ⟨r, h1, h2, h3⟩ := same_loop (E := fun a b : Rq => F_l_eqRun (a.1, a.2) (b.1, b.2)) (l := l) (m := m) hl hlm (fun a _ b _ => ⟨decide (a = b), l_eqRun a b, by simp⟩)
    have e : loopM (fun (s : (List Rq × (List Rq × Int))) => B_l_eqRunS_0 s.1 s.2.1 s.2.2) (l, m, (0 : Int)) = some r := h1
    rw [e, obs]
    by_cases h : l = m
    · rw [h2 h, decide_eq_true h]; rfl
    · rw [h3 h, decide_eq_false h]; rfl
  · rw [show ((l.length : Int) != (m.length : Int)) = true by simp [bne]; omega, cT, decide_eq_false]
    rintro rfl
    exact hlm rfl
end Go.Proofs.YtnhibkgoinnmcaaDoor.Ev
