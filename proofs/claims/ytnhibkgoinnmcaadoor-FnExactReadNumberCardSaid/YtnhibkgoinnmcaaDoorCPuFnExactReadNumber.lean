/- The law FnExactReadNumber, over its typed text. -/
import Derived.Test.YtnhibkgoinnmcaaDoorCPuReadNumber
namespace Go.Proofs.YtnhibkgoinnmcaaDoor.Ev
open Go
theorem pureFnExactReadNumber (s : Str) : F_l_FnExactReadNumber s = some true := by
  unfold F_l_FnExactReadNumber
  by_cases h : (s.length : Int) > 1048576
  · rw [decide_eq_true h]; rfl
  · rw [decide_eq_false h, cF, s_ReadNumber (by omega), obs, i_ReadNumber (by omega), obs]
    rw [show ((rdNum s).1 != (rdNum s).1) = false by simp [bne], cF, beq_self_eq_true]
    rfl
end Go.Proofs.YtnhibkgoinnmcaaDoor.Ev
