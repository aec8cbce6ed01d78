/- The law FnExactNumberText, over its typed text. -/
import Derived.Test.YtnhibkgoinnmcaaDoorCPuText
namespace Go.Proofs.YtnhibkgoinnmcaaDoor.Ev
open Go
theorem pureFnExactNumberText (n : Int) : F_l_FnExactNumberText n = some true := by
  unfold F_l_FnExactNumberText
  rw [s_NumberText, obs, i_NumberText, obs, beq_self_eq_true, beq_self_eq_true]
  rfl
end Go.Proofs.YtnhibkgoinnmcaaDoor.Ev
