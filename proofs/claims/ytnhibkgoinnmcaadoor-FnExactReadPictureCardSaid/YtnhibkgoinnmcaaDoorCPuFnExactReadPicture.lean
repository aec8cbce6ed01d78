/- The law FnExactReadPicture, over its typed text. -/
import Derived.Test.YtnhibkgoinnmcaaDoorCPuPict
import Derived.Test.YtnhibkgoinnmcaaDoorCPuIntEq
namespace Go.Proofs.YtnhibkgoinnmcaaDoor.Ev
open Go
set_option linter.unusedVariables false
theorem pureFnExactReadPicture (s : Str) : F_l_FnExactReadPicture s = some true := by
  unfold F_l_FnExactReadPicture
  by_cases h : (s.length : Int) > 1048576
  · rw [decide_eq_true h]; rfl
  · obtain ⟨v, hi, hs, hl⟩ := pic_cases (s := s) (by omega)
    have hm : (markI 1 v.1.length).length = v.1.length := by simp [markI]
    have hx : ∀ n : Int, (n != n) = false := fun n => by simp [bne]
    rw [decide_eq_false h, cF, hs, obs, hi, obs, hx, cF, hx, cF, l_eqIntS (by omega), decide_eq_true rfl, obs, nT, cF, beq_self_eq_true, nT, cF, l_markIntS (by omega), obs]
    simp only [hm, decide_true, cond_true]
    rw [l_heldIntS (by omega), obs, decide_eq_false (by omega), cF, hx, cF, obs, hx, cF, hx, cF, l_eqIntS (by omega), decide_eq_true rfl, obs, nT, cF, beq_self_eq_true, nT, cF, obs, decide_eq_false (by omega), cF, hx, cF]
end Go.Proofs.YtnhibkgoinnmcaaDoor.Ev
