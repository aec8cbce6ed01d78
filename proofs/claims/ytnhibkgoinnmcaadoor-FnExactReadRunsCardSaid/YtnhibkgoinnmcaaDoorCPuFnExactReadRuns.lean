/- The law FnExactReadRuns, over its typed text. -/
import Derived.Test.YtnhibkgoinnmcaaDoorCPuReadRuns
import Derived.Test.YtnhibkgoinnmcaaDoorCPuRunEq
namespace Go.Proofs.YtnhibkgoinnmcaaDoor.Ev
open Go
set_option linter.unusedVariables false

theorem l_markRunS {l : List Rn} (hl : l.length < 1099511627776) : F_l_markRunS l 1 = some (markP 1 l.length, 1 + 2 * (l.length : Int)) := by
  unfold F_l_markRunS
  have h : loopM (fun (s : (List Rn × (Int × Int))) => B_l_markRunS_0 s.1 s.2.1 s.2.2) (l, (1 : Int), (0 : Int)) = some (markP 1 l.length, 1 + 2 * (l.length : Int)) := markP_loop hl (by omega) (by omega)
  rw [h, obs]
theorem l_heldRunS {n : Nat} (hl : n < 1099511627776) : F_l_heldRunS (markP 1 n) 1 = some (1 + 2 * (n : Int)) := by
  unfold F_l_heldRunS
  have h : loopM (fun (s : (List Rn × (Int × Int))) => B_l_heldRunS_0 s.1 s.2.1 s.2.2) (markP 1 n, (1 : Int), (0 : Int)) = some (.inl (1 + 2 * (n : Int))) := heldP_loop hl (by omega) (by omega)
  rw [h, obs]
  rfl
theorem rdRunsV_len (s : Str) : (rdRunsV s).1.length ≤ 100 := by
  unfold rdRunsV
  split
  · rename_i h; exact (goodR_facts h.1).2
  · simp

theorem pureFnExactReadRuns (s : Str) : F_l_FnExactReadRuns s = some true := by
  unfold F_l_FnExactReadRuns
  by_cases h : (s.length : Int) > 1048576
  · rw [decide_eq_true h]; rfl
  · have hl := rdRunsV_len s
    have hm : (markP 1 (rdRunsV s).1.length).length = (rdRunsV s).1.length := by simp [markP]
    rw [decide_eq_false h, cF, s_ReadRuns (by omega), obs, i_ReadRuns (by omega), obs, l_eqRunS (by omega), decide_eq_true rfl, obs, nT, cF, beq_self_eq_true, nT, cF, l_markRunS (by omega), obs]
    simp only [hm, decide_true, cond_true]
    have hx : ((1 + 2 * ((rdRunsV s).1.length : Int)) != (1 + 2 * ((rdRunsV s).1.length : Int))) = false := by simp [bne]
    rw [l_heldRunS (by omega), obs, decide_eq_false (by omega), cF, hx, cF, obs, l_eqRunS (by omega), decide_eq_true rfl, obs, nT, cF, obs, decide_eq_false (by omega), cF, beq_self_eq_true, nT, cF, hx, cF]
end Go.Proofs.YtnhibkgoinnmcaaDoor.Ev
