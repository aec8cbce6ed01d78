/- The law FnExactPrintPath, over its typed text. -/
import Derived.Test.YtnhibkgoinnmcaaDoorCPuPrint
import Derived.Test.YtnhibkgoinnmcaaDoorCPuPtEq
namespace Go.Proofs.YtnhibkgoinnmcaaDoor.Ev
open Go
set_option linter.unusedVariables false
theorem pureFnExactPrintPath (l : List (List (Int × Int))) (hb : l.length * 24 ≤ maxBytes) (hw : ∀ w ∈ l, w.length * 16 ≤ maxBytes) : F_l_FnExactPrintPath l = some true := by
  unfold maxBytes at hb hw
  unfold F_l_FnExactPrintPath
  obtain ⟨x, h1, h2⟩ := l_szPtSS (l := l) (by omega) (fun w h => by have := hw w h; omega)
  rw [h1, obs]
  by_cases hx : x < 0
  · rw [decide_eq_true hx]; rfl
  · obtain ⟨h3, h4⟩ := h2 (by omega)
    have s1 : Short l := by unfold Short; omega
    have s2 : ∀ w ∈ l, Short w := fun w h => by have := h4 w h; unfold Short; omega
    rw [decide_eq_false hx, cF, l_toPtSS h3 h4, obs, s_PrintPath s1 s2, obs, obs, i_PrintPath s1 s2, obs, beq_self_eq_true, nT, cF, beq_self_eq_true, nT, cF, obs, l_eqPtSS (by omega) (fun w h => by have := h4 w h; omega), decide_eq_true rfl, obs]
    rfl
end Go.Proofs.YtnhibkgoinnmcaaDoor.Ev
