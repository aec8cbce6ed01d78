/- Numerals with a sign. -/
import Derived.Test.YtnhibkgoinnmcaaDoorCPuNum
namespace Go.Proofs.YtnhibkgoinnmcaaDoor.Ev
open Go
set_option linter.unusedVariables false
set_option linter.unusedSimpArgs false
set_option linter.unusedSectionVars false

theorem s_l16Num {n : Int} (h0 : -9223372036854775808 < n) (h1 : n < 9223372036854775808) : F_s_l16Num n = some (Lib.itoa n) := by
  unfold F_s_l16Num Lib.itoa
  by_cases hn : n < 0
  · obtain ⟨m, rfl⟩ : ∃ m : Nat, n = -(m : Int) := ⟨n.natAbs, by omega⟩
    rw [decide_eq_true hn, cT, if_pos hn, wrapI (by omega) (by omega), show (0 : Int) - -(m : Int) = (m : Int) by omega, s_l1Num (by omega), obs, catS_is (by
      have := decDigits_len (n := m) (by omega)
      simp; omega), obs]
    rw [Int.natAbs_neg, Int.natAbs_natCast]
    rfl
  · obtain ⟨m, rfl⟩ : ∃ m : Nat, n = (m : Int) := ⟨n.toNat, by omega⟩
    rw [decide_eq_false hn, cF, if_neg hn, s_l1Num (by omega), obs, Int.toNat_natCast]

end Go.Proofs.YtnhibkgoinnmcaaDoor.Ev
