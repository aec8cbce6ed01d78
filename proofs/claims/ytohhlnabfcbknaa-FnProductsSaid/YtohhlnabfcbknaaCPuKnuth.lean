/- The digit that is guessed in a long division (Knuth), with no program in sight. -/
import Derived.Test.YtohhlnabfcbknaaCPuLimb
namespace Go.Proofs.Ytohhlnabfcbknaa.Ev
open Go
set_option linter.unusedVariables false
set_option linter.unusedSimpArgs false
set_option linter.unusedSectionVars false

section
-- v: the divisor, by its two top limbs; U: what is to be divided, by its three top limbs; q, r: the guess, and what is left of the top. 
variable {P v1 v2 vr top u2 ur q r v U : Int} (hP : 0 < P) (hv1 : 1 ≤ v1) (hv1' : v1 < 65536) (hv2 : 0 ≤ v2 ∧ v2 < 65536) (hvr : 0 ≤ vr ∧ vr < P) (hu2 : 0 ≤ u2 ∧ u2 < 65536) (hur : 0 ≤ ur ∧ ur < P)
  (hv : v = (v1 * 65536 + v2) * P + vr) (hU : U = (top * 65536 + u2) * P + ur) (hq : q * v1 + r = top) (hq0 : 0 ≤ q)
include hP hv1 hv2 hvr hu2 hur hv hU hq hq0

/-- A guess that is too great is seen to be so. -/
theorem guess_more (h : q * v2 > r * 65536 + u2) : U < q * v := by
  have h1 : q * (v1 * 65536 + v2) = (q * v1) * 65536 + q * v2 := by grind
  have h2 : top * 65536 + u2 + 1 ≤ q * (v1 * 65536 + v2) := by omega
  have h3 := Int.mul_le_mul_of_nonneg_right h2 (Int.le_of_lt hP)
  have h4 : 0 ≤ q * vr := Int.mul_nonneg hq0 hvr.1
  have h5 : q * v = q * (v1 * 65536 + v2) * P + q * vr := by rw [hv]; grind
  rw [Int.add_mul] at h3
  omega

/-- A guess that passes is too great by one at most. -/
theorem guess_one (hq1 : q < 65536) (h : q * v2 ≤ r * 65536 + u2) : q * v < U + v := by
  have h1 : q * (v1 * 65536 + v2) = (q * v1) * 65536 + q * v2 := by grind
  have h2 : q * (v1 * 65536 + v2) ≤ top * 65536 + u2 := by omega
  have h3 := Int.mul_le_mul_of_nonneg_right h2 (Int.le_of_lt hP)
  have h4 : q * vr ≤ 65535 * P := Int.le_trans (Int.mul_le_mul_of_nonneg_left (Int.le_of_lt hvr.2) hq0) (Int.mul_le_mul_of_nonneg_right (by omega) (Int.le_of_lt hP))
  have h5 : q * v = q * (v1 * 65536 + v2) * P + q * vr := by rw [hv]; grind
  have h6 : 65536 * P ≤ (v1 * 65536 + v2) * P := Int.mul_le_mul_of_nonneg_right (by omega) (Int.le_of_lt hP)
  omega

/-- Nor is one whose rest is great. -/
theorem guess_none (hq1 : q < 65536) (h : 65536 ≤ r) : q * v ≤ U := by
  have h1 : q * (v1 * 65536 + v2) = (q * v1) * 65536 + q * v2 := by grind
  have h7 : q * v2 ≤ q * 65535 := Int.mul_le_mul_of_nonneg_left (by omega) hq0
  have h2 : q * (v1 * 65536 + v2) + 65536 ≤ top * 65536 + u2 := by omega
  have h3 := Int.mul_le_mul_of_nonneg_right h2 (Int.le_of_lt hP)
  have h4 : q * vr ≤ 65535 * P := Int.le_trans (Int.mul_le_mul_of_nonneg_left (Int.le_of_lt hvr.2) hq0) (Int.mul_le_mul_of_nonneg_right (by omega) (Int.le_of_lt hP))
  have h5 : q * v = q * (v1 * 65536 + v2) * P + q * vr := by rw [hv]; grind
  rw [Int.add_mul] at h3
  omega
end

/-- The first guess is not too small. -/
theorem guess_start {P' v1 vt top ut v U Q : Int} (hP : 0 < P') (hv1 : 1 ≤ v1) (hvt : 0 ≤ vt) (hut : ut < P') (hv : v = v1 * P' + vt) (hU : U = top * P' + ut) (hQ : Q * v ≤ U) (hQ0 : 0 ≤ Q) : Q ≤ top / v1 := by
  rw [Int.le_ediv_iff_mul_le (by omega)]
  by_cases h : Q * v1 ≤ top
  · exact h
  · exfalso
    have h1 : top + 1 ≤ Q * v1 := by omega
    have h2 := Int.mul_le_mul_of_nonneg_right h1 (Int.le_of_lt hP)
    have h3 : 0 ≤ Q * vt := Int.mul_nonneg hQ0 hvt
    have h4 : Q * v = Q * v1 * P' + Q * vt := by rw [hv]; grind
    rw [Int.add_mul] at h2
    omega
end Go.Proofs.Ytohhlnabfcbknaa.Ev
