/- Numerals. -/
import Derived.Test.YtnhibkgoinnmcaaDoorCPuItoa
import Derived.Lib.ItoaNum
import Derived.Lib.ItoaLen
namespace Go.Proofs.YtnhibkgoinnmcaaDoor.Ev
open Go
set_option linter.unusedVariables false
set_option linter.unusedSimpArgs false
set_option linter.unusedSectionVars false

theorem wrap8 {n : Int} (h1 : 0 ≤ n) (h2 : n < 256) : IntKind.wrap .u8 n = n := by rw [IntKind.wrap_u8]; omega

theorem digit_byte {n : Nat} (h : n < 10) : strOf [IntKind.wrap .u8 (IntKind.wrap .i64 ((48 : Int) + (n : Int)))] = [UInt8.ofNat (48 + n)] := by
  rw [wrapI (by omega) (by omega), wrap8 (by omega) (by omega)]
  unfold strOf
  simp only [List.map_cons, List.map_nil]
  congr 2

theorem R_l1Num : ∀ (f n : Nat), n < f → n < 9223372036854775808 → R_s_l1Num f (n : Int) = some (Lib.decDigits n)
  | 0, n, h, _ => by omega
  | f + 1, n, h, h1 => by
    unfold R_s_l1Num G_s_l1Num
    by_cases hn : n < 10
    · rw [decide_eq_true (by omega), cT, digit_byte hn, Lib.decDigits, dif_pos hn]
    · have e1 : Int.tdiv (n : Int) 10 = ((n / 10 : Nat) : Int) := by rw [Int.tdiv_eq_ediv_of_nonneg (by omega)]; omega
      have e2 : Int.tmod (n : Int) 10 = ((n % 10 : Nat) : Int) := by rw [Int.tmod_eq_emod_of_nonneg (by omega)]; omega
      rw [decide_eq_false (by omega), cF, e1, wrapI (by omega) (by omega), R_l1Num f (n / 10) (by omega) (by omega), obs, e2, digit_byte (by omega), catS_is (by
        have := decDigits_len (n := n / 10) (by omega)
        simp; omega), obs]
      conv => rhs; rw [Lib.decDigits, dif_neg hn]

theorem s_l1Num {n : Nat} (h : n < 9223372036854775808) : F_s_l1Num (n : Int) = some (Lib.decDigits n) := by
  unfold F_s_l1Num
  exact R_l1Num _ n (by omega) h

theorem s_l1NumI {n : Int} (h0 : 0 ≤ n) (h1 : n < 9223372036854775808) : F_s_l1Num n = some (Lib.itoa n) := by
  obtain ⟨m, rfl⟩ : ∃ m : Nat, n = (m : Int) := ⟨n.toNat, by omega⟩
  rw [s_l1Num (by omega), itoa_pos h0, Int.toNat_natCast]
end Go.Proofs.YtnhibkgoinnmcaaDoor.Ev
