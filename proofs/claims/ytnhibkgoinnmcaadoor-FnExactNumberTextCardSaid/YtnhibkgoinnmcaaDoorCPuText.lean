/- Numerals. -/
import Derived.Test.YtnhibkgoinnmcaaDoorCPuBase
import Derived.Test.YtnhibkgoinnmcaaDoorCLawFnExactNumberText
import Derived.Lib.ItoaNum
import Derived.Lib.ItoaLen
namespace Go.Proofs.YtnhibkgoinnmcaaDoor.Ev
open Go
set_option linter.unusedVariables false
set_option linter.unusedSimpArgs false
set_option linter.unusedSectionVars false

theorem obs {α β : Type} (a : α) (f : α → Option β) : (some a).bind f = f a := (rfl)
theorem cT {α : Type} (a b : α) : (bif true then a else b) = a := (rfl)
theorem cF {α : Type} (a b : α) : (bif false then a else b) = b := (rfl)
theorem nT : (!true) = false := (rfl)
theorem nF : (!false) = true := (rfl)

theorem wrap8 {n : Int} (h1 : 0 ≤ n) (h2 : n < 256) : IntKind.wrap .u8 n = n := by rw [IntKind.wrap_u8]; omega

theorem digit_byte {n : Nat} (h : n < 10) : strOf [IntKind.wrap .u8 (IntKind.wrap .i64 ((48 : Int) + (n : Int)))] = [UInt8.ofNat (48 + n)] := by
  rw [wrapI (by omega) (by omega), wrap8 (by omega) (by omega)]
  unfold strOf
  simp only [List.map_cons, List.map_nil]
  congr 2

theorem catS_is {s t : Str} (h : s.length + t.length ≤ 9223372036854775807) : catS s t = some (s ++ t) := by unfold catS; rw [if_pos h]

theorem decDigits_len {n : Nat} (h : n < 18446744073709551616) : (Lib.decDigits n).length ≤ 20 := by rw [Lib.decDigits_length]; exact Lib.nDigits_le20 n h

theorem R_l1Num : ∀ (f n : Nat), n < f → n < 9223372036854775808 → R_s_l1Num f (n : Int) = some (Lib.decDigits n)
  | 0, n, h, _ => by omega
  | f + 1, n, h, h1 => by
    unfold R_s_l1Num G_s_l1Num
    by_cases hn : n < 10
    · rw [decide_eq_true (by omega), cT, digit_byte hn, Lib.decDigits, dif_pos hn]
    · have e1 : Int.tdiv (n : Int) 10 = ((n / 10 : Nat) : Int) := by rw [Int.tdiv_eq_ediv_of_nonneg (by omega)]; omega
      have e2 : Int.tmod (n : Int) 10 = ((n % 10 : Nat) : Int) := by rw [Int.tmod_eq_emod_of_nonneg (by omega)]; omega
      rw [decide_eq_false (by omega), cF, e1, wrapI (by omega) (by omega), R_l1Num f (n / 10) (by omega) (by omega), obs, e2, digit_byte (by omega), catS_is (by
        have := decDigits_len (n := n / 10) (by omega)
        simp; omega), obs]
      conv => rhs; rw [Lib.decDigits, dif_neg hn]

theorem s_l1Num {n : Nat} (h : n < 9223372036854775808) : F_s_l1Num (n : Int) = some (Lib.decDigits n) := by
  unfold F_s_l1Num
  exact R_l1Num _ n (by omega) h

theorem s_l16Num {n : Int} (h0 : -9223372036854775808 < n) (h1 : n < 9223372036854775808) : F_s_l16Num n = some (Lib.itoa n) := by
  unfold F_s_l16Num Lib.itoa
  by_cases hn : n < 0
  · obtain ⟨m, rfl⟩ : ∃ m : Nat, n = -(m : Int) := ⟨n.natAbs, by omega⟩
    rw [decide_eq_true hn, cT, if_pos hn, wrapI (by omega) (by omega), show (0 : Int) - -(m : Int) = (m : Int) by omega, s_l1Num (by omega), obs, catS_is (by
      have := decDigits_len (n := m) (by omega)
      simp; omega), obs]
    rw [Int.natAbs_neg, Int.natAbs_natCast]
    rfl
  · obtain ⟨m, rfl⟩ : ∃ m : Nat, n = (m : Int) := ⟨n.toNat, by omega⟩
    rw [decide_eq_false hn, cF, if_neg hn, s_l1Num (by omega), obs, Int.toNat_natCast]

theorem l_Itoa {n : Int} (h0 : -9223372036854775808 ≤ n) (h1 : n ≤ 9223372036854775807) : F_strconv_Itoa n = some (Lib.itoa n) := by
  unfold F_strconv_Itoa F_itoa
  rw [if_pos ⟨h0, h1⟩]

theorem i_within3 (a b c : Int) : F_i_within a b c = some (decide (b ≤ a) && decide (a ≤ c)) := by
  unfold F_i_within
  by_cases h : a ≥ b
  · rw [decide_eq_true h, cT]; rfl
  · rw [decide_eq_false h, cF]; rfl
theorem s_l1In3 (a b c : Int) : F_s_l1In a b c = some (decide (b ≤ a) && decide (a ≤ c)) := by
  unfold F_s_l1In
  by_cases h : a ≥ b
  · rw [decide_eq_true h, cT]; rfl
  · rw [decide_eq_false h, cF]; rfl

def isNum (n : Int) : Bool := decide (-9999 ≤ n) && decide (n ≤ 9999)
def numText (n : Int) : Str × Bool := if isNum n then (Lib.itoa n, true) else ([], false)
theorem isNum_iff {n : Int} : isNum n = true ↔ -9999 ≤ n ∧ n ≤ 9999 := by unfold isNum; simp
theorem i_isNumber (n : Int) : F_i_isNumber n = some (isNum n) := by
  unfold F_i_isNumber
  rw [i_within3]
  rfl
theorem s_NumberText (n : Int) : F_s_NumberText n = some (numText n) := by
  unfold F_s_NumberText numText
  rw [s_l1In3, obs]
  show (bif (!isNum n) then _ else _) = _
  cases h : isNum n with
  | false => rfl
  | true =>
    have := isNum_iff.1 h
    rw [nT, cF, s_l16Num (by omega) (by omega), obs]
    rfl
theorem i_NumberText (n : Int) : F_i_NumberText n = some (numText n) := by
  unfold F_i_NumberText numText
  rw [i_isNumber, obs]
  cases h : isNum n with
  | false => rfl
  | true =>
    have := isNum_iff.1 h
    rw [nT, cF, l_Itoa (by omega) (by omega), obs]
    rfl
end Go.Proofs.YtnhibkgoinnmcaaDoor.Ev
