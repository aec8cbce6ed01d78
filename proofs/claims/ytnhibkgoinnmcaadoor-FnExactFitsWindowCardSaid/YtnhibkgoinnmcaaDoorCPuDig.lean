/- Decimal digits, as they are read and as they are written. -/
import Derived.Test.YtnhibkgoinnmcaaDoorCPuCopy
import Derived.Lib.ItoaNum
import Derived.Lib.ItoaLen
import Derived.Lib.AtoiAll
namespace Go.Proofs.YtnhibkgoinnmcaaDoor.Ev
open Go
set_option linter.unusedVariables false
set_option linter.unusedSimpArgs false
set_option linter.unusedSectionVars false

def isDig (b : UInt8) : Bool := decide (48 ≤ b.toNat) && decide (b.toNat ≤ 57)
theorem isDig_iff {b : UInt8} : isDig b = true ↔ 48 ≤ b.toNat ∧ b.toNat ≤ 57 := by simp [isDig]
def valF (n : Nat) (l : Str) : Nat := l.foldl (fun a b => a * 10 + (b.toNat - 48)) n
theorem valF_snoc (n : Nat) (l : Str) (b : UInt8) : valF n (l ++ [b]) = valF n l * 10 + (b.toNat - 48) := by unfold valF; simp
/-- Digits, at least one, no nought ahead of others. -/
def Canon (l : Str) : Prop := (∀ b ∈ l, isDig b = true) ∧ l ≠ [] ∧ ¬(l.head? = some 48 ∧ 1 < l.length)

theorem u8_of {b : UInt8} (h : 48 ≤ b.toNat) : UInt8.ofNat (48 + (b.toNat - 48)) = b := by
  rw [show 48 + (b.toNat - 48) = b.toNat by omega]; exact UInt8.ofNat_toNat
theorem isDig_of {n : Nat} (h : n < 10) : isDig (UInt8.ofNat (48 + n)) = true ∧ (UInt8.ofNat (48 + n)).toNat = 48 + n := by
  have : (UInt8.ofNat (48 + n)).toNat = 48 + n := by rw [UInt8.toNat_ofNat']; omega
  exact ⟨isDig_iff.2 (by omega), this⟩
theorem u8_eq48 {b : UInt8} : b = 48 ↔ b.toNat = 48 := by
  constructor
  · rintro rfl; rfl
  · intro h
    have : b.toNat = (48 : UInt8).toNat := h
    exact UInt8.toNat_inj.1 this

theorem valF_pos : ∀ (l : Str) (n : Nat), 1 ≤ n → 1 ≤ valF n l
  | [], n, h => h
  | b :: l, n, h => by
    unfold valF
    rw [List.foldl_cons]
    exact valF_pos l _ (by omega)
theorem canon_pos {b : UInt8} {l : Str} (hb : isDig b = true) (h : b ≠ 48) : 1 ≤ valF 0 (b :: l) := by
  unfold valF
  rw [List.foldl_cons]
  refine valF_pos l _ ?_
  have := isDig_iff.1 hb
  have h2 : b.toNat ≠ 48 := fun h2 => h (u8_eq48.2 h2)
  omega

/-- What is read is written so. -/
theorem dec_canon : ∀ (n : Nat) (l : Str), l.length = n → Canon l → Lib.decDigits (valF 0 l) = l
  | 0, l, hn, h => absurd (List.eq_nil_of_length_eq_zero hn) h.2.1
  | n + 1, l, hn, h => by
    obtain ⟨e, b, rfl⟩ : ∃ e b, l = e ++ [b] := ⟨l.dropLast, l.getLast h.2.1, (List.dropLast_concat_getLast h.2.1).symm⟩
    have hb := isDig_iff.1 (h.1 b (by simp))
    rw [valF_snoc]
    cases e with
    | nil =>
      show Lib.decDigits (0 * 10 + (b.toNat - 48)) = [b]
      rw [Lib.decDigits_one (by omega), Nat.zero_mul, Nat.zero_add, u8_of hb.1]
    | cons c e =>
      have hc0 : c ≠ 48 := by
        rintro rfl
        exact h.2.2 ⟨rfl, by simp⟩
      have hcd : isDig c = true := h.1 c (by simp)
      have h1 := canon_pos (l := e) hcd hc0
      rw [Lib.decDigits, dif_neg (by omega), show (valF 0 (c :: e) * 10 + (b.toNat - 48)) / 10 = valF 0 (c :: e) by omega, show (valF 0 (c :: e) * 10 + (b.toNat - 48)) % 10 = b.toNat - 48 by omega, u8_of hb.1,
        dec_canon n (c :: e) (by simpa using hn) ⟨fun x hx => h.1 x (by simp at hx ⊢; rcases hx with rfl | hx <;> simp_all), by simp, fun hh => hc0 (Option.some.inj hh.1)⟩]

/-- What is written is read so. -/
theorem canon_dec (u : Nat) : Canon (Lib.decDigits u) ∧ valF 0 (Lib.decDigits u) = u ∧ (1 ≤ u → (Lib.decDigits u).head? ≠ some 48) := by
  induction u using Nat.strongRecOn with
  | ind u ih =>
    by_cases h : u < 10
    · rw [Lib.decDigits_one h]
      obtain ⟨h1, h2⟩ := isDig_of h
      refine ⟨⟨fun b hb => by cases List.mem_singleton.1 hb; exact h1, by simp, fun hh => by simp at hh⟩, ?_, fun hu => ?_⟩
      · show 0 * 10 + ((UInt8.ofNat (48 + u)).toNat - 48) = u
        rw [h2]; omega
      · intro hh
        have := u8_eq48.1 (Option.some.inj hh)
        omega
    · obtain ⟨⟨c1, c2, c3⟩, h2, h3⟩ := ih (u / 10) (by omega)
      obtain ⟨g1, g2⟩ := isDig_of (n := u % 10) (by omega)
      have hh : (Lib.decDigits (u / 10) ++ [UInt8.ofNat (48 + u % 10)]).head? ≠ some 48 := by
        rw [List.head?_append]
        cases hz : Lib.decDigits (u / 10) with
        | nil => exact absurd hz c2
        | cons a t => rw [hz] at h3; exact h3 (by omega)
      rw [Lib.decDigits, dif_neg h]
      refine ⟨⟨fun b hb => ?_, by simp, fun h => hh h.1⟩, ?_, fun _ => hh⟩
      · rcases List.mem_append.1 hb with hb | hb
        · exact c1 b hb
        · cases List.mem_singleton.1 hb; exact g1
      · rw [valF_snoc, h2, g2]; omega

theorem dec_ne_minus {u : Nat} {t : Str} : Lib.decDigits u ≠ 45 :: t := by
  intro h
  have := (canon_dec u).1.1 45 (by rw [h]; simp)
  simp [isDig] at this

theorem dec_len4 {u : Nat} : (Lib.decDigits u).length ≤ 4 ↔ u ≤ 9999 := by
  rw [Lib.decDigits_length]
  have h1 := Lib.lt_pow_nDigits u
  constructor
  · intro h
    have : 10 ^ Lib.nDigits u ≤ 10 ^ 4 := Nat.pow_le_pow_right (by omega) h
    omega
  · intro h
    by_cases h0 : u < 10
    · rw [Lib.nDigits_small h0]; omega
    by_cases h0 : u < 100
    · rw [Lib.nDigits_unique 1 u (by omega) (by omega)]; omega
    by_cases h0 : u < 1000
    · rw [Lib.nDigits_unique 2 u (by omega) (by omega)]; omega
    · rw [Lib.nDigits_unique 3 u (by omega) (by omega)]; omega

theorem parse_digs : ∀ (l : Str) (acc : Nat), (∀ b ∈ l, isDig b = true) → acc * 10 ^ l.length + 10 ^ l.length ≤ 1000000000000000000 → Lib.parseUint10 acc l = .ok (valF acc l)
  | [], acc, _, _ => rfl
  | b :: l, acc, h, hl => by
    have hb := isDig_iff.1 (h b (by simp))
    have hp : 1 ≤ 10 ^ l.length := Nat.one_le_pow _ _ (by omega)
    have e : (b :: l).length = l.length + 1 := rfl
    rw [e, Nat.pow_succ] at hl
    have h1 : acc * (10 ^ l.length * 10) = (acc * 10) * 10 ^ l.length := by rw [Nat.mul_comm (10 ^ l.length) 10, Nat.mul_assoc]
    rw [h1] at hl
    have h2 : acc * 10 ≤ (acc * 10) * 10 ^ l.length := Nat.le_mul_of_pos_right _ (by omega)
    have h3 : (acc * 10 + (b.toNat - 48)) * 10 ^ l.length ≤ (acc * 10) * 10 ^ l.length + 9 * 10 ^ l.length := by
      rw [← Nat.add_mul]
      exact Nat.mul_le_mul_right _ (by omega)
    rw [Lib.parseUint10, if_pos hb, if_neg (by omega), if_neg (by omega), parse_digs l _ (fun x hx => h x (List.mem_cons_of_mem _ hx)) (by omega)]
    rfl

theorem u8_ne {b : UInt8} {n : Nat} (hd : isDig b = true) (h : n < 48) : b.toNat ≠ n := by have := isDig_iff.1 hd; omega
theorem atoi_itoa {v : Int} (h0 : -9999 ≤ v) (h1 : v ≤ 9999) : Lib.atoiAll (Lib.itoa v) = .ok v := by
  have key : ∀ u : Nat, u ≤ 9999 → Lib.parseMag (Lib.decDigits u) = .ok u := by
    intro u hu
    obtain ⟨⟨c1, c2, _⟩, c4, _⟩ := canon_dec u
    have h4 := dec_len4.2 hu
    unfold Lib.parseMag
    rw [if_neg c2, parse_digs _ _ c1 (by
      have : 10 ^ (Lib.decDigits u).length ≤ 10 ^ 4 := Nat.pow_le_pow_right (by omega) h4
      omega), c4]
  unfold Lib.itoa
  by_cases hv : v < 0
  · rw [if_pos hv]
    unfold Lib.atoiAll
    simp only
    rw [if_pos (Or.inr (by rfl)), key v.natAbs (by omega)]
    simp only
    rw [if_neg (fun h => h.1 rfl), if_neg (by omega), if_pos (by rfl)]
    congr 1; omega
  · rw [if_neg hv]
    have hk := key v.toNat (by omega)
    obtain ⟨⟨c1, c2, _⟩, _⟩ := canon_dec v.toNat
    cases hz : Lib.decDigits v.toNat with
    | nil => exact absurd hz c2
    | cons b t =>
      rw [hz] at hk c1
      have hb := c1 b (by simp)
      unfold Lib.atoiAll
      simp only
      rw [if_neg (by
        rintro (h | h)
        · exact u8_ne hb (by omega) h
        · exact u8_ne hb (by omega) h), hk]
      simp only
      rw [if_neg (by omega), if_neg (fun h => u8_ne hb (by omega) h.1), if_neg (u8_ne hb (by omega))]
      congr 1; omega
end Go.Proofs.YtnhibkgoinnmcaaDoor.Ev
