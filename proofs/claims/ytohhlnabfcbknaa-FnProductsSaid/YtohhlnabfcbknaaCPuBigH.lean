/- Big numbers: the product by halves. -/
import Derived.Test.YtohhlnabfcbknaaCPuBigE
namespace Go.Proofs.Ytohhlnabfcbknaa.Ev
open Go
set_option linter.unusedVariables false
set_option linter.unusedSimpArgs false
set_option linter.unusedSectionVars false

theorem s_l1Low {l : List Int} (hl : LB l) (hb : Brief l) (h : Nat) (hh : h ≤ 1000000) : F_s_l1Low l (h : Int) = some (lim (val (l.take h)).toNat) := by
  unfold F_s_l1Low
  by_cases hc : l.length ≤ h
  · rw [decide_eq_true (by omega), s_l1Cut hb, List.take_of_length_le hc, strip_lim hl]
    rfl
  · rw [decide_eq_false (by omega)]
    have : subI 0 (h : Int) l.length = some (0, h) := by unfold subI; simp; omega
    simp only [cond_false, this, Option.bind_some, List.drop_zero]
    rw [s_l1Cut (by unfold Brief; simp; omega)]
    simp only [Option.bind_some]
    rw [strip_lim (hl.take h)]
theorem s_l1High {l : List Int} (hl : LB l) (hb : Brief l) (h : Nat) (hh : h ≤ 1000000) : F_s_l1High l (h : Int) = some (lim (val (l.drop h)).toNat) := by
  unfold F_s_l1High
  by_cases hc : l.length ≤ h
  · rw [decide_eq_true (by omega), List.drop_eq_nil_of_le hc]
    simp [val, lim_zero]
  · rw [decide_eq_false (by omega)]
    have : subI (h : Int) ((l.length : Nat) : Int) l.length = some (h, l.length) := by unfold subI; simp; omega
    simp only [cond_false, this, Option.bind_some, List.take_length]
    unfold Brief at hb
    rw [s_l1Cut (by unfold Brief; simp; omega)]
    simp only [Option.bind_some]
    rw [strip_lim (hl.drop h)]
theorem s_l1Shift {n : Nat} (h : Nat) (hh : h ≤ 1000000) (hn : (lim n).length ≤ 1000000) : ∃ r, F_s_l1Shift (lim n) (h : Int) = some r ∧ LB r ∧ val r = B h * n ∧ r.length ≤ h + (lim n).length := by
  unfold F_s_l1Shift
  by_cases h0 : n = 0
  · subst h0
    rw [lim_zero]
    exact ⟨[], rfl, LB.nil, by simp [val], by simp⟩
  · have : ((((lim n).length : Nat) : Int) == 0) = false := beq_eq_false_iff_ne.2 (by
      intro h1
      have : lim n = [] := List.eq_nil_of_length_eq_zero (by omega)
      exact h0 (lim_nil.1 this))
    rw [this, lenI_nat (by unfold maxBytes; omega) (by unfold maxBytes; omega)]
    simp only [cond_false, Option.bind_some]
    rw [appL_is (by simp [maxBytes]; omega) (by simp [maxBytes]; omega)]
    exact ⟨_, rfl, (LB.zeros h).append (lim_lb n), by rw [val_append, val_zeros, lim_val]; simp, by simp⟩

theorem val_parts (l : List Int) (h : Nat) : val l = val (l.take h) + B h * val (l.drop h) := by
  rcases Nat.le_or_ge h l.length with hc | hc
  · exact val_split l h hc
  · rw [List.take_of_length_le hc, List.drop_eq_nil_of_le hc]; simp [val]

/-- How often it calls itself. -/
def need (a b : List Int) : Nat :=
  if max a.length b.length ≤ 2 then 1 else if max a.length b.length = 3 then (if val a < B 2 + B 1 ∧ val b < B 2 + B 1 then 2 else 3) else max a.length b.length
theorem need_le {a b : List Int} {n : Nat} (h : max a.length b.length ≤ n) (hn : 3 ≤ n) : need a b ≤ n := by unfold need; split <;> (try split) <;> (try split) <;> omega
theorem need_small {a b : List Int} (h : max a.length b.length ≤ 2) : need a b = 1 := by unfold need; rw [if_pos h]

theorem nat_of {l : List Int} (h : LB l) : ((val l).toNat : Int) = val l := by have := val_nonneg h; omega

/-- Of three limbs: the sum of the parts. -/
theorem sums3 {l : List Int} (hl : LB l) (h3 : l.length ≤ 3) : val (l.take 1) + val (l.drop 1) < B 2 + B 1 ∧ (val l < B 2 + B 1 → val (l.take 1) + val (l.drop 1) < B 2) := by
  have B1 : B 1 = 65536 := rfl
  have B2 : B 2 = 4294967296 := rfl
  have p := val_parts l 1
  have h1 := val_lt (hl.take 1)
  have h2 := val_lt (hl.drop 1)
  have h3 := val_nonneg (hl.take 1)
  have h4 := val_nonneg (hl.drop 1)
  have m1 := B_mono (show (l.take 1).length ≤ 1 by simp; omega)
  have m2 := B_mono (show (l.drop 1).length ≤ 2 by simp; omega)
  rw [B1] at p m1 ⊢
  rw [B2] at m2 ⊢
  omega

theorem fit2 {x y : Nat} {p q : Nat} (h1 : (x : Int) < B p) (h2 : (y : Int) < B q) : ((x * y : Nat) : Int) < B (p + q) := by
  rw [B_add, show ((x * y : Nat) : Int) = (x : Int) * (y : Int) by simp]
  exact Int.lt_of_le_of_lt (Int.mul_le_mul_of_nonneg_right (Int.le_of_lt h1) (by omega)) (Int.mul_lt_mul_of_pos_left h2 (B_pos p))

theorem part_len {l : List Int} (hl : LB l) (n k : Nat) (h : l.length ≤ n) : (lim (val l).toNat).length ≤ n := by
  rw [lim_len, nat_of hl]
  have := val_lt hl
  have := B_mono h
  omega

/-- What its calls need. -/
theorem need_parts {a b : List Int} {f : Nat} (ha : LB a) (hb : LB b) (h2 : ¬ max a.length b.length ≤ 2) (hf : need a b ≤ f + 1) {x y : List Int} (hx : max x.length y.length ≤ max a.length b.length - 1) : need x y ≤ f := by
  have f1 : 1 ≤ f ∧ (max a.length b.length ≠ 3 → max a.length b.length ≤ f + 1) := by
    unfold need at hf
    rw [if_neg h2] at hf
    split at hf
    · split at hf <;> omega
    · omega
  by_cases hs : max x.length y.length ≤ 2
  · rw [need_small hs]; exact f1.1
  · have := need_le (a := x) (b := y) (n := max a.length b.length - 1) hx (by omega)
    have := f1.2 (by omega)
    omega
theorem need_sums {a b : List Int} {f h : Nat} (ha : LB a) (hb : LB b) (h2 : ¬ max a.length b.length ≤ 2) (hf : need a b ≤ f + 1) (hh : h = max a.length b.length / 2) {sa sb : List Int}
    (la : sa.length ≤ max a.length b.length - h + 1 ∧ (sa.length ≤ max a.length b.length - h ∨ B (max a.length b.length - h) ≤ val sa)) (va : val sa = val (a.take h) + val (a.drop h))
    (lb : sb.length ≤ max a.length b.length - h + 1 ∧ (sb.length ≤ max a.length b.length - h ∨ B (max a.length b.length - h) ≤ val sb)) (vb : val sb = val (b.take h) + val (b.drop h)) : need sa sb ≤ f := by
  by_cases h3 : max a.length b.length = 3
  · have h1 : h = 1 := by omega
    subst h1
    obtain ⟨u1, u2⟩ := sums3 ha (by omega)
    obtain ⟨u3, u4⟩ := sums3 hb (by omega)
    rw [h3] at la lb
    have hf' := hf
    unfold need at hf
    rw [if_neg h2, if_pos h3] at hf
    by_cases hsp : val a < B 2 + B 1 ∧ val b < B 2 + B 1
    · rw [if_pos hsp] at hf
      have v1 := u2 hsp.1
      have v2 := u4 hsp.2
      have : max sa.length sb.length ≤ 2 := by
        have e : 3 - 1 = 2 := rfl
        rw [e] at la lb
        rcases la.2 with h | h
        · rcases lb.2 with h' | h'
          · omega
          · omega
        · omega
      rw [need_small this]
      omega
    · rw [if_neg hsp] at hf
      have : need sa sb ≤ 2 := by
        unfold need
        split
        · omega
        · split
          · rw [if_pos ⟨by omega, by omega⟩]; omega
          · omega
      omega
  · exact need_parts ha hb h2 hf (by omega)

theorem halves_join {p q r s h : Nat} (hh : h ≤ 1000) (hp : (p : Int) < B 1000) (hq : (q : Int) < B 1000) (hr : (r : Int) < B 1000) (hs : (s : Int) < B 1000) :
    ((F_s_l1SubLimbs (lim ((p + q) * (r + s))) (lim (p * r))).bind fun x17 => (F_s_l1SubLimbs x17 (lim (q * s))).bind fun x18 => (F_s_l1Shift x18 (h : Int)).bind fun x19 => (F_s_l1Shift (lim (q * s)) ((2 * h : Nat) : Int)).bind fun x20 =>
      (F_s_l1AddLimbs x19 x20).bind fun x21 => (F_s_l1AddLimbs (lim (p * r)) x21).bind fun x22 => (F_s_l1Cut x22).bind fun x23 => some x23) = some (lim (((p : Int) + B h * q) * ((r : Int) + B h * s)).toNat) := by
  have b1 : B 1000 ≤ B 1001 := B_mono (by omega)
  have e1001 : B 1001 = 65536 * B 1000 := rfl
  have bp := B_pos 1000
  have hpq : ((p + q : Nat) : Int) < B 1001 := by omega
  have hrs : ((r + s : Nat) : Int) < B 1001 := by omega
  have f1 := fit2 hpq hrs
  have hS : (p + q) * (r + s) = p * r + (p * s + q * r) + q * s := by grind
  have L0 : (lim ((p + q) * (r + s))).length ≤ 2002 := lim_len.2 f1
  have hle1 : p * r ≤ (p + q) * (r + s) := by omega
  have L1 : (lim (p * r)).length ≤ (lim ((p + q) * (r + s))).length := lim_len.2 (by have := lim_len.1 (Nat.le_refl (lim ((p + q) * (r + s))).length); omega)
  rw [s_l1SubLimbs (lim_lb _) (lim_lb _) L1 (by omega) (by rw [lim_val, lim_val]; omega)]
  have e1 : (val (lim ((p + q) * (r + s))) - val (lim (p * r))).toNat = p * s + q * r + q * s := by rw [lim_val, lim_val]; omega
  rw [e1]
  simp only [Option.bind_some]
  have L2 : (lim (p * s + q * r + q * s)).length ≤ (lim ((p + q) * (r + s))).length := lim_len.2 (by have := lim_len.1 (Nat.le_refl (lim ((p + q) * (r + s))).length); omega)
  have L3 : (lim (q * s)).length ≤ (lim (p * s + q * r + q * s)).length := lim_len.2 (by have := lim_len.1 (Nat.le_refl (lim (p * s + q * r + q * s)).length); omega)
  rw [s_l1SubLimbs (lim_lb _) (lim_lb _) L3 (by omega) (by rw [lim_val, lim_val]; omega)]
  have e2 : (val (lim (p * s + q * r + q * s)) - val (lim (q * s))).toNat = p * s + q * r := by rw [lim_val, lim_val]; omega
  rw [e2]
  simp only [Option.bind_some]
  have L4 : (lim (p * s + q * r)).length ≤ (lim (p * s + q * r + q * s)).length := lim_len.2 (by have := lim_len.1 (Nat.le_refl (lim (p * s + q * r + q * s)).length); omega)
  obtain ⟨m, g1, g2, g3, g4⟩ := s_l1Shift (n := p * s + q * r) h (by omega) (by omega)
  obtain ⟨t, g5, g6, g7, g8⟩ := s_l1Shift (n := q * s) (2 * h) (by omega) (by omega)
  obtain ⟨u, g9, g10, g11, g12, _⟩ := s_l1AddLimbs g2 g6 (by omega) (by omega)
  obtain ⟨v, g13, g14, g15, g16, _⟩ := s_l1AddLimbs (lim_lb (p * r)) g10 (by omega) (by omega)
  simp only [g1, g5, g9, g13, Option.bind_some]
  rw [s_l1Cut (by unfold Brief; omega)]
  simp only [Option.bind_some]
  rw [strip_lim g14, g15, g11, g3, g7, lim_val]
  have e3 : B (2 * h) = B h * B h := by rw [show 2 * h = h + h by omega, B_add]
  have e4 : ((p * r : Nat) : Int) + (B h * ((p * s + q * r : Nat) : Int) + B (2 * h) * ((q * s : Nat) : Int)) = ((p : Int) + B h * q) * ((r : Int) + B h * s) := by
    rw [e3]
    simp only [Int.natCast_add, Int.natCast_mul]
    grind
  rw [e4]
end Go.Proofs.Ytohhlnabfcbknaa.Ev
