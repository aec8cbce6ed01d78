/- Big numbers: numbers of 64 bits, order, validity checks. -/
import Derived.Test.YtohhlnabfcbknaaCPuBigE
namespace Go.Proofs.Ytohhlnabfcbknaa.Ev
open Go
set_option linter.unusedVariables false
set_option linter.unusedSimpArgs false
set_option linter.unusedSectionVars false

theorem lim_cons {n : Nat} (h : n ≠ 0) : lim n = ((n % 65536 : Nat) : Int) :: lim (n / 65536) := by
  conv => lhs; unfold lim
  rw [dif_neg h]

theorem i_BigOf_loop (s : Bool × List Int) (neg : Bool) : ∀ (f : Nat) (n : Nat) (acc : List Int), n ≤ f → n < 18446744073709551616 → acc.length + (lim n).length ≤ 10000 →
    loopM (fun (s : ((Bool × (List Int)) × ((List Int) × (Bool × Int)))) => B_i_BigOf_0 s.1 s.2.1 s.2.2.1 s.2.2.2) (s, (acc, (neg, (n : Int)))) = some (s, (acc ++ lim n, neg)) := by
  intro f
  induction f with
  | zero =>
    intro n acc hn _ _
    have : n = 0 := by omega
    subst this
    rw [lim_zero, List.append_nil]
    exact loop_end rfl
  | succ f ih =>
    intro n acc hn h64 h2
    by_cases h0 : n = 0
    · subst h0
      rw [lim_zero, List.append_nil]
      exact loop_end rfl
    · rw [lim_cons h0] at h2 ⊢
      simp only [List.length_cons] at h2
      have hstep : B_i_BigOf_0 s acc neg (n : Int) = some (.inl (s, (acc ++ [((n % 65536 : Nat) : Int)], (neg, ((n / 65536 : Nat) : Int))))) := by
        unfold B_i_BigOf_0
        rw [decide_eq_true (by omega), Int.tmod_eq_emod_of_nonneg (by omega), Int.tdiv_eq_ediv_of_nonneg (by omega), wrapI (by omega) (by omega), wrapU (by omega) (by omega)]
        simp only [cond_true]
        rw [app1 (by omega)]
        simp only [Option.bind_some]
        rw [show (n : Int) % 65536 = ((n % 65536 : Nat) : Int) by omega, show (n : Int) / 65536 = ((n / 65536 : Nat) : Int) by omega]
      have := ih (n / 65536) (acc ++ [((n % 65536 : Nat) : Int)]) (by omega) (by omega) (by simp; omega)
      rw [loop_go hstep, this, List.append_assoc]
      rfl

theorem lim64 {n : Nat} (h : n < 18446744073709551616) : (lim n).length ≤ 4 := lim_len.2 (by have : B 4 = 18446744073709551616 := rfl; omega)

theorem i_BigOf {n : Int} (h1 : -9223372036854775808 ≤ n) (h2 : n ≤ 9223372036854775807) : F_i_BigOf n = some (big n) := by
  unfold F_i_BigOf
  have hl := lim64 (n := n.natAbs) (by omega)
  by_cases h : n < 0
  · have e : IntKind.wrap .u64 (0 - IntKind.wrap .u64 n) = (n.natAbs : Int) := by rw [IntKind.wrap_u64, IntKind.wrap_u64]; omega
    rw [decide_eq_true h]
    simp only [cond_true, Option.bind_some, Sum.elim_inr]
    rw [e, i_BigOf_loop (false, []) true n.natAbs n.natAbs [] (Nat.le_refl _) (by omega) (by simp; omega)]
    unfold big
    rw [decide_eq_true h]
    rfl
  · have e : IntKind.wrap .u64 n = (n.natAbs : Int) := by rw [IntKind.wrap_u64]; omega
    rw [decide_eq_false h]
    simp only [cond_false, Option.bind_some, Sum.elim_inr]
    rw [e, i_BigOf_loop (false, []) false n.natAbs n.natAbs [] (Nat.le_refl _) (by omega) (by simp; omega)]
    unfold big
    rw [decide_eq_false h]
    rfl

theorem s_BigOf_loop (s : Bool × List Int) (m : Int) : ∀ (f : Nat) (n : Int) (acc : List Int), n.natAbs ≤ f → -9223372036854775808 ≤ n → n ≤ 9223372036854775807 → acc.length + (lim n.natAbs).length ≤ 10000 →
    loopM (fun (s : ((Bool × (List Int)) × ((List Int) × (Int × Int)))) => B_s_BigOf_0 s.1 s.2.1 s.2.2.1 s.2.2.2) (s, (acc, (m, n))) = some (s, (acc ++ lim n.natAbs, m)) := by
  intro f
  induction f with
  | zero =>
    intro n acc hn _ _ _
    have : n = 0 := by omega
    subst this
    rw [show (0 : Int).natAbs = 0 from rfl, lim_zero, List.append_nil]
    exact loop_end rfl
  | succ f ih =>
    intro n acc hn h1 h2 h3
    by_cases h0 : n = 0
    · subst h0
      rw [show (0 : Int).natAbs = 0 from rfl, lim_zero, List.append_nil]
      exact loop_end rfl
    · rw [lim_cons (show n.natAbs ≠ 0 by omega)] at h3 ⊢
      simp only [List.length_cons] at h3
      have hq : (Int.tdiv n 65536).natAbs = n.natAbs / 65536 := by rw [Int.natAbs_tdiv]; rfl
      have hq1 : -9223372036854775808 ≤ Int.tdiv n 65536 ∧ Int.tdiv n 65536 ≤ 9223372036854775807 := by omega
      have hr : ((Int.tmod n 65536).natAbs : Int) = ((n.natAbs % 65536 : Nat) : Int) := by rw [Int.natAbs_tmod]; rfl
      have hstep : B_s_BigOf_0 s acc m n = some (.inl (s, (acc ++ [((n.natAbs % 65536 : Nat) : Int)], (m, Int.tdiv n 65536)))) := by
        unfold B_s_BigOf_0
        have : (n != 0) = true := by simpa using h0
        rw [this, wrapI (n := Int.tdiv n 65536) (by omega) (by omega)]
        simp only [cond_true]
        by_cases hneg : Int.tmod n 65536 < 0
        · rw [decide_eq_true hneg, wrapI (by omega) (by omega)]
          simp only [cond_true]
          rw [app1 (by omega), show (0 : Int) - Int.tmod n 65536 = ((n.natAbs % 65536 : Nat) : Int) by omega]
          rfl
        · rw [decide_eq_false hneg]
          simp only [cond_false]
          rw [app1 (by omega), show Int.tmod n 65536 = ((n.natAbs % 65536 : Nat) : Int) by omega]
          rfl
      have := ih (Int.tdiv n 65536) (acc ++ [((n.natAbs % 65536 : Nat) : Int)]) (by omega) hq1.1 hq1.2 (by rw [hq]; simp; omega)
      rw [loop_go hstep, this, List.append_assoc, hq]
      rfl

theorem s_BigOf {n : Int} (h1 : -9223372036854775808 ≤ n) (h2 : n ≤ 9223372036854775807) : F_s_BigOf n = some (big n) := by
  unfold F_s_BigOf
  have hl := lim64 (n := n.natAbs) (by omega)
  rw [s_BigOf_loop (false, []) n n.natAbs n [] (Nat.le_refl _) h1 h2 (by simp; omega)]
  simp only [Option.bind_some, List.nil_append]
  rw [s_l1Make (lim_lb _) (by unfold Brief; omega)]
  simp only [Option.bind_some, lim_val, Int.toNat_natCast]
  unfold big
  by_cases h : n < 0
  · rw [decide_eq_true h, decide_eq_true (show n.natAbs ≠ 0 by omega)]; rfl
  · rw [decide_eq_false h]; rfl

/-! ### signs, order -/
theorem i_sign (z : Int) : F_i_Big_sign (big z) = some (cmpZ z 0) := by
  unfold F_i_Big_sign big
  by_cases h0 : z = 0
  · subst h0
    rw [show (0 : Int).natAbs = 0 from rfl, lim_zero]
    rfl
  · have : ((((lim z.natAbs).length : Nat) : Int) == 0) = false := beq_eq_false_iff_ne.2 (by
      intro h
      have h2 : lim z.natAbs = [] := List.eq_nil_of_length_eq_zero (by omega)
      have := lim_nil.1 h2
      omega)
    rw [this]
    by_cases h : z < 0
    · rw [decide_eq_true h, cmpZ_lt h]; rfl
    · rw [decide_eq_false h, cmpZ_gt (by omega)]; rfl

theorem i_compareBig {x y : Int} {k : Nat} (hk : k ≤ 1000000) (hx : (x.natAbs : Int) < B k) (hy : (y.natAbs : Int) < B k) : F_i_compareBig (big x) (big y) = some (cmpZ x y) := by
  have lx := lim_short hx hk
  have ly := lim_short hy hk
  unfold F_i_compareBig
  have e1 : F_i_Big_sign ((big x).1, (big x).2) = some (cmpZ x 0) := i_sign x
  have e2 : F_i_Big_sign ((big y).1, (big y).2) = some (cmpZ y 0) := i_sign y
  simp only [e1, e2, Option.bind_some, i_Compare]
  have e3 : F_i_compareLimbs (big x).2 (big y).2 = some (cmpZ (x.natAbs : Int) (y.natAbs : Int)) := i_compareLimbs (by unfold Brief; omega) (by unfold Brief; omega)
  rw [e3]
  have cx := cmpZ_cases x 0
  have cy := cmpZ_cases y 0
  have c3 := cmpZ_cases (x.natAbs : Int) (y.natAbs : Int)
  have cxy := cmpZ_cases x y
  have cs := cmpZ_cases (cmpZ x 0) (cmpZ y 0)
  by_cases h : cmpZ x 0 = cmpZ y 0
  · rw [h, bne_self_eq_false]
    simp only [cond_false, Option.bind_some]
    rcases cy with ⟨cy, _⟩ | ⟨cy, _⟩ | ⟨cy, _⟩ <;> rw [cy] at h ⊢ <;> rcases c3 with ⟨c3, _⟩ | ⟨c3, _⟩ | ⟨c3, _⟩ <;> rw [c3] <;> rw [wrapI (by omega) (by omega)] <;> congr 1 <;> omega
  · have hb : (cmpZ x 0 != cmpZ y 0) = true := by simpa using h
    rw [hb]
    simp only [cond_true]
    congr 1
    omega

theorem i_checked {z : Int} : F_i_checked (big z) = some (if (z.natAbs : Int) < B 40 then (big z, true) else ((false, []), false)) := by
  unfold F_i_checked big
  dsimp only
  by_cases h : (z.natAbs : Int) < B 40
  · have := lim_len.2 h
    rw [decide_eq_false (by omega), if_pos h]; rfl
  · have : ¬ (lim z.natAbs).length ≤ 40 := fun hh => h (lim_len.1 hh)
    rw [decide_eq_true (by omega), if_neg h]; rfl
theorem s_l1Fits {z : Int} : F_s_l1Fits (big z) = some (if (z.natAbs : Int) < B 40 then (big z, true) else ((false, []), false)) := by
  unfold F_s_l1Fits big
  dsimp only
  by_cases h : (z.natAbs : Int) < B 40
  · have := lim_len.2 h
    rw [decide_eq_false (by omega), if_pos h]; rfl
  · have : ¬ (lim z.natAbs).length ≤ 40 := fun hh => h (lim_len.1 hh)
    rw [decide_eq_true (by omega), if_neg h]; rfl
end Go.Proofs.Ytohhlnabfcbknaa.Ev
