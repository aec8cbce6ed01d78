/- The law FnProducts, over its typed text. -/
import Derived.Test.YtohhlnabfcbknaaCPuBigT
namespace Go.Proofs.Ytohhlnabfcbknaa.Ev
open Go
set_option linter.unusedVariables false
set_option linter.unusedSimpArgs false
set_option linter.unusedSectionVars false

theorem l_zeroBig' (z : Int) (n : Bool) : F_l_zeroBig (n, (big z).2) = some (decide (z = 0)) := l_zeroBig z

theorem obs {α β : Type} (a : α) (f : α → Option β) : (some a).bind f = f a := (rfl)
theorem cT {α : Type} (a b : α) : (bif true then a else b) = a := (rfl)
theorem cF {α : Type} (a b : α) : (bif false then a else b) = b := (rfl)
theorem nT : (!true) = false := (rfl)
theorem nF : (!false) = true := (rfl)
theorem fitsR_pos {z : Int} (h : (z.natAbs : Int) < B 40) : fitsR z = (big z, true) := by unfold fitsR; rw [if_pos h]
theorem fitsR_neg {z : Int} (h : ¬ (z.natAbs : Int) < B 40) : fitsR z = ((false, []), false) := by unfold fitsR; rw [if_neg h]
theorem fitsR_brief (z : Int) : (fitsR z).1.2.length ≤ 1000000 := by
  unfold fitsR
  by_cases h : (z.natAbs : Int) < B 40
  · rw [if_pos h]; have := lim_len.2 h; unfold big; dsimp only; omega
  · rw [if_neg h]; simp

theorem products_last {b : List Int} (hb : Cur 0 (b, 0, 0)) :
    ((F_s_DrawIntOf b).bind fun x38 => ((F_i_IntOf (x38.1, x38.2))).bind fun x39 => ((F_s_IntOf (x38.1, x38.2))).bind fun x40 => bif (x39.2 == x40.2) then some (x39.1 == x40.1) else some false) = some true := by
  obtain ⟨z, e, hz⟩ := draw_intOf hb
  have hz' : Brief z.2 := by unfold Brief; omega
  simp only [e, Option.bind_some, peta]
  cases hg : goodB z with
  | false => simp only [i_IntOf_bad hz' hg, s_IntOf_bad hz' hg, Option.bind_some, beq_self_eq_true, cond_true]
  | true =>
    obtain ⟨v, hv, rfl⟩ := goodB_iff.1 hg
    simp only [i_IntOf hv, s_IntOf hv, Option.bind_some, beq_self_eq_true, cond_true]

theorem abs_tdiv_le (x y : Int) : (x.tdiv y).natAbs ≤ x.natAbs := by rw [Int.natAbs_tdiv]; exact Nat.div_le_self _ _
theorem abs_tmod_lt (x y : Int) (h : y ≠ 0) : (x.tmod y).natAbs < y.natAbs := by rw [Int.natAbs_tmod]; exact Nat.mod_lt _ (by omega)
theorem abs_tmod_le (x y : Int) : (x.tmod y).natAbs ≤ x.natAbs := by rw [Int.natAbs_tmod]; exact Nat.mod_le _ _
theorem tdiv_mul_abs (x y : Int) : (x.tdiv y * y).natAbs ≤ x.natAbs := by rw [Int.natAbs_mul, Int.natAbs_tdiv]; exact Nat.div_mul_le_self _ _
theorem tmod_sign {x y : Int} (h : x.tmod y ≠ 0) : decide (x.tmod y < 0) = decide (x < 0) := by
  have hb := big_tmod x y
  unfold big at hb
  have h1 := congrArg Prod.fst hb
  simp only at h1
  have h2 : x.natAbs % y.natAbs ≠ 0 := by rw [← Int.natAbs_tmod]; omega
  rw [decide_eq_true h2, Bool.and_true] at h1
  exact h1.symm

theorem pureFnProducts {a b : List Int} (ha : ∀ x ∈ a, 0 ≤ x ∧ x ≤ 255) (hb : ∀ x ∈ b, 0 ≤ x ∧ x ≤ 255) (la : a.length ≤ 1000000000000000) (lb : b.length ≤ 1000000000000000) : F_l_FnProducts a b = some true := by
  unfold F_l_FnProducts
  rw [wrapI (by omega) (by omega)]
  by_cases hl : (a.length : Int) + (b.length : Int) > 1048576
  · rw [decide_eq_true hl]; rfl
  rw [decide_eq_false hl]
  have ca : Cur 0 (a, 0, 0) := .start ha (by omega)
  have cb : Cur 0 (b, 0, 0) := .start hb (by omega)
  have last := products_last cb
  obtain ⟨u, v, e1, lu, lv⟩ := draw_compare ca
  have bu : Brief u.2 := by unfold Brief; omega
  have bv : Brief v.2 := by unfold Brief; omega
  have hdraw : F_s_DrawMulBig a = some (u, v) := by unfold F_s_DrawMulBig; rw [e1]; rfl
  simp only [cF, hdraw, obs, peta]
  cases hg : (goodB u && goodB v) with
  | false =>
    simp only [i_MulBig_bad bu bv hg, s_MulBig_bad bu bv hg, i_HalvesMul_bad bu bv hg, s_HalvesMul_bad bu bv hg, i_DivBig_bad bu bv hg, s_DivBig_bad bu bv hg, i_GcdBig_bad bu bv hg, s_GcdBig_bad bu bv hg, obs, beq_self_eq_true, nT, cF,
      l_sameBig (a := (false, ([] : List Int))) (by simp), Sum.elim_inr]
    exact last
  | true =>
    simp only [Bool.and_eq_true] at hg
    obtain ⟨x, hx, rfl⟩ := goodB_iff.1 hg.1
    obtain ⟨y, hy, rfl⟩ := goodB_iff.1 hg.2
    have same : ∀ z : Int, (z.natAbs : Int) < B 40 → F_l_sameBig (big z) (big z) = some true := fun z hz => l_sameBig (by have := lim_len.2 hz; unfold big; dsimp only; omega)
    have same0 : F_l_sameBig (false, ([] : List Int)) (false, ([] : List Int)) = some true := l_sameBig (by simp)
    have sameF : F_l_sameBig (fitsR (x * y)).1 (fitsR (x * y)).1 = some true := l_sameBig (fitsR_brief _)
    have hgx : (((Int.gcd x y : Nat) : Int).natAbs : Int) < B 40 := by
      rw [Int.natAbs_natCast]
      by_cases h0 : x.natAbs = 0
      · have : Int.gcd x y = y.natAbs := by unfold Int.gcd; rw [h0, Nat.gcd_zero_left]
        omega
      · have := Nat.gcd_le_left y.natAbs (show 0 < x.natAbs by omega)
        unfold Int.gcd
        omega
    have dsame : ∀ z w : Int, (z.natAbs : Int) < B 40 → (w.natAbs : Int) < B 40 → F_l_sameBig (big (z.tdiv w)) (big (z.tdiv w)) = some true ∧ F_l_sameBig (big (z.tmod w)) (big (z.tmod w)) = some true := fun z w hz hw =>
      ⟨same _ (by have := abs_tdiv_le z w; omega), same _ (by have := abs_tmod_le z w; omega)⟩
    -- the last part but one
    have gcds : (bif (true : Bool) then
          ((F_l_zeroBig (big (Int.gcd x y : Nat)))).bind fun x30 =>
          bif (!x30) then
            ((F_i_DivBig (big x) (big (Int.gcd x y : Nat)))).bind fun x31 =>
            ((F_i_DivBig (big y) (big (Int.gcd x y : Nat)))).bind fun x32 =>
            bif (!x31.2.2) then
              some (Sum.inl false)
            else
            bif (!x32.2.2) then
              some (Sum.inl false)
            else
            ((F_l_zeroBig x31.2.1)).bind fun x33 =>
            bif (!x33) then
              some (Sum.inl false)
            else
            ((F_l_zeroBig x32.2.1)).bind fun x34 =>
            bif (!x34) then
              some (Sum.inl false)
            else
            bif (big (Int.gcd x y : Nat)).1 then
              some (Sum.inl false)
            else
            some (Sum.inr b)
          else
          some (Sum.inr b)
        else
        some (Sum.inr b)) = some (Sum.inr b : Bool ⊕ List Int) := by
      simp only [cT, l_zeroBig, obs]
      by_cases h0 : ((Int.gcd x y : Nat) : Int) = 0
      · rw [decide_eq_true h0]; rfl
      · rw [decide_eq_false h0]
        have d1 : x.tmod (Int.gcd x y : Nat) = 0 := Int.tmod_eq_zero_of_dvd (Int.gcd_dvd_left ..)
        have d2 : y.tmod (Int.gcd x y : Nat) = 0 := Int.tmod_eq_zero_of_dvd (Int.gcd_dvd_right ..)
        simp only [nF, cT, i_DivBig hx hgx, i_DivBig hy hgx, if_neg h0, obs, nT, cF, l_zeroBig, d1, d2, decide_true]
        rw [show (big (Int.gcd x y : Nat)).1 = false by rw [big_nat]]
        rfl
    simp only [i_MulBig hx hy, s_MulBig hx hy, i_HalvesMul hx hy, s_HalvesMul hx hy, i_DivBig hx hy, s_DivBig hx hy, i_GcdBig hx hy, s_GcdBig hx hy, obs, peta, beq_self_eq_true, nT, cF, sameF, same _ hgx]
    by_cases h0 : y = 0
    · subst h0
      simp only [if_true, beq_self_eq_true, nT, cF, same0, obs]
      refine bind_inr (v := (big x, big 0, (false, []), (false, []), big (Int.gcd x 0 : Nat), b, false, true)) ?_ ?_
      · cases (fitsR (x * 0)).2
        · rfl
        · simp only [cT, l_zeroBig, obs, decide_true, nT, cF]
      · simp only [cF, obs, Sum.elim_inr]
        refine bind_inr (v := b) ?_ last
        exact gcds
    · obtain ⟨s1, s2⟩ := dsame x y hx hy
      simp only [if_neg h0, beq_self_eq_true, nT, cF, s1, s2, obs]
      refine bind_inr (v := (big x, big y, big (x.tdiv y), big (x.tmod y), big (Int.gcd x y : Nat), b, true, true)) ?_ ?_
      · by_cases hf : ((x * y).natAbs : Int) < B 40
        · rw [fitsR_pos hf]
          simp only [cT, l_zeroBig, obs, decide_eq_false h0, nF, i_DivBig hf hy, if_neg h0, nT, cF]
          rw [Int.mul_tdiv_cancel _ h0, Int.mul_tmod_left, same x hx]
          simp only [obs, nT, cF, l_zeroBig, decide_true]
        · rw [fitsR_neg hf]; rfl
      · refine bind_inr (v := (big x, big y, big (Int.gcd x y : Nat), b, true)) ?_ ?_
        · have hq := abs_tdiv_le x y
          have hr := abs_tmod_le x y
          have hqy := tdiv_mul_abs x y
          have hry := abs_tmod_lt x y h0
          have hq' : ((x.tdiv y).natAbs : Int) < B 40 := by omega
          have hr' : ((x.tmod y).natAbs : Int) < B 40 := by omega
          have hqy' : ((x.tdiv y * y).natAbs : Int) < B 40 := by omega
          have hsum : x.tdiv y * y + x.tmod y = x := Int.tdiv_mul_add_tmod ..
          have habs : ∀ z : Int, (false, (big z).2) = big (z.natAbs : Int) := fun z => by rw [big_nat]; rfl
          simp only [cT, i_MulBig hq' hy, obs]
          rw [fitsR_pos hqy']
          simp only [i_AddBig hqy' hr', obs, hsum]
          rw [fitsR_pos hx, habs, habs, i_CompareBig (by rw [Int.natAbs_natCast]; exact hr') (by rw [Int.natAbs_natCast]; exact hy)]
          rw [cmpZ_lt (by omega)]
          simp only [obs, nT, cF, same x hx, l_zeroBig, show decide ((-1 : Int) ≥ 0) = false from rfl]
          by_cases hr0 : x.tmod y = 0
          · rw [decide_eq_true hr0]; rfl
          · rw [decide_eq_false hr0, show (big (x.tmod y)).1 = decide (x.tmod y < 0) from rfl, tmod_sign hr0, show (big x).1 = decide (x < 0) from rfl, beq_self_eq_true]
            rfl
        · refine bind_inr (v := b) ?_ last
          exact gcds
end Go.Proofs.Ytohhlnabfcbknaa.Ev
