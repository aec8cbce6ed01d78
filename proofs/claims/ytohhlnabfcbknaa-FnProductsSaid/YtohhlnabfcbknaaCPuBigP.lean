/- Long division: the whole of impl's. -/
import Derived.Test.YtohhlnabfcbknaaCPuBigO
namespace Go.Proofs.Ytohhlnabfcbknaa.Ev
open Go
set_option linter.unusedVariables false
set_option linter.unusedSimpArgs false
set_option linter.unusedSectionVars false

theorem idx_nat {n : Int} {i len : Nat} (hn : n = (i : Int)) (h : i < len) : idxI n len = some i := by rw [hn]; exact idxI_nat h
theorem getI_dg {l : List Int} {n : Int} {i : Nat} (hn : n = (i : Int)) (h : i < l.length) : getI l n = some (dg l i) := by rw [hn, getI_nat]; exact get_of_dg h
theorem subI_nat' {n m : Int} {a b k : Nat} (hn : n = (a : Int)) (hm : m = (b : Int)) (h1 : a ≤ b) (h2 : b ≤ k) : subI n m k = some (a, b) := by
  subst hn hm; unfold subI; simp [h1, h2]

theorem lim_one {b : Nat} (h : (lim b).length = 1) : (lim b) = [(b : Int)] ∧ b < 65536 ∧ b ≠ 0 := by
  match hl : lim b with
  | [] => rw [hl] at h; simp at h
  | [x] =>
    have hv := lim_val b
    have hb := lim_lb b
    rw [hl] at hv hb
    have h0 := hb.head
    simp only [val] at hv
    have : b ≠ 0 := fun h0 => by rw [h0, lim_zero] at hl; simp at hl
    exact ⟨by congr 1; omega, by omega, this⟩
  | x :: y :: l => rw [hl] at h; simp at h

theorem divmul_nat {a b c : Nat} (hc : 0 < c) : a * c / (b * c) = a / b ∧ a * c % (b * c) = a % b * c := ⟨Nat.mul_div_mul_right _ _ hc, Nat.mul_mod_mul_right _ _ _⟩

/-- A number by which the top limb becomes great. -/
theorem scale {t by_ : Int} (h1 : 1 ≤ t) (h2 : t < 65536) (hb : by_ = 65536 / (t + 1)) : 1 ≤ by_ ∧ by_ ≤ 32768 ∧ by_ * (t + 1) ≤ 65536 := by
  have e1 := Int.emod_add_mul_ediv 65536 (t + 1)
  have e2 := Int.emod_nonneg 65536 (show t + 1 ≠ 0 by omega)
  have e3 := Int.emod_lt_of_pos 65536 (show 0 < t + 1 by omega)
  rw [← hb] at e1
  have e4 : 1 ≤ by_ := by
    rw [hb]
    exact (Int.le_ediv_iff_mul_le (by omega)).2 (by omega)
  have e5 : by_ * 2 ≤ by_ * (t + 1) := Int.mul_le_mul_of_nonneg_left (by omega) (by omega)
  rw [Int.mul_comm] at e1
  exact ⟨e4, by omega, by omega⟩

set_option maxHeartbeats 1000000 in
theorem i_divLimbs {a b : Nat} (hb0 : b ≠ 0) (ha : (lim a).length ≤ 90000) (hb : (lim b).length ≤ 90000) : F_i_divLimbs (lim a) (lim b) = some (lim (a / b), lim (a % b)) := by
  unfold F_i_divLimbs
  rw [i_compareLimbs (by unfold Brief; omega) (by unfold Brief; omega)]
  simp only [Option.bind_some]
  by_cases hab : a < b
  · rw [cmpZ_lt (by omega)]
    simp only [show decide ((-1 : Int) < 0) = true from rfl, cond_true]
    rw [Nat.div_eq_of_lt hab, Nat.mod_eq_of_lt hab, lim_zero]
  have hc : decide (cmpZ (a : Int) b < 0) = false := by
    rcases cmpZ_cases (a : Int) b with ⟨h, g⟩ | ⟨h, _⟩ | ⟨h, _⟩
    · omega
    · rw [h]; rfl
    · rw [h]; rfl
  simp only [hc, cond_false]
  have hbl : (lim b).length ≠ 0 := fun h => hb0 (lim_nil.1 (List.eq_nil_of_length_eq_zero h))
  by_cases h1 : (lim b).length = 1
  · obtain ⟨e1, e2, e3⟩ := lim_one h1
    rw [e1]
    simp only [List.length_singleton, show (((1 : Nat) : Int) == 1) = true from rfl, cond_true]
    rw [show getI [(b : Int)] 0 = some (b : Int) from rfl]
    simp only [Option.bind_some]
    rw [i_divSmall (by omega) (by omega)]
    simp only [Option.bind_some, Int.toNat_natCast]
    rw [i_cut (by unfold Brief; simp)]
    have hm := Nat.mod_lt a (show b > 0 by omega)
    simp only [Option.bind_some, strip_lim (LB.cons (show (0 : Int) ≤ ((a % b : Nat) : Int) ∧ ((a % b : Nat) : Int) < 65536 by omega) LB.nil), val]
    congr 3
  have hn1 : ((((lim b).length : Nat) : Int) == 1) = false := beq_eq_false_iff_ne.2 (by omega)
  obtain ⟨m, hm⟩ : ∃ m, (lim b).length = m + 2 := ⟨(lim b).length - 2, by omega⟩
  obtain ⟨t1, t2, t3, t4⟩ := lim_top hb0
  rw [hm, show m + 2 - 1 = m + 1 by omega] at t1 t2 t3 t4
  have hg := getI_dg (l := lim b) (n := IntKind.wrap .i64 (((lim b).length : Int) - 1)) (i := m + 1) (by rw [wrapI (by omega) (by omega)]; omega) (by omega)
  generalize ht : dg (lim b) (m + 1) = t at *
  have wt : IntKind.wrap .i64 (t + 1) = t + 1 := wrapI (by omega) (by omega)
  have hz : (t + 1 == 0) = false := beq_eq_false_iff_ne.2 (by omega)
  obtain ⟨s1, s2, s3⟩ := scale t1 t2 rfl
  have hby : IntKind.wrap .i64 (Int.tdiv 65536 (t + 1)) = 65536 / (t + 1) := by rw [Int.tdiv_eq_ediv_of_nonneg (by omega)]; exact wrapI (by omega) (by omega)
  generalize hby2 : 65536 / (t + 1) = by_ at *
  obtain ⟨c, rfl⟩ : ∃ c : Nat, by_ = (c : Int) := ⟨by_.toNat, by omega⟩
  have hb40 : (lim a).length ≤ 90000 := ha
  have hBa : (a : Int) < B (lim a).length := lim_len.1 (Nat.le_refl _)
  have hBb : (b : Int) < B (lim b).length := lim_len.1 (Nat.le_refl _)
  have hB1 : B 1 = 65536 := rfl
  have fitc : ∀ k, 1 ≤ k → (((c : Int)).natAbs : Int) < B k := fun k hk => by
    have := B_mono hk
    omega
  have hk1 : 1 ≤ (lim a).length := by
    rcases Nat.eq_zero_or_pos (lim a).length with h | h
    · have := lim_nil.1 (List.eq_nil_of_length_eq_zero h); omega
    · exact h
  obtain ⟨ra, hra, era⟩ := i_Big_mul (x := (a : Int)) (y := (c : Int)) (k := (lim a).length) (by omega) (by rw [Int.natAbs_natCast]; exact hBa) (fitc _ hk1)
  obtain ⟨rb, hrb, erb⟩ := i_Big_mul (x := (b : Int)) (y := (c : Int)) (k := (lim b).length) (by omega) (by rw [Int.natAbs_natCast]; exact hBb) (fitc _ (by omega))
  have bn : ∀ n : Nat, big (n : Int) = (false, lim n) := fun n => by unfold big; rw [decide_eq_false (by omega), Int.natAbs_natCast]
  have ra1 : ra.1 = lim (a * c) := by rw [show (a : Int) * c = ((a * c : Nat) : Int) by simp, bn] at era; exact (Prod.ext_iff.1 era).2
  have rb1 : rb.1 = lim (b * c) := by rw [show (b : Int) * c = ((b * c : Nat) : Int) by simp, bn] at erb; exact (Prod.ext_iff.1 erb).2
  rw [bn, bn] at hra hrb
  have mkb : ∀ n : Nat, (lim n).length ≤ 90000 → F_i_bigOf false (lim n) = some (lim n, false) := fun n hn => by
    rw [i_bigOf (lim_lb n) (by unfold Brief; omega), lim_val]; simp
  simp only [hn1, cond_false, hg, Option.bind_some, wt, hz, hby, mkb a ha, mkb b hb, i_BigOf (n := (c : Int)) (by omega) (by omega), bn, hra, hrb, ra1, rb1]
  -- the lengths
  have hc0 : 0 < c := by omega
  have la : (lim a).length ≤ (lim (a * c)).length := by
    rw [lim_len]
    have h1 : ((a * c : Nat) : Int) < B (lim (a * c)).length := lim_len.1 (Nat.le_refl _)
    have : a * 1 ≤ a * c := Nat.mul_le_mul_left _ (by omega)
    omega
  have la2 : (lim (a * c)).length ≤ (lim a).length + 1 := by
    rw [lim_len]
    rw [show ((a * c : Nat) : Int) = (a : Int) * c by simp]
    have e1 : (a : Int) * c ≤ a * 65536 := Int.mul_le_mul_of_nonneg_left (by omega) (by omega)
    simp only [B]
    omega
  have lb : (lim (b * c)).length = m + 2 := by
    apply Nat.le_antisymm
    · rw [lim_len]
      rw [show ((b * c : Nat) : Int) = (b : Int) * c by simp]
      have e1 : (b : Int) * c < B (m + 1) * (t + 1) * c := Int.mul_lt_mul_of_pos_right t4 (by omega)
      have e2 : B (m + 1) * ((c : Int) * (t + 1)) ≤ B (m + 1) * 65536 := Int.mul_le_mul_of_nonneg_left s3 (Int.le_of_lt (B_pos _))
      have e3 : B (m + 1) * (t + 1) * c = B (m + 1) * ((c : Int) * (t + 1)) := by rw [Int.mul_assoc, Int.mul_comm (t + 1)]
      have e4 : B (m + 2) = B (m + 1) * 65536 := by simp only [B]; omega
      omega
    · rw [← hm, lim_len]
      have h1 : ((b * c : Nat) : Int) < B (lim (b * c)).length := lim_len.1 (Nat.le_refl _)
      have : b * 1 ≤ b * c := Nat.mul_le_mul_left _ (by omega)
      omega
  have happ : appL 8 1 (lim (a * c)) [0] = some (lim (a * c) ++ [0]) := app1 (by omega)
  have hle : (lim b).length ≤ (lim a).length := by
    rw [lim_len]; omega
  simp only [happ, Option.bind_some]
  rw [loop_end (r := (lim (a * c) ++ [0], (lim (b * c), (((lim b).length : Int), (c : Int))))) (by
    unfold B_i_divLimbs_0
    dsimp only
    rw [wrapI (by omega) (by omega), decide_eq_false (by simp; omega)]
    rfl)]
  simp only [Option.bind_some]
  have hlu : (lim (a * c) ++ [(0 : Int)]).length = ((lim (a * c)).length - (m + 1)) + (m + 2) := by simp; omega
  have wl : IntKind.wrap .i64 (((lim (a * c) ++ [(0 : Int)]).length : Int) - ((lim b).length : Int)) = (((lim (a * c)).length - (m + 1) : Nat) : Int) := by
    rw [wrapI (by omega) (by omega)]; omega
  generalize hn : (lim (a * c)).length - (m + 1) = n at *
  rw [wl, lenI_nat (by unfold maxBytes; omega) (by unfold maxBytes; omega)]
  simp only [Option.bind_some]
  have hval0 : val (lim (a * c) ++ [(0 : Int)]) = ((a * c : Nat) : Int) := by rw [val_snoc, lim_val]; omega
  have hlb0 : LB (lim (a * c) ++ [(0 : Int)]) := (lim_lb _).append (LB.cons (by omega) LB.nil)
  have hbc0 : b * c ≠ 0 := Nat.mul_ne_zero hb0 (by omega)
  have htop := (lim_top hbc0).1
  rw [lb, show m + 2 - 1 = m + 1 by omega] at htop
  obtain ⟨u, out, hp, P⟩ := i_places (by_ := (c : Int)) (lim_lb (b * c)) lb htop (by omega) (Places.start hlb0 (lim_lb _) lb htop hlu (by
    unfold dg
    rw [List.getD_eq_getElem?_getD, List.getElem?_append_right (by omega), show n + (m + 1) - (lim (a * c)).length = 0 by omega]
    rfl))
  rw [show ((lim b).length : Int) = ((m + 2 : Nat) : Int) by omega, wrapI (by omega) (by omega), hp]
  simp only [Option.bind_some]
  obtain ⟨p1, p2⟩ := P.end (lim_lb _)
  rw [hval0, lim_val] at p1 p2
  obtain ⟨q1, q2⟩ := divmul_nat (a := a) (b := b) hc0
  have p1' : val out = ((a / b : Nat) : Int) := by rw [p1, ← q1]; simp
  have p2' : val u = ((a % b * c : Nat) : Int) := by rw [p2, ← q2]; simp
  have hul := P.len
  have hol := P.olen
  rw [subI_nat' (a := 0) (b := m + 2) (by rfl) rfl (by omega) (by omega)]
  simp only [Option.bind_some, List.drop_zero, Nat.sub_zero, Nat.zero_add]
  have hless := P.less
  rw [List.drop_zero, lim_val] at hless
  have hbc : ((b * c : Nat) : Int) < B (m + 2) := by rw [← lb]; exact lim_len.1 (Nat.le_refl _)
  have hvt : val (u.take (m + 2)) = val u := by
    have h1 := val_parts u (m + 2)
    have h2 := (dg_high P.lu (n := m + 2) (k := m + 2) (by omega) (Nat.le_refl _)).2
    rw [h2] at h1
    omega
  rw [i_cut (by unfold Brief; rw [List.length_take]; omega)]
  simp only [Option.bind_some]
  rw [strip_lim (P.lu.take _), hvt, p2', Int.toNat_natCast, i_divSmall (by omega) (by
    have : (lim (a % b * c)).length ≤ m + 2 := by
      rw [lim_len]
      have := Nat.mul_lt_mul_of_pos_right (Nat.mod_lt a (show b > 0 by omega)) hc0
      omega
    omega)]
  simp only [Option.bind_some]
  rw [i_cut (by unfold Brief; omega)]
  simp only [Option.bind_some]
  rw [strip_lim P.lo, p1', Int.toNat_natCast, Int.toNat_natCast, Nat.mul_div_cancel _ hc0]
end Go.Proofs.Ytohhlnabfcbknaa.Ev
