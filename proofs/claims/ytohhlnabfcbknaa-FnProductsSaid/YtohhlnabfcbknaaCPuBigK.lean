/- Big numbers: division by one limb. -/
import Derived.Test.YtohhlnabfcbknaaCPuBigJ
namespace Go.Proofs.Ytohhlnabfcbknaa.Ev
open Go
set_option linter.unusedVariables false
set_option linter.unusedSimpArgs false
set_option linter.unusedSectionVars false

theorem divmod_of {a q r by_ : Int} (h : q * by_ + r = a) (h0 : 0 ≤ r) (h1 : r < by_) : q = a / by_ ∧ r = a % by_ := by
  have : a = r + by_ * q := by rw [← h, Int.mul_comm]; omega
  subst this
  constructor
  · rw [Int.add_mul_ediv_left _ _ (by omega), Int.ediv_eq_zero_of_lt h0 h1]; omega
  · rw [Int.add_mul_emod_self_left, Int.emod_eq_of_lt h0 h1]


theorem i_divSmall_loop {a : List Int} {d : Int} (ha : LB a) (hd : 1 ≤ d ∧ d ≤ 65536) (na : a.length ≤ 10000000) :
    ∃ q r, loopM (fun (s : ((List Int) × ((List Int) × (Int × (Int × Int))))) => B_i_divSmall_0 s.1 s.2.1 s.2.2.1 s.2.2.2.1 s.2.2.2.2) (List.replicate a.length 0, (a, (d, (0, (a.length : Int) - 1)))) = some (q, r) ∧ LB q ∧ q.length = a.length ∧ 0 ≤ r ∧ r < d ∧ val q * d + r = val a := by
  obtain ⟨⟨q, r⟩, h1, h2⟩ := down_loop (body := fun (s : ((List Int) × ((List Int) × (Int × (Int × Int))))) => B_i_divSmall_0 s.1 s.2.1 s.2.2.1 s.2.2.2.1 s.2.2.2.2)
    (st := fun n (b : List Int × Int) => (b.1, (a, (d, (b.2, (n : Int) - 1))))) (fin := fun b => b)
    (I := fun n b => n ≤ a.length ∧ LB b.1 ∧ b.1.length = a.length ∧ (∀ j, j < n → dg b.1 j = 0) ∧ 0 ≤ b.2 ∧ b.2 < d ∧ val b.1 * d + B n * b.2 = B n * val (a.drop n))
    (by
      rintro n ⟨q, r⟩ ⟨h1, h2, h3, h4, h5, h6, h7⟩
      simp only at h2 h3 h4 h5 h6 h7
      have hn : n < a.length := by omega
      have hg := List.getElem?_eq_getElem hn
      have dx := dg_lb ha n
      have hx : a[n] = dg a n := (dg_get hg).symm
      have hq : q[n]? = some 0 := by rw [get_of_dg (by omega), h4 n (by omega)]
      have ht0 : 0 ≤ r * 65536 + dg a n := by omega
      have hdd := Int.emod_add_mul_ediv (r * 65536 + dg a n) d
      have m0 := Int.emod_nonneg (r * 65536 + dg a n) (show d ≠ 0 by omega)
      have m1 := Int.emod_lt_of_pos (r * 65536 + dg a n) (show 0 < d by omega)
      have q0 := Int.ediv_nonneg ht0 (show 0 ≤ d by omega)
      have q1 : (r * 65536 + dg a n) / d < 65536 := by
        refine Int.ediv_lt_of_lt_mul (by omega) ?_
        have : r * 65536 + dg a n < d * 65536 := by omega
        rw [Int.mul_comm 65536 d]
        exact this
      refine ⟨(q.set n ((r * 65536 + dg a n) / d), (r * 65536 + dg a n) % d), ?_, by omega, h2.set ⟨q0, q1⟩, by simp [h3], fun j hj => by simp only; rw [dg_set_ne (by omega)]; exact h4 j (by omega), m0, m1, ?_⟩
      · unfold B_i_divSmall_0 getN
        dsimp only
        have hz : (d == 0) = false := beq_eq_false_iff_ne.2 (by omega)
        have hs : ((n + 1 : Nat) : Int) - 1 = (n : Int) := by omega
        have i1 : idxI (n : Int) q.length = some n := idxI_nat (by omega)
        rw [hs, decide_eq_true (by omega), getI_nat, hg]
        simp only [cond_true, Option.bind_some, hz, cond_false, i1, hq, hx]
        rw [wrapI (n := r * 65536) (by omega) (by omega), wrapI (n := r * 65536 + dg a n) (by omega) (by omega), Int.tdiv_eq_ediv_of_nonneg ht0, Int.tmod_eq_emod_of_nonneg ht0, wrapI (n := (r * 65536 + dg a n) / d) (by omega) (by omega), wrapI (n := (n : Int) - 1) (by omega) (by omega)]
      · simp only
        rw [val_set hq, List.drop_eq_getElem_cons hn, hx]
        simp only [val, Int.sub_zero]
        have e1 : B (n + 1) * r = B n * (r * 65536) := by simp only [B]; grind
        have e2 : B (n + 1) * val (a.drop (n + 1)) = B n * (65536 * val (a.drop (n + 1))) := by simp only [B]; grind
        rw [e1, e2] at h7
        have e3 : B n * ((r * 65536 + dg a n) / d) * d + B n * ((r * 65536 + dg a n) % d) = B n * (r * 65536) + B n * dg a n := by
          rw [Int.mul_assoc, ← Int.mul_add, ← Int.mul_add]
          congr 1
          rw [Int.mul_comm _ d]
          omega
        rw [Int.add_mul, Int.mul_add]
        omega)
    (by
      rintro ⟨q, r⟩ _
      unfold B_i_divSmall_0
      rfl) a.length (List.replicate a.length 0, 0) ⟨Nat.le_refl _, LB.zeros _, by simp, fun j _ => by
        unfold dg; rw [List.getD_eq_getElem?_getD, List.getElem?_replicate]; split <;> rfl, by omega, by simp only; omega, by simp [val_zeros, val]⟩
  obtain ⟨g1, g2, g3, g4, g5, g6, g7⟩ := h2
  simp only [B, Int.one_mul, List.drop_zero] at g7
  exact ⟨q, r, h1, g2, g3, g5, g6, g7⟩

theorem s_l1Short_loop {a : List Int} {d : Int} (ha : LB a) (hd : 1 ≤ d ∧ d ≤ 65536) (na : a.length ≤ 10000000) :
    ∃ q r, loopM (fun (s : ((List Int) × ((List Int) × (Int × (Int × Int))))) => B_s_l1Short_0 s.1 s.2.1 s.2.2.1 s.2.2.2.1 s.2.2.2.2) (List.replicate a.length 0, (a, (d, (0, (a.length : Int) - 1)))) = some (q, r) ∧ LB q ∧ q.length = a.length ∧ 0 ≤ r ∧ r < d ∧ val q * d + r = val a := by
  obtain ⟨⟨q, r⟩, h1, h2⟩ := down_loop (body := fun (s : ((List Int) × ((List Int) × (Int × (Int × Int))))) => B_s_l1Short_0 s.1 s.2.1 s.2.2.1 s.2.2.2.1 s.2.2.2.2)
    (st := fun n (b : List Int × Int) => (b.1, (a, (d, (b.2, (n : Int) - 1))))) (fin := fun b => b)
    (I := fun n b => n ≤ a.length ∧ LB b.1 ∧ b.1.length = a.length ∧ (∀ j, j < n → dg b.1 j = 0) ∧ 0 ≤ b.2 ∧ b.2 < d ∧ val b.1 * d + B n * b.2 = B n * val (a.drop n))
    (by
      rintro n ⟨q, r⟩ ⟨h1, h2, h3, h4, h5, h6, h7⟩
      simp only at h2 h3 h4 h5 h6 h7
      have hn : n < a.length := by omega
      have hg := List.getElem?_eq_getElem hn
      have dx := dg_lb ha n
      have hx : a[n] = dg a n := (dg_get hg).symm
      have hq : q[n]? = some 0 := by rw [get_of_dg (by omega), h4 n (by omega)]
      have ht0 : 0 ≤ r * 65536 + dg a n := by omega
      have hdd := Int.emod_add_mul_ediv (r * 65536 + dg a n) d
      have m0 := Int.emod_nonneg (r * 65536 + dg a n) (show d ≠ 0 by omega)
      have m1 := Int.emod_lt_of_pos (r * 65536 + dg a n) (show 0 < d by omega)
      have q0 := Int.ediv_nonneg ht0 (show 0 ≤ d by omega)
      have q1 : (r * 65536 + dg a n) / d < 65536 := by
        refine Int.ediv_lt_of_lt_mul (by omega) ?_
        have : r * 65536 + dg a n < d * 65536 := by omega
        rw [Int.mul_comm 65536 d]
        exact this
      refine ⟨(q.set n ((r * 65536 + dg a n) / d), (r * 65536 + dg a n) % d), ?_, by omega, h2.set ⟨q0, q1⟩, by simp [h3], fun j hj => by simp only; rw [dg_set_ne (by omega)]; exact h4 j (by omega), m0, m1, ?_⟩
      · unfold B_s_l1Short_0 getN
        dsimp only
        have hz : (d == 0) = false := beq_eq_false_iff_ne.2 (by omega)
        have hs : ((n + 1 : Nat) : Int) - 1 = (n : Int) := by omega
        have i1 : idxI (n : Int) q.length = some n := idxI_nat (by omega)
        rw [hs, decide_eq_true (by omega), getI_nat, hg]
        simp only [cond_true, Option.bind_some, hz, cond_false, i1, hq, hx]
        rw [wrapI (n := r * 65536) (by omega) (by omega), wrapI (n := r * 65536 + dg a n) (by omega) (by omega), Int.tdiv_eq_ediv_of_nonneg ht0, Int.tmod_eq_emod_of_nonneg ht0, wrapI (n := (r * 65536 + dg a n) / d) (by omega) (by omega), wrapI (n := (n : Int) - 1) (by omega) (by omega)]
      · simp only
        rw [val_set hq, List.drop_eq_getElem_cons hn, hx]
        simp only [val, Int.sub_zero]
        have e1 : B (n + 1) * r = B n * (r * 65536) := by simp only [B]; grind
        have e2 : B (n + 1) * val (a.drop (n + 1)) = B n * (65536 * val (a.drop (n + 1))) := by simp only [B]; grind
        rw [e1, e2] at h7
        have e3 : B n * ((r * 65536 + dg a n) / d) * d + B n * ((r * 65536 + dg a n) % d) = B n * (r * 65536) + B n * dg a n := by
          rw [Int.mul_assoc, ← Int.mul_add, ← Int.mul_add]
          congr 1
          rw [Int.mul_comm _ d]
          omega
        rw [Int.add_mul, Int.mul_add]
        omega)
    (by
      rintro ⟨q, r⟩ _
      unfold B_s_l1Short_0
      rfl) a.length (List.replicate a.length 0, 0) ⟨Nat.le_refl _, LB.zeros _, by simp, fun j _ => by
        unfold dg; rw [List.getD_eq_getElem?_getD, List.getElem?_replicate]; split <;> rfl, by omega, by simp only; omega, by simp [val_zeros, val]⟩
  obtain ⟨g1, g2, g3, g4, g5, g6, g7⟩ := h2
  simp only [B, Int.one_mul, List.drop_zero] at g7
  exact ⟨q, r, h1, g2, g3, g5, g6, g7⟩

theorem i_divSmall {n : Nat} {d : Int} (hd : 1 ≤ d ∧ d ≤ 65536) (hn : (lim n).length ≤ 10000000) : F_i_divSmall (lim n) d = some (lim (n / d.toNat), ((n % d.toNat : Nat) : Int)) := by
  obtain ⟨q, r, h1, h2, h3, h4, h5, h6⟩ := i_divSmall_loop (lim_lb n) hd hn
  rw [lim_val] at h6
  unfold F_i_divSmall
  rw [lenI_nat (by unfold maxBytes; omega) (by unfold maxBytes; omega), wrapI (by omega) (by omega)]
  simp only [Option.bind_some, h1]
  rw [i_cut (by unfold Brief; omega)]
  simp only [Option.bind_some]
  rw [strip_lim h2]
  obtain ⟨e1, e2⟩ := divmod_of h6 h4 h5
  have hdn : d = (d.toNat : Int) := by omega
  have hv := val_nonneg h2
  have q1 : (val q).toNat = n / d.toNat := by
    have : val q = ((n / d.toNat : Nat) : Int) := by rw [e1, hdn]; simp
    omega
  have q2 : r = ((n % d.toNat : Nat) : Int) := by rw [e2, hdn]; simp
  rw [q1, q2]

theorem s_l1Short {n : Nat} {d : Int} (hd : 1 ≤ d ∧ d ≤ 65535) (hn : (lim n).length ≤ 10000000) : F_s_l1Short (lim n) d = some (lim (n / d.toNat), lim (n % d.toNat)) := by
  obtain ⟨q, r, h1, h2, h3, h4, h5, h6⟩ := s_l1Short_loop (lim_lb n) (show 1 ≤ d ∧ d ≤ 65536 by omega) hn
  rw [lim_val] at h6
  unfold F_s_l1Short
  rw [lenI_nat (by unfold maxBytes; omega) (by unfold maxBytes; omega), wrapI (by omega) (by omega)]
  simp only [Option.bind_some, h1]
  rw [s_l1Cut (by unfold Brief; omega)]
  simp only [Option.bind_some]
  rw [s_l1Cut (by unfold Brief; simp)]
  simp only [Option.bind_some]
  rw [strip_lim h2, strip_lim (LB.cons (by omega) LB.nil)]
  obtain ⟨e1, e2⟩ := divmod_of h6 h4 h5
  have hdn : d = (d.toNat : Int) := by omega
  have hv := val_nonneg h2
  have q1 : (val q).toNat = n / d.toNat := by
    have : val q = ((n / d.toNat : Nat) : Int) := by rw [e1, hdn]; simp
    omega
  have q2 : (val [r]).toNat = n % d.toNat := by
    have : r = ((n % d.toNat : Nat) : Int) := by rw [e2, hdn]; simp
    simp only [val]
    omega
  rw [q1, q2]
end Go.Proofs.Ytohhlnabfcbknaa.Ev
