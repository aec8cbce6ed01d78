/- Big numbers: the reference's products. -/
import Derived.Test.YtohhlnabfcbknaaCPuBigD
namespace Go.Proofs.Ytohhlnabfcbknaa.Ev
open Go
set_option linter.unusedVariables false
set_option linter.unusedSimpArgs false
set_option linter.unusedSectionVars false

theorem s_mul_row {out0 b : List Int} {i : Nat} {x : Int} (hx : 0 ≤ x ∧ x < 65536) (h0 : LB out0) (hb : LB b) (hlen : i + b.length < out0.length) (hz : ∀ j, i + b.length ≤ j → dg out0 j = 0) (ho : out0.length ≤ 10000000) (s6 : List Int) (s7 s8 : Int) :
    ∃ out, loopM (fun (s : ((List Int) × ((List Int) × (Int × (Int × (Int × (Int × ((List Int) × (Int × Int))))))))) => B_s_l1MulLimbs_1 s.1 s.2.1 s.2.2.1 s.2.2.2.1 s.2.2.2.2.1 s.2.2.2.2.2.1 s.2.2.2.2.2.2.1 s.2.2.2.2.2.2.2.1 s.2.2.2.2.2.2.2.2) (out0, (b, ((i : Int), (x, ((0 : Int), ((0 : Int), (s6, (s7, s8)))))))) = some (out, (b, (s6, (s7, s8)))) ∧
      out.length = out0.length ∧ LB out ∧ (∀ j, i + 1 + b.length ≤ j → dg out j = 0) ∧ val out = val out0 + B i * (x * val b) := by
  obtain ⟨r, h1, out, rfl, h2⟩ := loop_one (f := fun (s : ((List Int) × ((List Int) × (Int × (Int × (Int × (Int × ((List Int) × (Int × Int))))))))) => B_s_l1MulLimbs_1 s.1 s.2.1 s.2.2.1 s.2.2.2.1 s.2.2.2.2.1 s.2.2.2.2.2.1 s.2.2.2.2.2.2.1 s.2.2.2.2.2.2.2.1 s.2.2.2.2.2.2.2.2)
    (I := fun s => ∃ (k : Nat) (out : List Int) (c : Int), s = (out, (b, ((i : Int), (x, (c, ((k : Int), (s6, (s7, s8)))))))) ∧ k ≤ b.length + 1 ∧ Row out0 out i k c x b ∧ (k = b.length + 1 → c = 0))
    (R := fun r => ∃ out, r = (out, (b, (s6, (s7, s8)))) ∧ out.length = out0.length ∧ LB out ∧ (∀ j, i + 1 + b.length ≤ j → dg out j = 0) ∧ val out = val out0 + B i * (x * val b)) (fun s => (b.length + 2 - s.2.2.2.2.2.1).toNat) (by
      rintro s ⟨k, out, c, rfl, hk, hR, hc⟩
      simp only
      have hl := hR.len
      have c0 := hR.c0
      have c1 := hR.c1
      by_cases hgo : k < b.length ∨ c > 0
      · have hkb : k ≤ b.length := by
          rcases hgo with h | h
          · omega
          · rcases Nat.lt_or_ge b.length k with h6 | h6
            · have := hc (by omega); omega
            · exact h6
        have hp : i + k < out.length := by omega
        have hs := digit_step (dg_lb hR.lb (i + k)) hx (dg_lb hb k) ⟨c0, c1⟩
        have dl := dg_lb hR.lb (i + k)
        refine .inl ⟨(out.set (i + k) ((dg out (i + k) + x * dg b k + c) % 65536), (b, ((i : Int), (x, ((dg out (i + k) + x * dg b k + c) / 65536, (((k + 1 : Nat) : Int), (s6, (s7, s8)))))))), ?_, ⟨k + 1, _, _, rfl, by omega, hR.next hb hx hp, fun he => ?_⟩, by simp only; omega⟩
        · unfold B_s_l1MulLimbs_1 getN
          have hcond : (bif decide ((k : Int) < ((b.length : Nat) : Int)) then some (Sum.inr (α := (List Int × List Int × Int × Int × Int × Int × List Int × Int × Int) ⊕ (List Int × List Int × List Int × Int × Int)) (out, (b, ((i : Int), (x, (c, ((k : Int), (s6, (s7, s8))))))))) else bif decide (c > 0) then some (Sum.inr (out, (b, ((i : Int), (x, (c, ((k : Int), (s6, (s7, s8))))))))) else some (Sum.inl (Sum.inr (out, (b, (s6, (s7, s8))))))) = some (Sum.inr (out, (b, ((i : Int), (x, (c, ((k : Int), (s6, (s7, s8))))))))) := by
            by_cases g1 : (k : Int) < (b.length : Int)
            · rw [decide_eq_true g1]; rfl
            · have : c > 0 := by rcases hgo with h | h <;> omega
              rw [decide_eq_false g1, decide_eq_true this]; rfl
          rw [hcond]
          have i1 : idxI ((i : Int) + (k : Int)) out.length = some (i + k) := by rw [show (i : Int) + (k : Int) = ((i + k : Nat) : Int) by omega]; exact idxI_nat hp
          simp only [Option.bind_some, Sum.elim_inr]
          rw [wrapI (n := (i : Int) + (k : Int)) (by omega) (by omega), i1]
          simp only [Option.bind_some, get_of_dg hp, s_l1Limb]
          rw [wrapI (n := x * dg b k) (by omega) (by omega), wrapI (n := dg out (i + k) + x * dg b k) (by omega) (by omega), wrapI (n := dg out (i + k) + x * dg b k + c) (by omega) (by omega),
            Int.tmod_eq_emod_of_nonneg (by omega), Int.tdiv_eq_ediv_of_nonneg (by omega), wrapI (n := (dg out (i + k) + x * dg b k + c) / 65536) (by omega) (by omega), wrap1 (by omega)]
        · have hkb' : k = b.length := by omega
          have z1 : dg b k = 0 := dg_out (by omega)
          have z2 : dg out (i + k) = 0 := by rw [hR.hi _ (Nat.le_refl _), hz _ (by omega)]
          rw [z1, z2, Int.mul_zero]
          omega
      · have hkb : b.length ≤ k := by omega
        have hcz : c = 0 := by omega
        subst hcz
        refine .inr ⟨_, ?_, out, rfl, hl, hR.lb, fun j hj => ?_, ?_⟩
        · unfold B_s_l1MulLimbs_1
          rw [decide_eq_false (by omega), decide_eq_false (by omega)]
          rfl
        · rw [hR.hi j (by omega), hz j (by omega)]
        · have := hR.v
          rw [List.take_of_length_le hkb] at this
          omega) (out0, (b, ((i : Int), (x, ((0 : Int), ((0 : Int), (s6, (s7, s8)))))))) ⟨0, out0, 0, rfl, by omega, Row.start h0 i x b, by omega⟩
  exact ⟨out, h1, h2⟩

theorem s_l1MulLimbs {a b : List Int} (ha : LB a) (hb : LB b) (na : a.length ≤ 100000) (nb : b.length ≤ 100000) : F_s_l1MulLimbs a b = some (lim (val a * val b).toNat) := by
  unfold F_s_l1MulLimbs
  rw [wrapI (n := ((a.length : Nat) : Int) + ((b.length : Nat) : Int)) (by omega) (by omega), wrapI (by omega) (by omega), show ((a.length : Nat) : Int) + ((b.length : Nat) : Int) + 1 = ((a.length + b.length + 1 : Nat) : Int) by omega, lenI_nat (by unfold maxBytes; omega) (by unfold maxBytes; omega)]
  simp only [Option.bind_some]
  obtain ⟨out, h1, h2⟩ := up_loop (body := fun (s : ((List Int) × ((List Int) × ((List Int) × (Int × Int))))) => B_s_l1MulLimbs_0 s.1 s.2.1 s.2.2.1 s.2.2.2.1 s.2.2.2.2)
    (st := fun i (o : List Int) => (o, (b, (a, (((a.length : Nat) : Int), (i : Int)))))) (fin := fun o => o)
    (I := fun i o => o.length = a.length + b.length + 1 ∧ LB o ∧ (∀ j, i + b.length ≤ j → dg o j = 0) ∧ val o = val (a.take i) * val b) (e := a.length)
    (by
      rintro i o hi ⟨h1, h2, h3, h4⟩
      have hd := dg_lb ha i
      obtain ⟨o1, q1, q2, q3, q4, q5⟩ := s_mul_row hd h2 hb (show i + b.length < o.length by omega) h3 (by omega) a ((a.length : Nat) : Int) (i : Int)
      refine ⟨o1, ?_, by omega, q3, q4, ?_⟩
      · unfold B_s_l1MulLimbs_0
        dsimp only
        rw [decide_eq_true (by omega), getI_nat, get_of_dg hi]
        simp only [cond_true, Option.bind_some]
        rw [q1]
        simp only [Option.bind_some]
        rw [wrap1 (by omega)]
      · rw [q5, h4, val_take_succ, Int.add_mul]
        have : B i * dg a i * val b = B i * (dg a i * val b) := Int.mul_assoc ..
        omega)
    (by
      rintro o _
      unfold B_s_l1MulLimbs_0
      dsimp only
      rw [decide_eq_false (by omega)]
      rfl) 0 (List.replicate (a.length + b.length + 1) 0) (by omega) ⟨by simp, LB.zeros _, fun j _ => by
        unfold dg; rw [List.getD_eq_getElem?_getD, List.getElem?_replicate]; split <;> rfl, by rw [val_zeros]; simp [val]⟩
  rw [show ((0 : Nat) : Int) = 0 from rfl] at h1
  rw [h1]
  obtain ⟨g1, g2, g3, g4⟩ := h2
  rw [List.take_length] at g4
  simp only [Option.bind_some]
  rw [s_l1Cut (by unfold Brief; omega)]
  simp only [Option.bind_some]
  rw [strip_lim g2, g4]

theorem sign_mul {x y : Int} (h : (x * y).natAbs ≠ 0) : (!(decide (x < 0) == decide (y < 0))) = decide (x * y < 0) := by
  have hx : x ≠ 0 := by rintro rfl; simp at h
  have hy : y ≠ 0 := by rintro rfl; simp at h
  by_cases h1 : x < 0
  · by_cases h2 : y < 0
    · have := Int.mul_pos_of_neg_of_neg h1 h2
      rw [decide_eq_true h1, decide_eq_true h2, decide_eq_false (by omega)]; rfl
    · have := Int.mul_neg_of_neg_of_pos h1 (show 0 < y by omega)
      rw [decide_eq_true h1, decide_eq_false h2, decide_eq_true (by omega)]; rfl
  · by_cases h2 : y < 0
    · have := Int.mul_neg_of_pos_of_neg (show 0 < x by omega) h2
      rw [decide_eq_false h1, decide_eq_true h2, decide_eq_true (by omega)]; rfl
    · have := Int.mul_pos (show 0 < x by omega) (show 0 < y by omega)
      rw [decide_eq_false h1, decide_eq_false h2, decide_eq_false (by omega)]; rfl
theorem big_mul_parts (x y : Int) : ((!(decide (x < 0) == decide (y < 0))) && decide ((x * y).natAbs ≠ 0), lim (x * y).natAbs) = big (x * y) := by
  unfold big
  congr 1
  by_cases h : (x * y).natAbs ≠ 0
  · rw [sign_mul h, decide_eq_true h, Bool.and_true]
  · rw [decide_eq_false h, Bool.and_false, decide_eq_false (by omega)]

theorem s_l1Mul {x y : Int} {k : Nat} (hk : k ≤ 100000) (hx : (x.natAbs : Int) < B k) (hy : (y.natAbs : Int) < B k) : F_s_l1Mul (big x) (big y) = some (big (x * y)) := by
  have lx := Nat.le_trans (lim_len.2 hx) hk
  have ly := Nat.le_trans (lim_len.2 hy) hk
  unfold F_s_l1Mul
  rw [show (big x).2 = lim x.natAbs from rfl, show (big y).2 = lim y.natAbs from rfl, s_l1MulLimbs (lim_lb _) (lim_lb _) lx ly]
  have e : (val (lim x.natAbs) * val (lim y.natAbs)).toNat = (x * y).natAbs := by rw [lim_val, lim_val, Int.natAbs_mul]; omega
  have hl : (lim (x * y).natAbs).length ≤ k + k := by
    rw [lim_len, Int.natAbs_mul, B_add]
    have h1 := B_pos k
    have : ((x.natAbs * y.natAbs : Nat) : Int) = (x.natAbs : Int) * (y.natAbs : Int) := by simp
    rw [this]
    exact Int.lt_of_le_of_lt (Int.mul_le_mul_of_nonneg_right (Int.le_of_lt hx) (by omega)) (Int.mul_lt_mul_of_pos_left hy h1)
  simp only [Option.bind_some]
  rw [e, s_l1Make (lim_lb _) (by unfold Brief; omega)]
  simp only [Option.bind_some, lim_val, Int.toNat_natCast]
  rw [← big_mul_parts]
  rfl
end Go.Proofs.Ytohhlnabfcbknaa.Ev
