/- Big numbers: the product by halves, whole. -/
import Derived.Test.YtohhlnabfcbknaaCPuBigH
namespace Go.Proofs.Ytohhlnabfcbknaa.Ev
open Go
set_option linter.unusedVariables false
set_option linter.unusedSimpArgs false
set_option linter.unusedSectionVars false

set_option maxHeartbeats 4000000 in
theorem R_halves : ∀ (f : Nat) (a b : List Int), LB a → LB b → a.length ≤ 1000 → b.length ≤ 1000 → need a b ≤ f → R_s_l1Halves f a b = some (lim (val a * val b).toNat)
  | 0, a, b, _, _, _, _, h => by unfold need at h; split at h <;> (try split at h) <;> (try split at h) <;> omega
  | f + 1, a, b, ha, hb, na, nb, hf => by
    show G_s_l1Halves (R_s_l1Halves f) a b = _
    unfold G_s_l1Halves
    have hn : (bif decide (((b.length : Nat) : Int) > ((a.length : Nat) : Int)) then some (Sum.inr (α := List Int) (a, (b, ((b.length : Nat) : Int)))) else some (Sum.inr (a, (b, ((a.length : Nat) : Int))))) = some (Sum.inr (a, (b, ((max a.length b.length : Nat) : Int)))) := by
      by_cases h : ((b.length : Nat) : Int) > ((a.length : Nat) : Int)
      · rw [decide_eq_true h, show max a.length b.length = b.length by omega]; rfl
      · rw [decide_eq_false h, show max a.length b.length = a.length by omega]; rfl
    rw [hn]
    simp only [Option.bind_some, Sum.elim_inr]
    by_cases h2 : max a.length b.length ≤ 2
    · rw [decide_eq_true (by omega), s_l1MulLimbs ha hb (by omega) (by omega)]
      rfl
    · rw [decide_eq_false (by omega)]
      simp only [cond_false]
      obtain ⟨h, hh⟩ : ∃ h : Nat, h = max a.length b.length / 2 := ⟨_, rfl⟩
      have e0 : IntKind.wrap .i64 (Int.tdiv ((max a.length b.length : Nat) : Int) 2) = (h : Int) := by
        rw [Int.tdiv_eq_ediv_of_nonneg (by omega), wrapI (by omega) (by omega)]
        omega
      have e1 : IntKind.wrap .i64 (2 * (h : Int)) = ((2 * h : Nat) : Int) := by rw [wrapI (by omega) (by omega)]; omega
      have bA : Brief a := by unfold Brief; omega
      have bB : Brief b := by unfold Brief; omega
      have hh' : h ≤ 1000000 := by omega
      have kA := part_len (ha.take h) h 0 (by simp; omega)
      have kB := part_len (hb.take h) h 0 (by simp; omega)
      have gA := part_len (ha.drop h) (max a.length b.length - h) 0 (by simp; omega)
      have gB := part_len (hb.drop h) (max a.length b.length - h) 0 (by simp; omega)
      have n1 := nat_of (ha.take h)
      have n2 := nat_of (ha.drop h)
      have n3 := nat_of (hb.take h)
      have n4 := nat_of (hb.drop h)
      have hm1 : max (lim (val (a.take h)).toNat).length (lim (val (b.take h)).toNat).length ≤ max a.length b.length - 1 := by omega
      have hm2 : max (lim (val (a.drop h)).toNat).length (lim (val (b.drop h)).toNat).length ≤ max a.length b.length - 1 := by omega
      have l1 : (lim (val (a.take h)).toNat).length ≤ 1000 := by omega
      have l2 : (lim (val (b.take h)).toNat).length ≤ 1000 := by omega
      have l3 : (lim (val (a.drop h)).toNat).length ≤ 1000 := by omega
      have l4 : (lim (val (b.drop h)).toNat).length ≤ 1000 := by omega
      have c1 := R_halves f _ _ (lim_lb (val (a.take h)).toNat) (lim_lb (val (b.take h)).toNat) l1 l2 (need_parts ha hb h2 hf hm1)
      have c2 := R_halves f _ _ (lim_lb (val (a.drop h)).toNat) (lim_lb (val (b.drop h)).toNat) l3 l4 (need_parts ha hb h2 hf hm2)
      obtain ⟨sa, q1, q2, q3, q4, q4'⟩ := s_l1AddLimbs (lim_lb (val (a.take h)).toNat) (lim_lb (val (a.drop h)).toNat) (by omega) (by omega)
      obtain ⟨sb, q5, q6, q7, q8, q8'⟩ := s_l1AddLimbs (lim_lb (val (b.take h)).toNat) (lim_lb (val (b.drop h)).toNat) (by omega) (by omega)
      rw [← q3] at q4'
      rw [← q7] at q8'
      rw [lim_val, lim_val, n1, n2] at q3
      rw [lim_val, lim_val, n3, n4] at q7
      have pa := val_parts a h
      have pb := val_parts b h
      have grow : ∀ {m n : Nat} {s : List Int}, m ≤ n → (s.length ≤ m ∨ B m ≤ val s) → s.length ≤ m + 1 → s.length ≤ n + 1 ∧ (s.length ≤ n ∨ B n ≤ val s) := by
        intro m n s hmn h1 h2
        rcases Nat.lt_or_ge m n with h3 | h3
        · exact ⟨by omega, .inl (by omega)⟩
        · have : m = n := by omega
          subst this
          exact ⟨h2, h1⟩
      have hsum : need sa sb ≤ f := need_sums ha hb h2 hf hh (grow (by omega) q4' q4) q3 (grow (by omega) q8' q8) q7
      have c3 := R_halves f sa sb q2 q6 (by omega) (by omega) hsum
      rw [lim_val, lim_val] at c1 c2
      simp only [e0, e1, s_l1Low ha bA h hh', s_l1Low hb bB h hh', s_l1High ha bA h hh', s_l1High hb bB h hh', Option.bind_some, c1, c2, q1, q5, c3]
      clear c1 c2 c3 hsum grow q1 q5 hn hf
      rw [q3, q7]
      have B1000 : ∀ {l : List Int} (hl : LB l), l.length ≤ 1000 → ((val l).toNat : Int) < B 1000 := fun hl hk => by
        rw [nat_of hl]; have := val_lt hl; have := B_mono hk; omega
      have k1 := B1000 (ha.take h) (by simp; omega)
      have k2 := B1000 (ha.drop h) (by simp; omega)
      have k3 := B1000 (hb.take h) (by simp; omega)
      have k4 := B1000 (hb.drop h) (by simp; omega)
      rw [pa, pb]
      rw [← n1, ← n2, ← n3, ← n4]
      generalize (val (a.take h)).toNat = p at k1 ⊢
      generalize (val (a.drop h)).toNat = q at k2 ⊢
      generalize (val (b.take h)).toNat = r at k3 ⊢
      generalize (val (b.drop h)).toNat = s at k4 ⊢
      have := halves_join (p := p) (q := q) (r := r) (s := s) (h := h) (by omega) k1 k2 k3 k4
      have t1 : (((p : Int) + (q : Int)) * ((r : Int) + (s : Int))).toNat = (p + q) * (r + s) := by
        rw [show ((p : Int) + (q : Int)) * ((r : Int) + (s : Int)) = (((p + q) * (r + s) : Nat) : Int) by simp [Int.natCast_add, Int.natCast_mul], Int.toNat_natCast]
      have t2 : ((p : Int) * (r : Int)).toNat = p * r := by rw [show (p : Int) * (r : Int) = ((p * r : Nat) : Int) by simp, Int.toNat_natCast]
      have t3 : ((q : Int) * (s : Int)).toNat = q * s := by rw [show (q : Int) * (s : Int) = ((q * s : Nat) : Int) by simp, Int.toNat_natCast]
      simp only [Int.toNat_natCast, t1, t2, t3]
      exact this
end Go.Proofs.Ytohhlnabfcbknaa.Ev
