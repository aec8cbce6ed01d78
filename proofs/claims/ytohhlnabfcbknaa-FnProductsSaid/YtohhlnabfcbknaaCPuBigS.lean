/- Big numbers: quotients, divisors, and what is small. -/
import Derived.Test.YtohhlnabfcbknaaCPuBigR
import Derived.Test.YtohhlnabfcbknaaCPuBigI
namespace Go.Proofs.Ytohhlnabfcbknaa.Ev
open Go
set_option linter.unusedVariables false
set_option linter.unusedSimpArgs false
set_option linter.unusedSectionVars false

theorem big_nat (n : Nat) : big (n : Int) = (false, lim n) := by unfold big; rw [decide_eq_false (by omega), Int.natAbs_natCast]
theorem big_neg (n : Nat) : big (-(n : Int)) = (decide (n ≠ 0), lim n) := by unfold big; congr 1; exact decide_eq_decide.2 (by omega); congr 1; omega

theorem big_tdiv (x y : Int) : ((!(decide (x < 0) == decide (y < 0))) && decide (x.natAbs / y.natAbs ≠ 0), lim (x.natAbs / y.natAbs)) = big (x.tdiv y) := by
  rcases Int.lt_or_le x 0 with hx | hx
  · obtain ⟨a, rfl⟩ : ∃ a : Nat, x = -(a : Int) := ⟨x.natAbs, by omega⟩
    rcases Int.lt_or_le y 0 with hy | hy
    · obtain ⟨b, rfl⟩ : ∃ b : Nat, y = -(b : Int) := ⟨y.natAbs, by omega⟩
      rw [Int.neg_tdiv, Int.tdiv_neg, Int.neg_neg, ← Int.ofNat_tdiv, big_nat, decide_eq_true hx, decide_eq_true hy, Int.natAbs_neg, Int.natAbs_neg]; rfl
    · obtain ⟨b, rfl⟩ : ∃ b : Nat, y = (b : Int) := ⟨y.natAbs, by omega⟩
      rw [Int.neg_tdiv, ← Int.ofNat_tdiv, big_neg, decide_eq_true hx, decide_eq_false (show ¬ (b : Int) < 0 by omega), Int.natAbs_neg]; rfl
  · obtain ⟨a, rfl⟩ : ∃ a : Nat, x = (a : Int) := ⟨x.natAbs, by omega⟩
    rcases Int.lt_or_le y 0 with hy | hy
    · obtain ⟨b, rfl⟩ : ∃ b : Nat, y = -(b : Int) := ⟨y.natAbs, by omega⟩
      rw [Int.tdiv_neg, ← Int.ofNat_tdiv, big_neg, decide_eq_false (show ¬ (a : Int) < 0 by omega), decide_eq_true hy, Int.natAbs_neg]; rfl
    · obtain ⟨b, rfl⟩ : ∃ b : Nat, y = (b : Int) := ⟨y.natAbs, by omega⟩
      rw [← Int.ofNat_tdiv, big_nat, decide_eq_false (show ¬ (a : Int) < 0 by omega), decide_eq_false (show ¬ (b : Int) < 0 by omega)]; rfl
theorem big_tmod (x y : Int) : (decide (x < 0) && decide (x.natAbs % y.natAbs ≠ 0), lim (x.natAbs % y.natAbs)) = big (x.tmod y) := by
  have hy : x.tmod y = x.tmod (y.natAbs : Int) := by
    rcases Int.natAbs_eq y with h | h
    · rw [← h]
    · rw [h, Int.tmod_neg, Int.natAbs_neg, Int.natAbs_natCast]
  rw [hy]
  rcases Int.lt_or_le x 0 with hx | hx
  · obtain ⟨a, rfl⟩ : ∃ a : Nat, x = -(a : Int) := ⟨x.natAbs, by omega⟩
    rw [Int.neg_tmod, ← Int.ofNat_tmod, big_neg, decide_eq_true hx, Int.natAbs_neg]; rfl
  · obtain ⟨a, rfl⟩ : ∃ a : Nat, x = (a : Int) := ⟨x.natAbs, by omega⟩
    rw [← Int.ofNat_tmod, big_nat, decide_eq_false (show ¬ (a : Int) < 0 by omega)]; rfl

theorem lim_mono {a b : Nat} (h : a ≤ b) : (lim a).length ≤ (lim b).length := lim_len.2 (Int.lt_of_le_of_lt (by omega) (lim_len.1 (Nat.le_refl (lim b).length)))

section
variable {x y : Int} {k : Nat}
theorem i_Big_div (hk : k ≤ 90000) (hx : (x.natAbs : Int) < B k) (hy : (y.natAbs : Int) < B k) (h0 : y ≠ 0) : F_i_Big_div (big x) (big y) = some (big (x.tdiv y), big (x.tmod y)) := by
  have lx := Nat.le_trans (lim_len.2 hx) hk
  have ly := Nat.le_trans (lim_len.2 hy) hk
  have l1 := lim_mono (Nat.div_le_self x.natAbs y.natAbs)
  have l2 := lim_mono (Nat.mod_le x.natAbs y.natAbs)
  unfold F_i_Big_div
  rw [show (big x).2 = lim x.natAbs from rfl, show (big y).2 = lim y.natAbs from rfl, i_divLimbs (by omega) lx ly]
  simp only [Option.bind_some]
  rw [i_bigOf (lim_lb _) (by unfold Brief; omega), i_bigOf (lim_lb _) (by unfold Brief; omega), lim_val, lim_val, Int.toNat_natCast, Int.toNat_natCast]
  simp only [Option.bind_some]
  rw [show (big x).1 = decide (x < 0) from rfl, show (big y).1 = decide (y < 0) from rfl, big_tdiv, big_tmod]
theorem s_l1Div (hk : k ≤ 90000) (hx : (x.natAbs : Int) < B k) (hy : (y.natAbs : Int) < B k) (h0 : y ≠ 0) : F_s_l1Div (big x) (big y) = some (big (x.tdiv y), big (x.tmod y)) := by
  have lx := Nat.le_trans (lim_len.2 hx) hk
  have ly := Nat.le_trans (lim_len.2 hy) hk
  have l1 := lim_mono (Nat.div_le_self x.natAbs y.natAbs)
  have l2 := lim_mono (Nat.mod_le x.natAbs y.natAbs)
  unfold F_s_l1Div
  rw [show (big x).2 = lim x.natAbs from rfl, show (big y).2 = lim y.natAbs from rfl, s_l1DivLimbs (by omega) lx ly]
  simp only [Option.bind_some]
  rw [s_l1Make (lim_lb _) (by unfold Brief; omega), s_l1Make (lim_lb _) (by unfold Brief; omega), lim_val, lim_val, Int.toNat_natCast, Int.toNat_natCast]
  simp only [Option.bind_some]
  rw [show (big x).1 = decide (x < 0) from rfl, show (big y).1 = decide (y < 0) from rfl, big_tdiv, big_tmod]
end

theorem lim_len_pos {b : Nat} (h : b ≠ 0) : decide ((((lim b).length : Nat) : Int) > 0) = true := by rw [len_pos_dec, lim_empty]; simp [h]

theorem i_gcd_loop (s : Bool × List Int) : ∀ (n a b : Nat), b < n → (lim a).length ≤ 90000 → (lim b).length ≤ 90000 →
    loopM (fun (s : ((Bool × (List Int)) × ((List Int) × (List Int)))) => B_i_Big_gcd_0 s.1 s.2.1 s.2.2) (s, (lim a, lim b)) = some (s, lim (Nat.gcd a b)) := by
  intro n
  induction n with
  | zero => intro a b h; omega
  | succ n ih =>
    intro a b h ha hb
    by_cases h0 : b = 0
    · subst h0
      rw [Nat.gcd_zero_right]
      refine loop_end ?_
      unfold B_i_Big_gcd_0
      rw [lim_zero]
      rfl
    · have hm := Nat.mod_lt a (show b > 0 by omega)
      rw [loop_go (s' := (s, (lim b, lim (a % b))))]
      · rw [ih b (a % b) (by omega) hb (Nat.le_trans (lim_mono (Nat.mod_le _ _)) ha), Nat.gcd_comm b, ← Nat.gcd_rec, Nat.gcd_comm b]
      · unfold B_i_Big_gcd_0
        dsimp only
        rw [lim_len_pos h0, i_divLimbs h0 ha hb]
        rfl

theorem s_gcd_loop : ∀ (n a b : Nat), b < n → (lim a).length ≤ 90000 → (lim b).length ≤ 90000 →
    loopM (fun (s : ((List Int) × (List Int))) => B_s_l1Gcd_0 s.1 s.2) (lim a, lim b) = some (lim (Nat.gcd a b)) := by
  intro n
  induction n with
  | zero => intro a b h; omega
  | succ n ih =>
    intro a b h ha hb
    by_cases h0 : b = 0
    · subst h0
      rw [Nat.gcd_zero_right]
      refine loop_end ?_
      unfold B_s_l1Gcd_0
      rw [lim_zero]
      rfl
    · have hm := Nat.mod_lt a (show b > 0 by omega)
      rw [loop_go (s' := (lim b, lim (a % b)))]
      · rw [ih b (a % b) (by omega) hb (Nat.le_trans (lim_mono (Nat.mod_le _ _)) ha), Nat.gcd_comm b, ← Nat.gcd_rec, Nat.gcd_comm b]
      · unfold B_s_l1Gcd_0
        dsimp only
        rw [lim_len_pos h0, s_l1DivLimbs h0 ha hb]
        rfl

theorem gcd_len {a b : Nat} (ha : (lim a).length ≤ 90000) (hb : (lim b).length ≤ 90000) : (lim (Nat.gcd a b)).length ≤ 90000 := by
  by_cases h : a = 0
  · subst h; rw [Nat.gcd_zero_left]; exact hb
  · exact Nat.le_trans (lim_mono (Nat.gcd_le_left b (by omega))) ha

section
variable {x y : Int} {k : Nat}
theorem i_Big_gcd (hk : k ≤ 90000) (hx : (x.natAbs : Int) < B k) (hy : (y.natAbs : Int) < B k) : F_i_Big_gcd (big x) (big y) = some (big (Int.gcd x y : Nat)) := by
  have lx := Nat.le_trans (lim_len.2 hx) hk
  have ly := Nat.le_trans (lim_len.2 hy) hk
  have lg := gcd_len lx ly
  unfold F_i_Big_gcd
  rw [show (big x).2 = lim x.natAbs from rfl, show (big y).2 = lim y.natAbs from rfl, i_gcd_loop _ _ _ _ (Nat.lt_succ_self _) lx ly]
  simp only [Option.bind_some]
  rw [i_bigOf (lim_lb _) (by unfold Brief; omega), lim_val, Int.toNat_natCast, big_nat]
  rfl
theorem s_l1Gcd (hk : k ≤ 90000) (hx : (x.natAbs : Int) < B k) (hy : (y.natAbs : Int) < B k) : F_s_l1Gcd (big x).2 (big y).2 = some (lim (Int.gcd x y)) := by
  have lx := Nat.le_trans (lim_len.2 hx) hk
  have ly := Nat.le_trans (lim_len.2 hy) hk
  have lg := gcd_len lx ly
  unfold F_s_l1Gcd
  rw [show (big x).2 = lim x.natAbs from rfl, show (big y).2 = lim y.natAbs from rfl, s_gcd_loop _ _ _ (Nat.lt_succ_self _) lx ly]
  simp only [Option.bind_some]
  rw [s_l1Cut (by unfold Brief; omega)]
  simp only [Option.bind_some]
  rw [strip_nb (lim_nb _)]
  rfl
end

theorem s_l1Halves {a b : List Int} (ha : LB a) (hb : LB b) (na : a.length ≤ 1000) (nb : b.length ≤ 1000) : F_s_l1Halves a b = some (lim (val a * val b).toNat) := by
  unfold F_s_l1Halves
  refine R_halves _ a b ha hb na nb ?_
  unfold need
  split
  · omega
  · split
    · split <;> omega
    · omega

/-! ### what is small -/
theorem i_IntOf_loop {l : List Int} (neg : Bool) (hl : LB l) (hv : val l ≤ 4611686018427387904) (hn : l.length ≤ 1000) :
    loopM (fun (s : ((Bool × (List Int)) × (Int × Int))) => B_i_IntOf_0 s.1 s.2.1 s.2.2) ((neg, l), (0, (l.length : Int) - 1)) = some ((neg, l), val l) := by
  obtain ⟨n, h1, h2⟩ := down_loop (body := fun (s : ((Bool × (List Int)) × (Int × Int))) => B_i_IntOf_0 s.1 s.2.1 s.2.2)
    (st := fun k (b : Int) => ((neg, l), (b, (k : Int) - 1))) (fin := fun b => ((neg, l), b)) (I := fun k b => k ≤ l.length ∧ b = val (l.drop k))
    (by
      rintro k b ⟨hk, rfl⟩
      have hkl : k < l.length := by omega
      have hx := dg_lb hl k
      have e1 := val_drop l k
      have e2 := val_nonneg (hl.drop (k + 1))
      have e3 := val_parts l k
      have e4 := val_nonneg (hl.take k)
      have e5 : val (l.drop k) ≤ B k * val (l.drop k) := by
        have := Int.mul_le_mul_of_nonneg_right (show 1 ≤ B k by have := B_pos k; omega) (val_nonneg (hl.drop k))
        omega
      refine ⟨val (l.drop k), ?_, by omega, rfl⟩
      unfold B_i_IntOf_0
      dsimp only
      rw [decide_eq_true (by omega), show ((k + 1 : Nat) : Int) - 1 = (k : Int) by omega, getI_nat, get_of_dg hkl]
      simp only [cond_true, Option.bind_some]
      rw [wrapI (n := val (l.drop (k + 1)) * 65536) (by omega) (by omega), wrapI (n := val (l.drop (k + 1)) * 65536 + dg l k) (by omega) (by omega), wrapI (n := (k : Int) - 1) (by omega) (by omega), e1, show val (l.drop (k + 1)) * 65536 + dg l k = dg l k + 65536 * val (l.drop (k + 1)) by omega])
    (by
      rintro b _
      unfold B_i_IntOf_0
      rfl) l.length 0 ⟨Nat.le_refl _, by rw [List.drop_length]; rfl⟩
  rw [List.drop_zero] at h2
  rw [← h2.2]
  exact h1
theorem s_IntOf_loop {l : List Int} (neg : Bool) (hl : LB l) (hv : val l ≤ 4611686018427387904) (hn : l.length ≤ 1000) :
    loopM (fun (s : ((Bool × (List Int)) × (Int × Int))) => B_s_IntOf_0 s.1 s.2.1 s.2.2) ((neg, l), (0, (l.length : Int) - 1)) = some ((neg, l), val l) := by
  have : (fun (s : ((Bool × (List Int)) × (Int × Int))) => B_s_IntOf_0 s.1 s.2.1 s.2.2) = fun (s : ((Bool × (List Int)) × (Int × Int))) => B_i_IntOf_0 s.1 s.2.1 s.2.2 := by
    funext s; unfold B_s_IntOf_0 B_i_IntOf_0; rfl
  rw [this]
  exact i_IntOf_loop neg hl hv hn

/-- A big number as a small one. -/
def smallR (z : Int) : Int × Bool := if z.natAbs ≤ 4611686018427387904 then (z, true) else (0, false)

theorem nat_top (T : Nat) : (big (T : Int)).2 = lim T := by rw [big_nat]
theorem small_of {z : Int} {T : Nat} (hT : T = 4611686018427387904) : smallR z = if z.natAbs ≤ T then (z, true) else (0, false) := by rw [hT]; rfl

theorem i_IntOf' {z : Int} {T : Nat} (hT : T = 4611686018427387904) (hz : (z.natAbs : Int) < B 40) : F_i_IntOf (big z) = some (smallR z) := by
  have lz := lim_len.2 hz
  have hB4 : B 4 = 18446744073709551616 := rfl
  rw [small_of hT]
  unfold F_i_IntOf
  rw [show (4611686018427387904 : Int) = (T : Int) by omega]
  rw [i_GoodBig (by unfold big Brief; dsimp only; omega), goodB_big hz, i_BigOf (by omega) (by omega)]
  simp only [Option.bind_some, Bool.not_true, cond_false]
  rw [show (big z).2 = lim z.natAbs from rfl, nat_top, i_compareLimbs (by unfold Brief; omega) (by unfold Brief; have := @lim64 T (by omega); omega)]
  simp only [Option.bind_some]
  by_cases h : z.natAbs ≤ T
  · have hc : decide (cmpZ (z.natAbs : Int) (T : Int) > 0) = false := by
      rcases cmpZ_cases (z.natAbs : Int) (T : Int) with ⟨g, _⟩ | ⟨g, _⟩ | ⟨g, _⟩
      · rw [g]; rfl
      · omega
      · rw [g]; rfl
    rw [hc, if_pos h, wrapI (by omega) (by omega), show big z = (decide (z < 0), lim z.natAbs) from rfl]
    simp only [cond_false]
    rw [i_IntOf_loop _ (lim_lb _) (by rw [lim_val]; omega) (by omega), lim_val]
    simp only [Option.bind_some]
    by_cases hn : z < 0
    · rw [decide_eq_true hn, wrapI (by omega) (by omega)]
      simp only [cond_true]
      rw [show (0 : Int) - (z.natAbs : Int) = z by omega]
    · rw [decide_eq_false hn]
      simp only [cond_false]
      rw [show (z.natAbs : Int) = z by omega]
  · have hc : decide (cmpZ (z.natAbs : Int) (T : Int) > 0) = true := by rw [cmpZ_gt (by omega)]; rfl
    rw [hc, if_neg h]
    rfl
theorem s_IntOf' {z : Int} {T : Nat} (hT : T = 4611686018427387904) (hz : (z.natAbs : Int) < B 40) : F_s_IntOf (big z) = some (smallR z) := by
  have lz := lim_len.2 hz
  have hB4 : B 4 = 18446744073709551616 := rfl
  rw [small_of hT]
  unfold F_s_IntOf
  rw [show (4611686018427387904 : Int) = (T : Int) by omega]
  rw [s_GoodBig (by unfold big Brief; dsimp only; omega), goodB_big hz, s_BigOf (by omega) (by omega)]
  simp only [Option.bind_some, Bool.not_true, cond_false]
  rw [show (big z).2 = lim z.natAbs from rfl, nat_top]
  by_cases h4 : (lim z.natAbs).length > 4
  · rw [decide_eq_true (by omega)]
    have : ¬ z.natAbs ≤ T := fun h => by
      have := @lim64 z.natAbs (by omega)
      omega
    rw [if_neg this]
    rfl
  rw [decide_eq_false (by omega), s_l1Cmp (by unfold Brief; omega) (by unfold Brief; have := @lim64 T (by omega); omega)]
  simp only [Option.bind_some, cond_false]
  by_cases h : z.natAbs ≤ T
  · have hc : decide (cmpZ (z.natAbs : Int) (T : Int) > 0) = false := by
      rcases cmpZ_cases (z.natAbs : Int) (T : Int) with ⟨g, _⟩ | ⟨g, _⟩ | ⟨g, _⟩
      · rw [g]; rfl
      · omega
      · rw [g]; rfl
    rw [hc, if_pos h, wrapI (by omega) (by omega), show big z = (decide (z < 0), lim z.natAbs) from rfl]
    simp only [cond_false]
    rw [s_IntOf_loop _ (lim_lb _) (by rw [lim_val]; omega) (by omega), lim_val]
    simp only [Option.bind_some]
    by_cases hn : z < 0
    · rw [decide_eq_true hn, wrapI (by omega) (by omega)]
      simp only [cond_true]
      rw [show (0 : Int) - (z.natAbs : Int) = z by omega]
    · rw [decide_eq_false hn]
      simp only [cond_false]
      rw [show (z.natAbs : Int) = z by omega]
  · have hc : decide (cmpZ (z.natAbs : Int) (T : Int) > 0) = true := by rw [cmpZ_gt (by omega)]; rfl
    rw [hc, if_neg h]
    rfl
theorem i_IntOf {z : Int} (hz : (z.natAbs : Int) < B 40) : F_i_IntOf (big z) = some (smallR z) := i_IntOf' rfl hz
theorem s_IntOf {z : Int} (hz : (z.natAbs : Int) < B 40) : F_s_IntOf (big z) = some (smallR z) := s_IntOf' rfl hz
theorem i_IntOf_bad {b : Bool × List Int} (hb : Brief b.2) (h : goodB b = false) : F_i_IntOf b = some (0, false) := by
  unfold F_i_IntOf
  rw [i_GoodBig hb, h]; rfl
theorem s_IntOf_bad {b : Bool × List Int} (hb : Brief b.2) (h : goodB b = false) : F_s_IntOf b = some (0, false) := by
  unfold F_s_IntOf
  rw [s_GoodBig hb, h]; rfl
end Go.Proofs.Ytohhlnabfcbknaa.Ev
