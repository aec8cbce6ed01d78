/- Big numbers: what is drawn, what is handed out. -/
import Derived.Test.YtohhlnabfcbknaaCPuBigS
import Derived.Test.YtohhlnabfcbknaaCPuCur
namespace Go.Proofs.Ytohhlnabfcbknaa.Ev
open Go
set_option linter.unusedVariables false
set_option linter.unusedSimpArgs false
set_option linter.unusedSectionVars false

theorem peta {α β : Type} (p : α × β) : (p.1, p.2) = p := by cases p; rfl
/-- Limbs that are good and few. -/
def Few (n : Nat) (l : List Int) : Prop := LB l ∧ l.length ≤ n

theorem big_loop {s1 : Bool × List Int} {c : List Int × Int × Int} : ∀ (n : Nat) (k B' : Nat) (c : List Int × Int × Int) (l : List Int), Cur B' c → B' + 6 * n ≤ 100000000000 → n ≤ 1000 → Few k l → k + n ≤ 1000 →
    ∃ c' l', loopM (fun (s : (((List Int) × (Int × Int)) × ((Bool × (List Int)) × ((List Int) × Int)))) => B_s_l1Cur_big_0 s.1 s.2.1 s.2.2.1 s.2.2.2) (c, (s1, (l, (n : Int)))) = some (c', (s1, l')) ∧ Cur (B' + 6 * n) c' ∧ Few (k + n) l' := by
  intro n
  induction n with
  | zero =>
    intro k B' c l hc hB hn hl hk
    exact ⟨c, l, loop_end (by unfold B_s_l1Cur_big_0; rfl), hc.mono (by omega), hl⟩
  | succ n ih =>
    intro k B' c l hc hB hn hl hk
    obtain ⟨c1, v1, e1, q1, a1, b1⟩ := pick_ok hc (by omega) 256
    obtain ⟨c2, v2, e2, q2, a2, b2⟩ := pick_ok q1 (by omega) 256
    have b1 := b1 (by omega)
    have b2 := b2 (by omega)
    obtain ⟨c3, v3, e3, q3, m3⟩ := among_ok q2 (by omega) [0, 1, 65535, 32768, 256 * v1 + v2, 7] (by simp) (by simp)
    have hv : 0 ≤ v3 ∧ v3 < 65536 := by simp at m3; omega
    obtain ⟨c', l', h1, h2, h3⟩ := ih (k + 1) (B' + 6) c3 (l ++ [v3]) (q3.mono (by omega)) (by omega) (by omega) ⟨hl.1.append (LB.cons hv LB.nil), by simp; exact hl.2⟩ (by omega)
    refine ⟨c', l', ?_, h2.mono (by omega), by rw [show k + (n + 1) = k + 1 + n by omega]; exact h3⟩
    rw [loop_go (s' := (c3, (s1, (l ++ [v3], (n : Int)))))]
    · exact h1
    · unfold B_s_l1Cur_big_0
      have hd : decide (((n + 1 : Nat) : Int) > 0) = true := decide_eq_true (by omega)
      have hl2 := hl.2
      simp only [hd, cond_true, e1, e2, Option.bind_some, wrapI (n := 256 * v1) (by omega) (by omega), wrapI (n := 256 * v1 + v2) (by omega) (by omega), e3, app1 (show l.length ≤ 100000000 from by omega)]
      rw [wrapI (by omega) (by omega), show ((n + 1 : Nat) : Int) - 1 = (n : Int) by omega]

theorem big_ok {B' : Nat} {c : List Int × Int × Int} (h : Cur B' c) (hB : B' ≤ 1000000000) : ∃ c' b, F_s_l1Cur_big c = some (c', b) ∧ Cur (B' + 300) c' ∧ b.2.length ≤ 100 := by
  unfold F_s_l1Cur_big
  obtain ⟨c0, v0, e0, q0, a0, b0⟩ := pick_ok h (by omega) 6
  have b0 := b0 (by omega)
  obtain ⟨c1, v1, e1, q1⟩ := one_ok q0 (by omega) 12
  simp only [e0, e1, Option.bind_some]
  have fin : ∀ (c2 : List Int × Int × Int) (n : Nat), Cur (B' + 6) c2 → n ≤ 41 → ∃ c' b, ((loopM (fun (s : (((List Int) × (Int × Int)) × ((Bool × (List Int)) × ((List Int) × Int)))) => B_s_l1Cur_big_0 s.1 s.2.1 s.2.2.1 s.2.2.2) (c2, ((false, []), ([], (n : Int))))).bind fun x6 =>
    ((F_s_l1Cur_one (x6.1.1, (x6.1.2.1, x6.1.2.2)) (3 : Int))).bind fun x7 =>
    ((F_s_l1Make x7.2 x6.2.2)).bind fun x8 =>
    ((F_s_l1Cur_one (x7.1.1, (x7.1.2.1, x7.1.2.2)) (40 : Int))).bind fun x9 =>
    bif x9.2 then
      ((F_s_l1Cur_among (x9.1.1, (x9.1.2.1, x9.1.2.2)) (List.cons (0 : Int) (List.cons (-(1 : Int)) (List.cons (65536 : Int) List.nil))))).bind fun x10 =>
      ((appL 8 1 x8.1 (List.cons x10.2 List.nil))).bind fun x11 =>
      some ((x10.1.1, (x10.1.2.1, x10.1.2.2)), (x8.2, x11))
    else
    some ((x9.1.1, (x9.1.2.1, x9.1.2.2)), (x8.2, x8.1))) = some (c', b) ∧ Cur (B' + 300) c' ∧ b.2.length ≤ 100 := by
    intro c2 n q2 hn
    obtain ⟨c3, l, e3, q3, hl⟩ := big_loop (s1 := (false, [])) (c := c2) n 0 (B' + 6) c2 [] q2 (by omega) (by omega) ⟨LB.nil, by simp⟩ (by omega)
    obtain ⟨c4, v4, e4, q4⟩ := one_ok q3 (by omega) 3
    obtain ⟨c5, v5, e5, q5⟩ := one_ok q4 (by omega) 40
    have hll := hl.2
    have hmk := s_l1Make hl.1 (by unfold Brief; omega) v4
    have hlen : (lim (val l).toNat).length ≤ 0 + n := part_len hl.1 _ 0 hl.2
    simp only [e3, e4, e5, hmk, Option.bind_some]
    cases v5
    · exact ⟨_, _, rfl, q5.mono (by omega), by simp only; omega⟩
    · obtain ⟨c6, v6, e6, q6, m6⟩ := among_ok q5 (by omega) [0, -(1 : Int), 65536] (by simp) (by simp)
      simp only [cond_true, e6, Option.bind_some]
      rw [app1 (by omega)]
      exact ⟨_, _, rfl, q6.mono (by omega), by simp; omega⟩
  cases v1
  · simp only [cond_false, Option.bind_some, Sum.elim_inr]
    have hv : v0 = ((v0.toNat : Nat) : Int) := by omega
    rw [hv]
    exact fin c1 v0.toNat (q1.mono (by omega)) (by omega)
  · obtain ⟨c2, v2, e2, q2, m2⟩ := among_ok q1 (by omega) [20, 39, 40, 41] (by simp) (by simp)
    simp only [cond_true, e2, Option.bind_some, Sum.elim_inr]
    have hm : 0 ≤ v2 ∧ v2 ≤ 41 := by simp at m2; omega
    have hv : v2 = ((v2.toNat : Nat) : Int) := by omega
    rw [hv]
    exact fin c2 v2.toNat (q2.mono (by omega)) (by omega)

theorem draw_compare {l : List Int} (h : Cur 0 (l, 0, 0)) : ∃ a b, F_s_DrawCompareBig l = some (a, b) ∧ a.2.length ≤ 100 ∧ b.2.length ≤ 100 := by
  unfold F_s_DrawCompareBig
  obtain ⟨c0, v0, e0, q0, l0⟩ := big_ok h (by omega)
  obtain ⟨c1, v1, e1, q1⟩ := one_ok q0 (by omega) 4
  simp only [e0, e1, Option.bind_some]
  cases v1
  · obtain ⟨c2, v2, e2, q2, l2⟩ := big_ok q1 (by omega)
    simp only [cond_false, e2, Option.bind_some]
    exact ⟨_, _, rfl, l0, l2⟩
  · exact ⟨_, _, rfl, l0, l0⟩

theorem anyInt_ok {B' : Nat} {c : List Int × Int × Int} (h : Cur B' c) (hB : B' ≤ 1000000000) : ∃ c' v, F_s_l1Cur_anyInt c = some (c', v) ∧ Cur (B' + 10) c' ∧ I64 v := by
  unfold F_s_l1Cur_anyInt
  obtain ⟨c0, v0, e0, q0⟩ := one_ok h (by omega) 2
  simp only [e0, Option.bind_some]
  cases v0
  · obtain ⟨c1, v1, e1, q1, a1, b1⟩ := pick_ok q0 (by omega) 256
    obtain ⟨c2, v2, e2, q2, a2, b2⟩ := pick_ok q1 (by omega) 50
    have b2 := b2 (by omega)
    simp only [cond_false, e1, e2, Option.bind_some]
    rw [show decide (IntKind.wrap .u64 v2 < 0) = false by rw [wrapU (by omega) (by omega)]; exact decide_eq_false (by omega)]
    refine ⟨_, _, rfl, q2.mono (by omega), ?_⟩
    unfold shlI I64
    exact wrapI' _
  · obtain ⟨c1, v1, e1, q1, m1⟩ := among_ok q0 (by omega) [0, 1, -(1 : Int), 65535, 65536, -(65536 : Int), 4611686018427387904, -(4611686018427387904 : Int), 4611686018427387905, -(9223372036854775808 : Int), 9223372036854775807] (by simp) (by simp)
    simp only [cond_true, e1, Option.bind_some]
    refine ⟨_, _, rfl, q1.mono (by omega), ?_⟩
    unfold I64
    simp at m1
    omega

theorem draw_intOf {l : List Int} (h : Cur 0 (l, 0, 0)) : ∃ b, F_s_DrawIntOf l = some b ∧ b.2.length ≤ 100 := by
  unfold F_s_DrawIntOf
  obtain ⟨c0, v0, e0, q0⟩ := one_ok h (by omega) 2
  simp only [e0, Option.bind_some]
  cases v0
  · obtain ⟨c1, v1, e1, q1, l1⟩ := big_ok q0 (by omega)
    simp only [cond_false, e1, Option.bind_some]
    exact ⟨_, rfl, l1⟩
  · obtain ⟨c1, v1, e1, q1, i1⟩ := anyInt_ok q0 (by omega)
    simp only [cond_true, e1, Option.bind_some]
    rw [s_BigOf i1.1 i1.2]
    simp only [Option.bind_some]
    refine ⟨_, rfl, ?_⟩
    have := @lim64 v1.natAbs (by unfold I64 at i1; omega)
    unfold big
    dsimp only
    omega

/-! ### what is handed out -/
theorem l_sameBig {a : Bool × List Int} (h : a.2.length ≤ 1000000) : F_l_sameBig a a = some true := by
  have hb : F_l_sameInts a.2 a.2 = some true := by
    unfold F_l_sameInts
    rw [bne_self_eq_false]
    simp only [cond_false]
    obtain ⟨h1, h2⟩ := fold_loop (l := a.2) (body := fun (s : ((List Int) × ((List Int) × (Int × Int)))) => B_l_sameInts_0 s.1 s.2.1 s.2.2.1 s.2.2.2)
      (st := fun k (b : Unit) => (a.2, (a.2, ((a.2.length : Int), (k : Int))))) (step := fun b p => ()) (fin := fun b => .inl ()) (I := fun k b => True)
      (by
        rintro k b p hk _
        have hkl := getL hk
        unfold B_l_sameInts_0
        simp only [lt_dec' hk, cond_true, getI_nat, hk, Option.bind_some, bne_self_eq_false, cond_false, wrap1 (show k < 4611686018427387904 by omega)]
        exact ⟨trivial, trivial⟩)
      (by
        rintro b _
        unfold B_l_sameInts_0
        simp only [ge_dec', cond_false]) () trivial
    rw [show ((0 : Nat) : Int) = 0 from rfl] at h1
    rw [h1]
    rfl
  unfold F_l_sameBig
  rw [beq_self_eq_true, hb]
  rfl
theorem l_zeroBig (z : Int) : F_l_zeroBig (big z) = some (decide (z = 0)) := by
  unfold F_l_zeroBig
  congr 1
  rw [Bool.eq_iff_iff]
  simp only [beq_iff_eq, decide_eq_true_eq]
  unfold big
  constructor
  · intro h
    have := lim_nil.1 (List.eq_nil_of_length_eq_zero (show (lim z.natAbs).length = 0 by simpa using h))
    omega
  · rintro rfl
    rw [show (0 : Int).natAbs = 0 from rfl, lim_zero]; rfl

/-- A number, if it is short. -/
def fitsR (z : Int) : (Bool × List Int) × Bool := if (z.natAbs : Int) < B 40 then (big z, true) else ((false, []), false)
theorem i_checked' (z : Int) : F_i_checked (big z) = some (fitsR z) := by rw [i_checked, fitsR]
theorem s_l1Fits' (z : Int) : F_s_l1Fits (big z) = some (fitsR z) := by rw [s_l1Fits, fitsR]
theorem big_brief {z : Int} (h : (z.natAbs : Int) < B 40) : Brief (big z).2 := by have := lim_len.2 h; unfold big Brief; dsimp only; omega

section
variable {x y : Int} (hx : (x.natAbs : Int) < B 40) (hy : (y.natAbs : Int) < B 40)
include hx hy
theorem areBig_good : F_i_areBig [big x, big y] = some true := by
  rw [i_areBig (by simp) (by intro b hb; simp at hb; rcases hb with rfl | rfl; exact big_brief hx; exact big_brief hy)]
  simp [goodB_big hx, goodB_big hy]
theorem i_MulBig : F_i_MulBig (big x) (big y) = some (fitsR (x * y)) := by
  unfold F_i_MulBig
  obtain ⟨r, h1, h2⟩ := i_Big_mul (k := 40) (by omega) hx hy
  simp only [areBig_good hx hy, Option.bind_some, Bool.not_true, cond_false, h1]
  rw [h2, i_checked']
  simp only [Option.bind_some, peta]
theorem s_MulBig : F_s_MulBig (big x) (big y) = some (fitsR (x * y)) := by
  unfold F_s_MulBig
  simp only [s_GoodBig (big_brief hx), s_GoodBig (big_brief hy), goodB_big hx, goodB_big hy, Option.bind_some, Bool.not_true, cond_false, s_l1Mul (k := 40) (by omega) hx hy, peta, s_l1Fits']
theorem i_HalvesMul : F_i_HalvesMul (big x) (big y) = some (fitsR (x * y)) := by
  unfold F_i_HalvesMul
  simp only [i_MulBig hx hy, Option.bind_some, peta]
theorem s_HalvesMul : F_s_HalvesMul (big x) (big y) = some (fitsR (x * y)) := by
  have lx := lim_len.2 hx
  have ly := lim_len.2 hy
  unfold F_s_HalvesMul
  simp only [s_GoodBig (big_brief hx), s_GoodBig (big_brief hy), goodB_big hx, goodB_big hy, Option.bind_some, Bool.not_true, cond_false]
  rw [show (big x).2 = lim x.natAbs from rfl, show (big y).2 = lim y.natAbs from rfl, s_l1Halves (lim_lb _) (lim_lb _) (by omega) (by omega)]
  simp only [Option.bind_some]
  have e : (val (lim x.natAbs) * val (lim y.natAbs)).toNat = (x * y).natAbs := by rw [lim_val, lim_val, Int.natAbs_mul]; omega
  rw [e, show (big x).1 = decide (x < 0) from rfl, show (big y).1 = decide (y < 0) from rfl, s_l1Make (lim_lb _) (by
    have hp := fit2 hx hy
    rw [← Int.natAbs_mul] at hp
    have := lim_len.2 hp
    unfold Brief; omega), lim_val, Int.toNat_natCast]
  simp only [Option.bind_some]
  rw [big_mul_parts, s_l1Fits']
  simp only [Option.bind_some, peta]
theorem i_AddBig : F_i_AddBig (big x) (big y) = some (fitsR (x + y)) := by
  unfold F_i_AddBig
  simp only [areBig_good hx hy, Option.bind_some, Bool.not_true, cond_false, i_Big_add (k := 40) (by omega) hx hy, i_checked', peta]
theorem i_CompareBig : F_i_CompareBig (big x) (big y) = some (cmpZ x y, true) := by
  unfold F_i_CompareBig
  simp only [i_GoodBig (big_brief hx), i_GoodBig (big_brief hy), goodB_big hx, goodB_big hy, Option.bind_some, Bool.not_true, cond_false, i_compareBig (k := 40) (by omega) hx hy]
theorem i_DivBig : F_i_DivBig (big x) (big y) = some (if y = 0 then ((false, []), (false, []), false) else (big (x.tdiv y), big (x.tmod y), true)) := by
  unfold F_i_DivBig
  simp only [areBig_good hx hy, Option.bind_some, Bool.not_true, cond_false, i_sign, peta]
  by_cases h0 : y = 0
  · rw [if_pos h0, h0, cmpZ_self]; rfl
  · rw [if_neg h0]
    have : (cmpZ y 0 == 0) = false := by
      rcases cmpZ_cases y 0 with ⟨g, _⟩ | ⟨g, _⟩ | ⟨g, _⟩
      · rw [g]; rfl
      · rw [g]; rfl
      · omega
    simp only [this, cond_false, i_Big_div (k := 40) (by omega) hx hy h0, Option.bind_some]
theorem s_DivBig : F_s_DivBig (big x) (big y) = some (if y = 0 then ((false, []), (false, []), false) else (big (x.tdiv y), big (x.tmod y), true)) := by
  unfold F_s_DivBig
  simp only [s_GoodBig (big_brief hx), s_GoodBig (big_brief hy), goodB_big hx, goodB_big hy, Option.bind_some, Bool.not_true, cond_false]
  have hz := l_zeroBig y
  unfold F_l_zeroBig at hz
  rw [Option.some.inj hz]
  by_cases h0 : y = 0
  · rw [if_pos h0, decide_eq_true h0]; rfl
  · rw [if_neg h0, decide_eq_false h0]
    simp only [cond_false, s_l1Div (k := 40) (by omega) hx hy h0, Option.bind_some]
theorem i_GcdBig : F_i_GcdBig (big x) (big y) = some (big (Int.gcd x y : Nat), true) := by
  unfold F_i_GcdBig
  simp only [areBig_good hx hy, Option.bind_some, Bool.not_true, cond_false, i_Big_gcd (k := 40) (by omega) hx hy]
theorem s_GcdBig : F_s_GcdBig (big x) (big y) = some (big (Int.gcd x y : Nat), true) := by
  have lx := lim_len.2 hx
  have ly := lim_len.2 hy
  have lg := gcd_len (a := x.natAbs) (b := y.natAbs) (by omega) (by omega)
  unfold F_s_GcdBig
  simp only [s_GoodBig (big_brief hx), s_GoodBig (big_brief hy), goodB_big hx, goodB_big hy, Option.bind_some, Bool.not_true, cond_false, s_l1Gcd (k := 40) (by omega) hx hy]
  rw [s_l1Make (lim_lb _) (by unfold Brief; exact Nat.le_trans lg (by omega)), lim_val, Int.toNat_natCast, big_nat]
  rfl
end

section
variable {a b : Bool × List Int} (ha : Brief a.2) (hb : Brief b.2) (h : (goodB a && goodB b) = false)
include ha hb h
theorem areBig_bad : F_i_areBig [a, b] = some false := by
  rw [i_areBig (by simp) (by intro c hc; simp at hc; rcases hc with rfl | rfl; exact ha; exact hb)]
  simp only [List.all_cons, List.all_nil, Bool.and_true, h]
theorem i_MulBig_bad : F_i_MulBig a b = some ((false, []), false) := by unfold F_i_MulBig; simp only [areBig_bad ha hb h]; rfl
theorem i_HalvesMul_bad : F_i_HalvesMul a b = some ((false, []), false) := by unfold F_i_HalvesMul; simp only [i_MulBig_bad ha hb h]; rfl
theorem i_DivBig_bad : F_i_DivBig a b = some ((false, []), (false, []), false) := by unfold F_i_DivBig; simp only [areBig_bad ha hb h]; rfl
theorem i_GcdBig_bad : F_i_GcdBig a b = some ((false, []), false) := by unfold F_i_GcdBig; simp only [areBig_bad ha hb h]; rfl
theorem s_MulBig_bad : F_s_MulBig a b = some ((false, []), false) := by
  unfold F_s_MulBig; simp only [s_GoodBig ha, s_GoodBig hb, Option.bind_some]
  cases h1 : goodB a
  · rfl
  · rw [h1] at h; rw [show goodB b = false by simpa using h]; rfl
theorem s_HalvesMul_bad : F_s_HalvesMul a b = some ((false, []), false) := by
  unfold F_s_HalvesMul; simp only [s_GoodBig ha, s_GoodBig hb, Option.bind_some]
  cases h1 : goodB a
  · rfl
  · rw [h1] at h; rw [show goodB b = false by simpa using h]; rfl
theorem s_DivBig_bad : F_s_DivBig a b = some ((false, []), (false, []), false) := by
  unfold F_s_DivBig; simp only [s_GoodBig ha, s_GoodBig hb, Option.bind_some]
  cases h1 : goodB a
  · rfl
  · rw [h1] at h; rw [show goodB b = false by simpa using h]; rfl
theorem s_GcdBig_bad : F_s_GcdBig a b = some ((false, []), false) := by
  unfold F_s_GcdBig; simp only [s_GoodBig ha, s_GoodBig hb, Option.bind_some]
  cases h1 : goodB a
  · rfl
  · rw [h1] at h; rw [show goodB b = false by simpa using h]; rfl
end
end Go.Proofs.Ytohhlnabfcbknaa.Ev
