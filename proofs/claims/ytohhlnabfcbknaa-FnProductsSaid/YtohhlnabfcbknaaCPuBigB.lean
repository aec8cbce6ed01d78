/- Big numbers: order, sums, differences. -/
import Derived.Test.YtohhlnabfcbknaaCPuBigA
namespace Go.Proofs.Ytohhlnabfcbknaa.Ev
open Go
set_option linter.unusedVariables false
set_option linter.unusedSimpArgs false
set_option linter.unusedSectionVars false

def cmpZ (a b : Int) : Int := if a < b then -1 else if b < a then 1 else 0
theorem cmpZ_lt {a b : Int} (h : a < b) : cmpZ a b = -1 := by unfold cmpZ; rw [if_pos h]
theorem cmpZ_gt {a b : Int} (h : b < a) : cmpZ a b = 1 := by unfold cmpZ; rw [if_neg (by omega), if_pos h]
theorem cmpZ_self (a : Int) : cmpZ a a = 0 := by unfold cmpZ; simp
theorem cmpZ_cases (a b : Int) : (cmpZ a b = -1 ∧ a < b) ∨ (cmpZ a b = 1 ∧ b < a) ∨ (cmpZ a b = 0 ∧ a = b) := by unfold cmpZ; split <;> (try split) <;> omega

theorem i_Compare (a b : Int) : F_cmp_Compare_int a b = some (cmpZ a b) := by
  unfold F_cmp_Compare_int F_cmp_isNaN_int cmpZ
  by_cases h1 : a < b <;> by_cases h2 : b < a <;> simp [h1, h2]

theorem mulB_neg {k : Nat} {d : Int} (h : d ≤ -1) : B k * d ≤ - B k := by
  have := Int.mul_le_mul_of_nonneg_left h (Int.le_of_lt (B_pos k))
  omega

theorem dig_cmp {l m : List Int} (hl : LB l) (hm : LB m) {k : Nat} {x y : Int} (hx : l[k]? = some x) (hy : m[k]? = some y) (hd : l.drop (k + 1) = m.drop (k + 1)) : (x < y → val l < val m) ∧ (y < x → val m < val l) := by
  have kl := getL hx
  have km := getL hy
  have e1 := val_split l k (by omega)
  have e2 := val_split m k (by omega)
  have d1 : l.drop k = x :: l.drop (k + 1) := by rw [List.drop_eq_getElem_cons kl]; congr 1; rw [List.getElem?_eq_getElem kl] at hx; exact Option.some.inj hx
  have d2 : m.drop k = y :: m.drop (k + 1) := by rw [List.drop_eq_getElem_cons km]; congr 1; rw [List.getElem?_eq_getElem km] at hy; exact Option.some.inj hy
  rw [d1] at e1
  rw [d2, ← hd] at e2
  simp only [val] at e1 e2
  have t1 := val_nonneg (hl.take k)
  have t2 := val_nonneg (hm.take k)
  have t3 := val_lt (hl.take k)
  have t4 := val_lt (hm.take k)
  rw [List.length_take, Nat.min_eq_left (by omega)] at t3 t4
  rw [Int.mul_add] at e1 e2
  constructor
  · intro h
    have := mulB_neg (k := k) (show x - y ≤ -1 by omega)
    rw [Int.mul_sub] at this
    omega
  · intro h
    have := mulB_neg (k := k) (show y - x ≤ -1 by omega)
    rw [Int.mul_sub] at this
    omega

theorem cmp_len {a b : Nat} : ((lim a).length < (lim b).length → a < b) := by
  intro h
  rcases Nat.lt_or_ge a b with h1 | h1
  · exact h1
  · exfalso
    have h2 := (lim_len (n := a) (k := (lim a).length)).1 (Nat.le_refl _)
    have := (lim_len (n := b) (k := (lim a).length)).2 (by omega)
    omega

section
variable {l m : List Int} (hl : LB l) (hm : LB m) (hlen : l.length = m.length) (hb : Brief l)
include hl hm hlen hb

theorem i_cmp_loop : (val l = val m → loopM (fun (s : ((List Int) × ((List Int) × Int))) => B_i_compareLimbs_0 s.1 s.2.1 s.2.2) (l, (m, (l.length : Int) - 1)) = some (.inl ())) ∧
    (val l ≠ val m → loopM (fun (s : ((List Int) × ((List Int) × Int))) => B_i_compareLimbs_0 s.1 s.2.1 s.2.2) (l, (m, (l.length : Int) - 1)) = some (.inr (cmpZ (val l) (val m)))) := by
  unfold Brief at hb
  have key : ∀ (n : Nat), n ≤ l.length → l.drop n = m.drop n → (l = m → loopM (fun (s : ((List Int) × ((List Int) × Int))) => B_i_compareLimbs_0 s.1 s.2.1 s.2.2) (l, (m, (n : Int) - 1)) = some (.inl ())) ∧ (l ≠ m → loopM (fun (s : ((List Int) × ((List Int) × Int))) => B_i_compareLimbs_0 s.1 s.2.1 s.2.2) (l, (m, (n : Int) - 1)) = some (.inr (cmpZ (val l) (val m))) ∧ val l ≠ val m) := by
    intro n
    induction n with
    | zero =>
      intro _ h
      simp only [List.drop_zero] at h
      refine ⟨fun _ => loop_end rfl, fun hn => absurd h hn⟩
    | succ n ih =>
      intro hn h
      have k1 : n < l.length := by omega
      have k2 : n < m.length := by omega
      have hx : l[n]? = some l[n] := List.getElem?_eq_getElem k1
      have hy : m[n]? = some m[n] := List.getElem?_eq_getElem k2
      have hs : ((n + 1 : Nat) : Int) - 1 = (n : Int) := by omega
      rw [hs]
      by_cases he : l[n] = m[n]
      · have hd : l.drop n = m.drop n := by rw [List.drop_eq_getElem_cons k1, List.drop_eq_getElem_cons k2, he, h]
        have hstep : B_i_compareLimbs_0 l m (n : Int) = some (.inl (l, (m, (n : Int) - 1))) := by
          unfold B_i_compareLimbs_0
          rw [decide_eq_true (show (n : Int) ≥ 0 by omega), getI_nat, getI_nat, hx, hy, wrapI (by omega) (by omega)]
          simp only [cond_true, Option.bind_some, he, bne_self_eq_false, cond_false]
        obtain ⟨i1, i2⟩ := ih (by omega) hd
        exact ⟨fun hh => by rw [loop_go hstep]; exact i1 hh, fun hh => by rw [loop_go hstep]; exact i2 hh⟩
      · obtain ⟨c1, c2⟩ := dig_cmp hl hm hx hy h
        have hne : l ≠ m := fun hh => he (by subst hh; rfl)
        have hc : cmpZ l[n] m[n] = cmpZ (val l) (val m) := by
          rcases Int.lt_or_gt_of_ne he with h1 | h1
          · rw [cmpZ_lt h1, cmpZ_lt (c1 h1)]
          · rw [cmpZ_gt h1, cmpZ_gt (c2 h1)]
        have hstep : B_i_compareLimbs_0 l m (n : Int) = some (.inr (.inr (cmpZ (val l) (val m)))) := by
          unfold B_i_compareLimbs_0
          rw [decide_eq_true (show (n : Int) ≥ 0 by omega), getI_nat, getI_nat, hx, hy]
          have hb : (l[n] != m[n]) = true := by simpa using he
          simp only [cond_true, Option.bind_some, hb, i_Compare, hc]
        refine ⟨fun hh => absurd hh hne, fun _ => ⟨loop_end hstep, ?_⟩⟩
        rcases Int.lt_or_gt_of_ne he with h1 | h1
        · have := c1 h1; omega
        · have := c2 h1; omega
  obtain ⟨h1, h2⟩ := key l.length (Nat.le_refl _) (by rw [List.drop_length, hlen, List.drop_length])
  constructor
  · intro hv
    by_cases he : l = m
    · exact h1 he
    · exact absurd hv (h2 he).2
  · intro hv
    exact (h2 fun he => hv (by rw [he])).1

theorem s_cmp_loop : (val l = val m → loopM (fun (s : ((List Int) × ((List Int) × Int))) => B_s_l1Cmp_0 s.1 s.2.1 s.2.2) (l, (m, (l.length : Int) - 1)) = some (.inl ())) ∧
    (val l ≠ val m → loopM (fun (s : ((List Int) × ((List Int) × Int))) => B_s_l1Cmp_0 s.1 s.2.1 s.2.2) (l, (m, (l.length : Int) - 1)) = some (.inr (cmpZ (val l) (val m)))) := by
  unfold Brief at hb
  have key : ∀ (n : Nat), n ≤ l.length → l.drop n = m.drop n → (l = m → loopM (fun (s : ((List Int) × ((List Int) × Int))) => B_s_l1Cmp_0 s.1 s.2.1 s.2.2) (l, (m, (n : Int) - 1)) = some (.inl ())) ∧ (l ≠ m → loopM (fun (s : ((List Int) × ((List Int) × Int))) => B_s_l1Cmp_0 s.1 s.2.1 s.2.2) (l, (m, (n : Int) - 1)) = some (.inr (cmpZ (val l) (val m))) ∧ val l ≠ val m) := by
    intro n
    induction n with
    | zero =>
      intro _ h
      simp only [List.drop_zero] at h
      refine ⟨fun _ => loop_end rfl, fun hn => absurd h hn⟩
    | succ n ih =>
      intro hn h
      have k1 : n < l.length := by omega
      have k2 : n < m.length := by omega
      have hx : l[n]? = some l[n] := List.getElem?_eq_getElem k1
      have hy : m[n]? = some m[n] := List.getElem?_eq_getElem k2
      have hs : ((n + 1 : Nat) : Int) - 1 = (n : Int) := by omega
      rw [hs]
      by_cases he : l[n] = m[n]
      · have hd : l.drop n = m.drop n := by rw [List.drop_eq_getElem_cons k1, List.drop_eq_getElem_cons k2, he, h]
        have hstep : B_s_l1Cmp_0 l m (n : Int) = some (.inl (l, (m, (n : Int) - 1))) := by
          unfold B_s_l1Cmp_0
          rw [decide_eq_true (show (n : Int) ≥ 0 by omega), getI_nat, getI_nat, hx, hy, wrapI (by omega) (by omega)]
          simp only [cond_true, Option.bind_some, he]
          rw [decide_eq_false (Int.lt_irrefl _)]
          rfl
        obtain ⟨i1, i2⟩ := ih (by omega) hd
        exact ⟨fun hh => by rw [loop_go hstep]; exact i1 hh, fun hh => by rw [loop_go hstep]; exact i2 hh⟩
      · obtain ⟨c1, c2⟩ := dig_cmp hl hm hx hy h
        have hne : l ≠ m := fun hh => he (by subst hh; rfl)
        have hstep : B_s_l1Cmp_0 l m (n : Int) = some (.inr (.inr (cmpZ (val l) (val m)))) := by
          unfold B_s_l1Cmp_0
          rw [decide_eq_true (show (n : Int) ≥ 0 by omega), getI_nat, getI_nat, hx, hy]
          simp only [cond_true, Option.bind_some]
          rcases Int.lt_or_gt_of_ne he with h1 | h1
          · rw [decide_eq_true h1, cmpZ_lt (c1 h1)]; rfl
          · rw [decide_eq_false (by omega), decide_eq_true h1, cmpZ_gt (c2 h1)]; rfl
        refine ⟨fun hh => absurd hh hne, fun _ => ⟨loop_end hstep, ?_⟩⟩
        rcases Int.lt_or_gt_of_ne he with h1 | h1
        · have := c1 h1; omega
        · have := c2 h1; omega
  obtain ⟨h1, h2⟩ := key l.length (Nat.le_refl _) (by rw [List.drop_length, hlen, List.drop_length])
  constructor
  · intro hv
    by_cases he : l = m
    · exact h1 he
    · exact absurd hv (h2 he).2
  · intro hv
    exact (h2 fun he => hv (by rw [he])).1
end

theorem i_compareLimbs {a b : Nat} (ha : Brief (lim a)) (hb : Brief (lim b)) : F_i_compareLimbs (lim a) (lim b) = some (cmpZ a b) := by
  unfold F_i_compareLimbs
  have ha' := ha
  have hb' := hb
  unfold Brief at ha' hb'
  by_cases h : (lim a).length = (lim b).length
  · have e : ((((lim a).length : Nat) : Int) != (((lim b).length : Nat) : Int)) = false := by simp [h]
    rw [e, wrapI (by omega) (by omega)]
    simp only [cond_false]
    obtain ⟨h1, h2⟩ := i_cmp_loop (lim_lb a) (lim_lb b) h ha
    rw [lim_val, lim_val] at h1 h2
    by_cases hv : (a : Int) = b
    · rw [h1 hv, hv, cmpZ_self]; rfl
    · rw [h2 hv]; rfl
  · have e : ((((lim a).length : Nat) : Int) != (((lim b).length : Nat) : Int)) = true := by simp; omega
    rw [e]
    simp only [cond_true, i_Compare, Option.bind_some]
    rcases Nat.lt_or_gt_of_ne h with h1 | h1
    · have := cmp_len h1
      rw [cmpZ_lt (by omega), cmpZ_lt (by omega)]
    · have := cmp_len h1
      rw [cmpZ_gt (by omega), cmpZ_gt (by omega)]
theorem s_l1Cmp {a b : Nat} (ha : Brief (lim a)) (hb : Brief (lim b)) : F_s_l1Cmp (lim a) (lim b) = some (cmpZ a b) := by
  unfold F_s_l1Cmp
  have ha' := ha
  have hb' := hb
  unfold Brief at ha' hb'
  by_cases h : (lim a).length = (lim b).length
  · have e : ((((lim a).length : Nat) : Int) != (((lim b).length : Nat) : Int)) = false := by simp [h]
    rw [e, wrapI (by omega) (by omega)]
    simp only [cond_false]
    obtain ⟨h1, h2⟩ := s_cmp_loop (lim_lb a) (lim_lb b) h ha
    rw [lim_val, lim_val] at h1 h2
    by_cases hv : (a : Int) = b
    · rw [h1 hv, hv, cmpZ_self]; rfl
    · rw [h2 hv]; rfl
  · have e : ((((lim a).length : Nat) : Int) != (((lim b).length : Nat) : Int)) = true := by simp; omega
    rw [e]
    simp only [cond_true]
    rcases Nat.lt_or_gt_of_ne h with h1 | h1
    · have := cmp_len h1
      rw [decide_eq_true (by omega), cmpZ_lt (by omega)]; rfl
    · have := cmp_len h1
      rw [decide_eq_false (by omega), cmpZ_gt (by omega)]; rfl

/-! ### limbs -/
/-- A limb, nought beyond the top. -/
def dg (l : List Int) (k : Nat) : Int := l.getD k 0
theorem dg_get {l : List Int} {k : Nat} {x : Int} (h : l[k]? = some x) : dg l k = x := by unfold dg; rw [List.getD_eq_getElem?_getD, h]; rfl
theorem dg_out {l : List Int} {k : Nat} (h : l.length ≤ k) : dg l k = 0 := by unfold dg; rw [List.getD_eq_getElem?_getD, List.getElem?_eq_none h]; rfl
theorem dg_lb {l : List Int} (h : LB l) (k : Nat) : 0 ≤ dg l k ∧ dg l k < 65536 := by
  rcases Nat.lt_or_ge k l.length with hk | hk
  · rw [dg_get (List.getElem?_eq_getElem hk)]; exact h _ (List.getElem_mem _)
  · rw [dg_out hk]; omega
theorem val_take_succ (l : List Int) (k : Nat) : val (l.take (k + 1)) = val (l.take k) + B k * dg l k := by
  rcases Nat.lt_or_ge k l.length with hk | hk
  · have he := List.getElem?_eq_getElem hk
    rw [List.take_add_one, he, dg_get he, Option.toList_some, val_snoc, List.length_take, Nat.min_eq_left (by omega)]
  · rw [dg_out hk, List.take_of_length_le (by omega), List.take_of_length_le hk]
    omega
theorem s_l1Limb {l : List Int} (k : Nat) : F_s_l1Limb l (k : Int) = some (dg l k) := by
  unfold F_s_l1Limb
  rcases Nat.lt_or_ge k l.length with hk | hk
  · rw [decide_eq_true (by omega), getI_nat, List.getElem?_eq_getElem hk, dg_get (List.getElem?_eq_getElem hk)]
    rfl
  · rw [decide_eq_false (by omega), dg_out hk]
    rfl

/-! ### sums -/
theorem app1 {l : List Int} {x : Int} (h : l.length ≤ 100000000) : appL 8 1 l [x] = some (l ++ [x]) := appL_is (by simp [maxBytes]; omega) (by simp [maxBytes]; omega)

theorem s_l1AddLimbs {a b : List Int} (ha : LB a) (hb : LB b) (na : a.length ≤ 10000000) (nb : b.length ≤ 10000000) :
    ∃ r, F_s_l1AddLimbs a b = some r ∧ LB r ∧ val r = val a + val b ∧ r.length ≤ max a.length b.length + 1 ∧ (r.length ≤ max a.length b.length ∨ B (max a.length b.length) ≤ val a + val b) := by
  unfold F_s_l1AddLimbs
  obtain ⟨r, h1, h2⟩ := loop_one (f := fun (s : ((List Int) × ((List Int) × ((List Int) × (Int × Int))))) => B_s_l1AddLimbs_0 s.1 s.2.1 s.2.2.1 s.2.2.2.1 s.2.2.2.2)
    (I := fun s => ∃ (k : Nat) (out : List Int) (c : Int), s = (out, (a, (b, (c, (k : Int))))) ∧ out.length = k ∧ k ≤ max a.length b.length + 1 ∧ LB out ∧ (c = 0 ∨ c = 1) ∧ (k = max a.length b.length + 1 → c = 0 ∧ B (max a.length b.length) ≤ val a + val b) ∧ val out + B k * c = val (a.take k) + val (b.take k))
    (R := fun r => LB r ∧ val r = val a + val b ∧ r.length ≤ max a.length b.length + 1 ∧ (r.length ≤ max a.length b.length ∨ B (max a.length b.length) ≤ val a + val b)) (fun s => max a.length b.length + 2 - s.1.length) (by
      rintro s ⟨k, out, c, rfl, h1, h2, h3, h4, h4', h5⟩
      simp only
      have da := dg_lb ha k
      have db := dg_lb hb k
      have go : k < max a.length b.length ∨ c = 1 → ∃ c', B_s_l1AddLimbs_0 out a b c (k : Int) = some (.inl (out ++ [(dg a k + dg b k + c) % 65536], (a, (b, (c', ((k + 1 : Nat) : Int)))))) ∧ c' = (dg a k + dg b k + c) / 65536 := by
        intro hgo
        refine ⟨_, ?_, rfl⟩
        have hkk : k ≤ max a.length b.length := by rcases hgo with h | h <;> omega
        unfold B_s_l1AddLimbs_0
        have hcond : (bif decide ((k : Int) < ((a.length : Nat) : Int)) then some (Sum.inr (α := (List Int × List Int × List Int × Int × Int) ⊕ List Int) (out, (a, (b, (c, (k : Int)))))) else bif decide ((k : Int) < ((b.length : Nat) : Int)) then some (Sum.inr (out, (a, (b, (c, (k : Int)))))) else bif decide (c > 0) then some (Sum.inr (out, (a, (b, (c, (k : Int)))))) else some (Sum.inl (Sum.inr out))) = some (Sum.inr (out, (a, (b, (c, (k : Int)))))) := by
          by_cases c1 : (k : Int) < (a.length : Int)
          · rw [decide_eq_true c1]; rfl
          · by_cases c2 : (k : Int) < (b.length : Int)
            · rw [decide_eq_false c1, decide_eq_true c2]; rfl
            · have : c > 0 := by rcases hgo with h | h <;> omega
              rw [decide_eq_false c1, decide_eq_false c2, decide_eq_true this]; rfl
        rw [hcond]
        simp only [Option.bind_some, Sum.elim_inr, s_l1Limb]
        rw [wrapI (n := dg a k + dg b k) (by omega) (by omega), wrapI (n := dg a k + dg b k + c) (by omega) (by omega), Int.tmod_eq_emod_of_nonneg (by omega), Int.tdiv_eq_ediv_of_nonneg (by omega), wrapI (by omega) (by omega), app1 (by omega), wrap1 (by omega)]
        rfl
      by_cases hgo : k < max a.length b.length ∨ c = 1
      · obtain ⟨c', e1, e2⟩ := go hgo
        clear go
        have hkk : k ≤ max a.length b.length := by
          rcases hgo with h | h
          · omega
          · rcases Nat.lt_or_ge (max a.length b.length) k with h6 | h6
            · have := h4' (by omega); omega
            · exact h6
        refine .inl ⟨_, e1, ⟨k + 1, _, c', rfl, by simp [h1], by omega, h3.append (LB.cons (by omega) LB.nil), by omega, ?_, ?_⟩, by simp; omega⟩
        · intro hk
          have : k = max a.length b.length := by omega
          rw [dg_out (by omega), dg_out (by omega)] at e2
          refine ⟨by omega, ?_⟩
          have hc1 : c = 1 := by omega
          rw [hc1, List.take_of_length_le (by omega), List.take_of_length_le (by omega), this] at h5
          have := val_nonneg h3
          omega
        · rw [val_snoc, h1, val_take_succ, val_take_succ]
          have : B (k + 1) * c' = B k * (65536 * c') := by simp only [B]; rw [Int.mul_comm 65536 (B k), Int.mul_assoc]
          rw [this]
          have hq : (dg a k + dg b k + c) % 65536 + 65536 * c' = dg a k + dg b k + c := by omega
          have : B k * ((dg a k + dg b k + c) % 65536) + B k * (65536 * c') = B k * dg a k + B k * dg b k + B k * c := by rw [← Int.mul_add, hq, Int.mul_add, Int.mul_add]
          omega
      · clear go
        have hc : c = 0 := by omega
        have hk : max a.length b.length ≤ k := by omega
        subst hc
        refine .inr ⟨out, ?_, h3, ?_, by omega, ?_⟩
        · unfold B_s_l1AddLimbs_0
          rw [decide_eq_false (by omega), decide_eq_false (by omega)]
          rfl
        · rw [List.take_of_length_le (by omega), List.take_of_length_le (by omega)] at h5
          omega
        · rcases Nat.lt_or_ge (max a.length b.length) k with h6 | h6
          · exact .inr (h4' (by omega)).2
          · left; omega) ([], (a, (b, (0, 0)))) ⟨0, [], 0, rfl, rfl, by omega, LB.nil, .inl rfl, by omega, by simp [val, B]⟩
  exact ⟨r, by rw [h1]; rfl, h2⟩

theorem i_addLimbs {a b : List Int} (ha : LB a) (hb : LB b) (na : a.length ≤ 10000000) (nb : b.length ≤ 10000000) :
    ∃ r, F_i_addLimbs a b = some r ∧ LB r ∧ val r = val a + val b ∧ r.length ≤ max a.length b.length + 1 := by
  unfold F_i_addLimbs
  have hM : maxL [((a.length : Nat) : Int), ((b.length : Nat) : Int)] = ((max a.length b.length : Nat) : Int) := by simp only [maxL, List.foldl]; split <;> omega
  obtain ⟨r, h1, h2⟩ := loop_one (f := fun (s : ((List Int) × ((List Int) × ((List Int) × (Int × Int))))) => B_i_addLimbs_0 s.1 s.2.1 s.2.2.1 s.2.2.2.1 s.2.2.2.2)
    (I := fun s => ∃ (k : Nat) (out : List Int) (c : Int), s = (out, (a, (b, (c, (k : Int))))) ∧ out.length = k ∧ k ≤ max a.length b.length + 1 ∧ LB out ∧ (c = 0 ∨ c = 1) ∧ (k = max a.length b.length + 1 → c = 0) ∧ val out + B k * c = val (a.take k) + val (b.take k))
    (R := fun r => LB r ∧ val r = val a + val b ∧ r.length ≤ max a.length b.length + 1) (fun s => max a.length b.length + 2 - s.1.length) (by
      rintro s ⟨k, out, c, rfl, h1, h2, h3, h4, h4', h5⟩
      simp only
      have da := dg_lb ha k
      have db := dg_lb hb k
      have go : k < max a.length b.length ∨ c = 1 → ∃ c', B_i_addLimbs_0 out a b c (k : Int) = some (.inl (out ++ [(dg a k + dg b k + c) % 65536], (a, (b, (c', ((k + 1 : Nat) : Int)))))) ∧ c' = (dg a k + dg b k + c) / 65536 := by
        intro hgo
        refine ⟨_, ?_, rfl⟩
        have hkk : k ≤ max a.length b.length := by rcases hgo with h | h <;> omega
        unfold B_i_addLimbs_0
        rw [hM]
        have hcond : (bif decide ((k : Int) < ((max a.length b.length : Nat) : Int)) then some (Sum.inr (α := (List Int × List Int × List Int × Int × Int) ⊕ List Int) (out, (a, (b, (c, (k : Int)))))) else bif decide (c > 0) then some (Sum.inr (out, (a, (b, (c, (k : Int)))))) else some (Sum.inl (Sum.inr out))) = some (Sum.inr (out, (a, (b, (c, (k : Int)))))) := by
          by_cases c1 : (k : Int) < ((max a.length b.length : Nat) : Int)
          · rw [decide_eq_true c1]; rfl
          · have : c > 0 := by rcases hgo with h | h <;> omega
            rw [decide_eq_false c1, decide_eq_true this]; rfl
        rw [hcond]
        simp only [Option.bind_some, Sum.elim_inr]
        have s1 : (bif decide ((k : Int) < ((a.length : Nat) : Int)) then (getI a (k : Int)).bind fun x3 => some (Sum.inr (α := (List Int × List Int × List Int × Int × Int) ⊕ List Int) (out, (a, (b, (IntKind.wrap .i64 (c + x3), (k : Int)))))) else some (Sum.inr (out, (a, (b, (c, (k : Int))))))) = some (Sum.inr (out, (a, (b, (c + dg a k, (k : Int)))))) := by
          rcases Nat.lt_or_ge k a.length with hk | hk
          · rw [decide_eq_true (by omega), getI_nat, List.getElem?_eq_getElem hk, ← dg_get (List.getElem?_eq_getElem hk)]
            simp only [cond_true, Option.bind_some]
            rw [wrapI (by omega) (by omega)]
          · rw [decide_eq_false (by omega), dg_out hk]
            simp
        rw [s1]
        simp only [Option.bind_some, Sum.elim_inr]
        have s2 : (bif decide ((k : Int) < ((b.length : Nat) : Int)) then (getI b (k : Int)).bind fun x3 => some (Sum.inr (α := (List Int × List Int × List Int × Int × Int) ⊕ List Int) (out, (a, (b, (IntKind.wrap .i64 (c + dg a k + x3), (k : Int)))))) else some (Sum.inr (out, (a, (b, (c + dg a k, (k : Int))))))) = some (Sum.inr (out, (a, (b, (dg a k + dg b k + c, (k : Int)))))) := by
          rcases Nat.lt_or_ge k b.length with hk | hk
          · rw [decide_eq_true (by omega), getI_nat, List.getElem?_eq_getElem hk, ← dg_get (List.getElem?_eq_getElem hk)]
            simp only [cond_true, Option.bind_some]
            rw [wrapI (by omega) (by omega), show c + dg a k + dg b k = dg a k + dg b k + c by omega]
          · rw [decide_eq_false (by omega), dg_out hk, show dg a k + 0 + c = c + dg a k by omega]
            rfl
        rw [s2]
        simp only [Option.bind_some, Sum.elim_inr]
        rw [Int.tmod_eq_emod_of_nonneg (by omega), Int.tdiv_eq_ediv_of_nonneg (by omega), wrapI (by omega) (by omega), app1 (by omega), wrap1 (by omega)]
        rfl
      by_cases hgo : k < max a.length b.length ∨ c = 1
      · obtain ⟨c', e1, e2⟩ := go hgo
        clear go
        have hkk : k ≤ max a.length b.length := by
          rcases hgo with h | h
          · omega
          · rcases Nat.lt_or_ge (max a.length b.length) k with h6 | h6
            · have := h4' (by omega); omega
            · exact h6
        refine .inl ⟨_, e1, ⟨k + 1, _, c', rfl, by simp [h1], by omega, h3.append (LB.cons (by omega) LB.nil), by omega, ?_, ?_⟩, by simp; omega⟩
        · intro hk
          have : k = max a.length b.length := by omega
          rw [dg_out (by omega), dg_out (by omega)] at e2
          omega
        · rw [val_snoc, h1, val_take_succ, val_take_succ]
          have : B (k + 1) * c' = B k * (65536 * c') := by simp only [B]; rw [Int.mul_comm 65536 (B k), Int.mul_assoc]
          rw [this]
          have hq : (dg a k + dg b k + c) % 65536 + 65536 * c' = dg a k + dg b k + c := by omega
          have : B k * ((dg a k + dg b k + c) % 65536) + B k * (65536 * c') = B k * dg a k + B k * dg b k + B k * c := by rw [← Int.mul_add, hq, Int.mul_add, Int.mul_add]
          omega
      · clear go
        have hc : c = 0 := by omega
        have hk : max a.length b.length ≤ k := by omega
        subst hc
        refine .inr ⟨out, ?_, h3, ?_, by omega⟩
        · unfold B_i_addLimbs_0
          rw [hM, decide_eq_false (by omega)]
          rfl
        · rw [List.take_of_length_le (by omega), List.take_of_length_le (by omega)] at h5
          omega) ([], (a, (b, (0, 0)))) ⟨0, [], 0, rfl, rfl, by omega, LB.nil, .inl rfl, by omega, by simp [val, B]⟩
  exact ⟨r, by rw [h1]; rfl, h2⟩
end Go.Proofs.Ytohhlnabfcbknaa.Ev
