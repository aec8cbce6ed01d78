/- The law FnPoints, with no program in sight. -/
import Derived.Test.YtcmihlhmeonmfaaCPuWay
namespace Go.Proofs.Ytcmihlhmeonmfaa.Ev
open Go
set_option linter.unusedVariables false
set_option linter.unusedSimpArgs false
set_option linter.unusedSectionVars false

theorem draw_meet {code : List Int} (h : Cur 0 (code, 0, 0)) : ∃ a b c d, F_s_DrawSegmentsMeet code = some (a, b, c, d) := by
  unfold F_s_DrawSegmentsMeet
  obtain ⟨c1, v1, e1, q1, _⟩ := pt_ok h (by omega)
  obtain ⟨c2, v2, e2, q2, _⟩ := pt_ok q1 (by omega)
  obtain ⟨c3, v3, e3, q3, _⟩ := pt_ok q2 (by omega)
  obtain ⟨c4, v4, e4, q4, _⟩ := pt_ok q3 (by omega)
  simp only [e1, e2, e3, e4, Option.bind_some]
  exact ⟨_, _, _, _, rfl⟩

theorem draw_gcd {code : List Int} (h : Cur 0 (code, 0, 0)) : ∃ a b, F_s_DrawGcdInt code = some (a, b) ∧ (-20000 ≤ a ∧ a ≤ 20000) ∧ -20000 ≤ b ∧ b ≤ 20000 := by
  unfold F_s_DrawGcdInt
  obtain ⟨c1, v1, e1, q1, m1⟩ := among_ok h (by omega) [0, 12, -18, 10000, 10001, 7] (by simp) (by simp)
  obtain ⟨c2, v2, e2, q2, m2⟩ := among_ok q1 (by omega) [0, 8, -27, -10000, 100] (by simp) (by simp)
  simp only [e1, e2, Option.bind_some]
  refine ⟨_, _, rfl, ?_⟩
  simp only [List.mem_cons, List.not_mem_nil, or_false] at m1 m2
  omega

theorem draw_move {code : List Int} (h : Cur 0 (code, 0, 0)) : ∃ l d, F_s_DrawMovePts code = some (l, d) ∧ GW l ∧ GP d := by
  unfold F_s_DrawMovePts
  obtain ⟨c1, v1, e1, q1, g1⟩ := way_ok h (by omega)
  obtain ⟨c2, v2, e2, q2, g2⟩ := pt_ok q1 (by omega)
  simp only [e1, e2, Option.bind_some]
  exact ⟨_, _, rfl, g1, g2⟩

theorem short4 {a b c d : P2} : Short [a, b, c, d] := by unfold Short; simp
theorem short3 {a b c : P2} : Short [a, b, c] := by unfold Short; simp

theorem i_SegmentsMeet (a b c d : P2) : F_i_SegmentsMeet a b c d = some (if (goodPt a && goodPt b && goodPt c && goodPt d) = true then (meetSeg a b c d, true) else (false, false)) := by
  unfold F_i_SegmentsMeet
  rw [i_arePts short4]
  have : [(a.1, a.2), (b.1, b.2), (c.1, c.2), (d.1, d.2)].all goodPt = (goodPt a && goodPt b && goodPt c && goodPt d) := by simp [Bool.and_assoc]
  rw [this]
  cases ha : goodPt a with
  | false => simp
  | true => cases hb : goodPt b with
    | false => simp
    | true => cases hc : goodPt c with
      | false => simp
      | true => cases hd : goodPt d with
        | false => simp
        | true => simp only [Option.bind_some, i_meet ha hb hc hd]; rfl
theorem s_SegmentsMeet (a b c d : P2) : F_s_SegmentsMeet a b c d = some (if (goodPt a && goodPt b && goodPt c && goodPt d) = true then (meetSeg a b c d, true) else (false, false)) := by
  unfold F_s_SegmentsMeet
  rw [s_l8Pts short4]
  have : [(a.1, a.2), (b.1, b.2), (c.1, c.2), (d.1, d.2)].all goodPt = (goodPt a && goodPt b && goodPt c && goodPt d) := by simp [Bool.and_assoc]
  rw [this]
  cases ha : goodPt a with
  | false => simp
  | true => cases hb : goodPt b with
    | false => simp
    | true => cases hc : goodPt c with
      | false => simp
      | true => cases hd : goodPt d with
        | false => simp
        | true => simp only [Option.bind_some, s_l8Meet ha hb hc hd]; rfl

theorem all3 (a b c : P2) : [(a.1, a.2), (b.1, b.2), (c.1, c.2)].all goodPt = (goodPt a && goodPt b && goodPt c) := by simp [Bool.and_assoc]
theorem i_Orient (a b c : P2) : F_i_Orient a b c = some (if (goodPt a && goodPt b && goodPt c) = true then (orient a b c, true) else (0, false)) := by
  unfold F_i_Orient
  rw [i_arePts short3, all3]
  cases ha : goodPt a with
  | false => simp
  | true => cases hb : goodPt b with
    | false => simp
    | true => cases hc : goodPt c with
      | false => simp
      | true => simp only [Option.bind_some, i_orient ha hb hc]; rfl
theorem s_Orient (a b c : P2) : F_s_Orient a b c = some (if (goodPt a && goodPt b && goodPt c) = true then (orient a b c, true) else (0, false)) := by
  unfold F_s_Orient
  rw [s_l8Pts short3, all3]
  cases ha : goodPt a with
  | false => simp
  | true => cases hb : goodPt b with
    | false => simp
    | true => cases hc : goodPt c with
      | false => simp
      | true => simp only [Option.bind_some, s_l8Orient ha hb hc]; rfl
theorem i_OnSegment (a b c : P2) : F_i_OnSegment a b c = some (if (goodPt a && goodPt b && goodPt c) = true then (onSeg a b c, true) else (false, false)) := by
  unfold F_i_OnSegment
  rw [i_arePts short3, all3]
  cases ha : goodPt a with
  | false => simp
  | true => cases hb : goodPt b with
    | false => simp
    | true => cases hc : goodPt c with
      | false => simp
      | true => simp only [Option.bind_some, i_isOn ha hb hc]; rfl
theorem s_OnSegment (a b c : P2) : F_s_OnSegment a b c = some (if (goodPt a && goodPt b && goodPt c) = true then (onSeg a b c, true) else (false, false)) := by
  unfold F_s_OnSegment
  rw [s_l8Pts short3, all3]
  cases ha : goodPt a with
  | false => simp
  | true => cases hb : goodPt b with
    | false => simp
    | true => cases hc : goodPt c with
      | false => simp
      | true => simp only [Option.bind_some, s_l8On ha hb hc]; rfl

theorem cross_swap (a b c : P2) : cross b a c = - cross a b c := by unfold cross; grind
theorem cross_turn (a b c : P2) : cross b c a = cross a b c := by unfold cross; grind
theorem orient_swap (a b c : P2) : orient b a c = - orient a b c := by unfold orient; rw [cross_swap, sgn_neg]
theorem orient_turn (a b c : P2) : orient b c a = orient a b c := by unfold orient; rw [cross_turn]
theorem between_swap (a b x : Int) : between b a x = between a b x := by unfold between; rw [Int.min_comm, Int.max_comm]
theorem onSeg_swap (a b p : P2) : onSeg b a p = onSeg a b p := by
  unfold onSeg
  rw [cross_swap, between_swap a.1, between_swap a.2]
  have : (-cross a b p == 0) = (cross a b p == 0) := by rw [Bool.eq_iff_iff]; simp
  rw [this]
theorem meetSeg_rev (a b c d : P2) : meetSeg d c b a = meetSeg a b c d := by
  unfold meetSeg
  rw [onSeg_swap c d b, onSeg_swap c d a, onSeg_swap a b d, onSeg_swap a b c, orient_swap c d b, orient_swap c d a, orient_swap a b d, orient_swap a b c, Int.neg_mul_neg, Int.neg_mul_neg, Int.mul_comm (orient c d b), Int.mul_comm (orient a b d)]
  cases onSeg a b c <;> cases onSeg a b d <;> cases onSeg c d a <;> cases onSeg c d b <;> simp [Bool.and_comm]
theorem meet_of_on {a b c d : P2} (h : onSeg a b c = true) : meetSeg a b c d = true := by unfold meetSeg; rw [h]; simp
theorem orient_of_on {a b c : P2} (h : onSeg a b c = true) : orient a b c = 0 := by
  unfold onSeg at h
  simp only [Bool.and_eq_true, beq_iff_eq] at h
  unfold orient
  rw [h.1.1]
  rfl

/-! ### the greatest common divisor -/
theorem gcd_loop {f : Int × Int → Option ((Int × Int) ⊕ Int)} (hf : f = (fun (s : (Int × Int)) => bif decide (s.2 > (0 : Int)) then bif (s.2 == (0 : Int)) then none else some (Sum.inl (s.2, (Int.tmod s.1 s.2))) else some (Sum.inr s.1)))
    {a b : Int} (ha : 0 ≤ a) (hb : 0 ≤ b) : loopM f (a, b) = some (Int.gcd a b : Int) := by
  obtain ⟨r, h1, h2⟩ := loop_one (f := f) (I := fun s => 0 ≤ s.1 ∧ 0 ≤ s.2 ∧ Int.gcd s.1 s.2 = Int.gcd a b) (R := fun r => r = (Int.gcd a b : Int)) (fun s => s.2.toNat) (by
    rintro ⟨x, y⟩ ⟨h1, h2, h3⟩
    simp only at h1 h2 h3
    subst hf
    simp only
    by_cases hy : y > 0
    · have e1 : decide (y > 0) = true := by simpa using hy
      have e2 : (y == 0) = false := by simp; omega
      rw [Int.tmod_eq_emod_of_nonneg h1]
      refine .inl ⟨_, by rw [e1, e2]; rfl, ⟨h2, show 0 ≤ x % y from Int.emod_nonneg x (by omega), ?_⟩, ?_⟩
      · rw [← h3]
        simp only
        rw [Int.emod_def, Int.gcd_comm x, show y * (x / y) = (x / y) * y from Int.mul_comm .., Int.gcd_sub_mul_right_right]
      · have := Int.emod_lt_of_pos x hy
        have := Int.emod_nonneg x (show y ≠ 0 by omega)
        simp only
        omega
    · have e1 : decide (y > 0) = false := by simpa using hy
      have : y = 0 := by omega
      subst this
      refine .inr ⟨_, by rw [e1]; rfl, ?_⟩
      rw [← h3]
      simp only [Int.gcd_zero_right]
      omega) (a, b) ⟨ha, hb, rfl⟩
  rw [h1, h2]
theorem i_gcdInt {a b : Int} (ha : -20000 ≤ a ∧ a ≤ 20000) (hb : -20000 ≤ b ∧ b ≤ 20000) : F_i_gcdInt a b = some (Int.gcd a b : Int) := by
  unfold F_i_gcdInt
  have hM : ∀ x y : Int, maxL [x, y] = max x y := by intro x y; simp only [maxL, List.foldl]; split <;> omega
  rw [wrapI (by omega) (by omega), wrapI (by omega) (by omega), hM, hM, show max a (0 - a) = (a.natAbs : Int) by omega, show max b (0 - b) = (b.natAbs : Int) by omega, gcd_loop (by rfl) (by omega) (by omega)]
  simp [Int.gcd]
theorem s_l8Abs {a : Int} (ha : -20000 ≤ a ∧ a ≤ 20000) : F_s_l8Abs a = some (a.natAbs : Int) := by
  unfold F_s_l8Abs
  simp only [s_l8Sign, Option.bind_some]
  have : a * sgn a = (a.natAbs : Int) := by
    rcases sgn_cases a with h | h | h <;> rw [h.1] <;> omega
  rw [this, wrapI (by omega) (by omega)]
theorem s_l8Gcd {a b : Int} (ha : -20000 ≤ a ∧ a ≤ 20000) (hb : -20000 ≤ b ∧ b ≤ 20000) : F_s_l8Gcd a b = some (Int.gcd a b : Int) := by
  unfold F_s_l8Gcd
  simp only [s_l8Abs ha, s_l8Abs hb, Option.bind_some]
  rw [gcd_loop (by rfl) (by omega) (by omega)]
  simp [Int.gcd]
theorem i_GcdInt (a b : Int) : F_i_GcdInt a b = some (if (within a (-10000) 10000 && within b (-10000) 10000) = true then ((Int.gcd a b : Int), true) else (0, false)) := by
  unfold F_i_GcdInt
  simp only [i_within, Option.bind_some]
  cases ha : within a (-10000) 10000 with
  | false => rfl
  | true => cases hb : within b (-10000) 10000 with
    | false => rfl
    | true =>
      rw [within_iff] at ha hb
      simp only [i_gcdInt (show -20000 ≤ a ∧ a ≤ 20000 by omega) (show -20000 ≤ b ∧ b ≤ 20000 by omega), Option.bind_some]
      rfl
theorem s_GcdInt (a b : Int) : F_s_GcdInt a b = some (if (within a (-10000) 10000 && within b (-10000) 10000) = true then ((Int.gcd a b : Int), true) else (0, false)) := by
  unfold F_s_GcdInt
  simp only [s_l1In, Option.bind_some]
  cases ha : within a (-10000) 10000 with
  | false => rfl
  | true => cases hb : within b (-10000) 10000 with
    | false => rfl
    | true =>
      rw [within_iff] at ha hb
      simp only [s_l8Gcd (show -20000 ≤ a ∧ a ≤ 20000 by omega) (show -20000 ≤ b ∧ b ≤ 20000 by omega), Option.bind_some]
      rfl

/-! ### the law -/
theorem pureFnPoints {a b : List Int} (ha : ∀ x ∈ a, 0 ≤ x ∧ x ≤ 255) (hb : ∀ x ∈ b, 0 ≤ x ∧ x ≤ 255) (la : a.length ≤ 1000000000000000) (lb : b.length ≤ 1000000000000000) : F_l_FnPoints a b = some true := by
  unfold F_l_FnPoints
  rw [wrapI (by omega) (by omega)]
  by_cases hl : (a.length : Int) + (b.length : Int) > 1048576
  · rw [decide_eq_true hl]; rfl
  · rw [decide_eq_false hl]
    have ca : Cur 0 (a, 0, 0) := .start ha (by omega)
    have cb : Cur 0 (b, 0, 0) := .start hb (by omega)
    obtain ⟨p, q, r, s, e1⟩ := draw_meet ca
    obtain ⟨x, y, e2, hx, hy⟩ := draw_gcd cb
    obtain ⟨l, d, e3, hw, hd⟩ := draw_move cb
    have hs : Short l := by have := hw.hi; unfold Short; omega
    simp only [cond_false, e1, Option.bind_some, i_SegmentsMeet, s_SegmentsMeet, i_Orient, s_Orient, i_OnSegment, s_OnSegment, i_GoodPt, s_GoodPt, e2, i_GcdInt, s_GcdInt, e3, i_MovePts hs, s_MovePts hs, bne_self_eq_false, beq_self_eq_true, Bool.not_true]
    have tail : ((F_l_samePts (if isWay l = true ∧ goodPt d = true ∧ (l.map fun p => (p.1 + d.1, p.2 + d.2)).all goodPt = true then (l.map fun p => (p.1 + d.1, p.2 + d.2), true) else ([], false)).1
          (if isWay l = true ∧ goodPt d = true ∧ (l.map fun p => (p.1 + d.1, p.2 + d.2)).all goodPt = true then (l.map fun p => (p.1 + d.1, p.2 + d.2), true) else ([], false)).1).bind fun x24 =>
        bif (!x24) then some false else
        bif (if isWay l = true ∧ goodPt d = true ∧ (l.map fun p => (p.1 + d.1, p.2 + d.2)).all goodPt = true then (l.map fun p => (p.1 + d.1, p.2 + d.2), true) else ([], false)).2 then
          ((F_i_AreaTwice l)).bind fun x25 =>
          ((F_i_AreaTwice (if isWay l = true ∧ goodPt d = true ∧ (l.map fun p => (p.1 + d.1, p.2 + d.2)).all goodPt = true then (l.map fun p => (p.1 + d.1, p.2 + d.2), true) else ([], false)).1)).bind fun x26 =>
          bif x25.2 then bif x26.2 then some (x25.1 == x26.1) else some false else some false
        else some true) = some true := by
      split
      · rename_i h
        have hs2 : Short (l.map fun p => (p.1 + d.1, p.2 + d.2)) := by unfold Short at *; simpa using hs
        have hw2 : isWay (l.map fun p => (p.1 + d.1, p.2 + d.2)) = true := by
          have := (isWay_iff.1 h.1).1
          exact isWay_iff.2 ⟨by simpa using this, List.all_eq_true.1 h.2.2⟩
        simp only [l_samePts hs2, Option.bind_some, Bool.not_true, cond_false, cond_true, i_AreaTwice hs, i_AreaTwice hs2, h.1, hw2, if_true, area2_move, beq_self_eq_true]
      · rw [l_samePts (by unfold Short; simp)]
        rfl
    refine bind_inr (v := b) ?_ ?_
    · cases hg4 : (goodPt p && goodPt q && goodPt r && goodPt s) with
      | false => rfl
      | true =>
        simp only [Bool.and_eq_true] at hg4
        obtain ⟨⟨⟨hp, hq⟩, hr⟩, hs⟩ := hg4
        have ho : IntKind.wrap .i64 (0 - orient p q r) = - orient p q r := by
          have := sgn_cases (cross p q r)
          unfold orient
          rw [wrapI (by omega) (by omega)]
          omega
        simp only [hp, hq, hr, hs, Bool.and_self, if_true, cond_true, Bool.not_true, cond_false, meetSeg_rev, beq_self_eq_true, orient_swap p q r, orient_turn p q r, ho, bne_self_eq_false]
        cases hon : onSeg p q r with
        | false => rfl
        | true => simp only [cond_true, orient_of_on hon, bne_self_eq_false, cond_false, meet_of_on (d := s) hon, Bool.not_true]
    · simp only [e2, Option.bind_some]
      refine bind_inr (v := b) ?_ ?_
      · cases hw : (within x (-10000) 10000 && within y (-10000) 10000) with
        | false => rfl
        | true =>
          simp only [if_true, cond_true]
          by_cases h0 : (Int.gcd x y : Int) > 0
          · have e5 : (((Int.gcd x y : Nat) : Int) == 0) = false := beq_eq_false_iff_ne.2 (by omega)
            have d1 : Int.tmod x (Int.gcd x y) = 0 := Int.tmod_eq_zero_of_dvd (Int.gcd_dvd_left ..)
            have d2 : Int.tmod y (Int.gcd x y) = 0 := Int.tmod_eq_zero_of_dvd (Int.gcd_dvd_right ..)
            rw [decide_eq_true h0]
            simp only [cond_true, e5, cond_false, d1, d2, bne_self_eq_false]
          · rw [decide_eq_false h0]; rfl
      · simp only [e3, Option.bind_some, i_MovePts hs, s_MovePts hs, beq_self_eq_true, Bool.not_true, cond_false]
        exact tail
end Go.Proofs.Ytcmihlhmeonmfaa.Ev
