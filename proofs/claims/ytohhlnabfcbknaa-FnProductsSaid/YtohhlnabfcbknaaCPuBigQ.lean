/- Long division: what the reference takes off, gives back and guesses. -/
import Derived.Test.YtohhlnabfcbknaaCPuBigP
namespace Go.Proofs.Ytohhlnabfcbknaa.Ev
open Go
set_option linter.unusedVariables false
set_option linter.unusedSimpArgs false
set_option linter.unusedSectionVars false

theorem dg_snoc0 (v : List Int) (k : Nat) : dg (v ++ [0]) k = dg v k := by
  unfold dg
  simp only [List.getD_eq_getElem?_getD]
  rcases Nat.lt_or_ge k v.length with h | h
  · rw [List.getElem?_append_left h]
  · rw [List.getElem?_append_right h, List.getElem?_eq_none h]
    rcases Nat.eq_zero_or_pos (k - v.length) with g | g
    · rw [g]; rfl
    · rw [List.getElem?_eq_none (by simp; omega)]
theorem val_snoc0 (v : List Int) : val (v ++ [0]) = val v := by rw [val_snoc]; omega
theorem lb_snoc0 {v : List Int} (h : LB v) : LB (v ++ [0]) := h.append (LB.cons (by omega) LB.nil)

theorem s_less {u0 v : List Int} {q : Int} {j : Nat} (hu : LB u0) (hv : LB v) (hq : 0 ≤ q ∧ q < 65536) (hlen : j + v.length < u0.length) (hl : u0.length ≤ 1000000) :
    ∃ u c, F_s_l1Less u0 v (j : Int) q = some (u, c) ∧ Off u0 u j (v.length + 1) c q (v ++ [0]) := by
  obtain ⟨⟨u, c⟩, h1, h2⟩ := up_loop (body := fun (s : ((List Int) × ((List Int) × (Int × (Int × (Int × Int)))))) => B_s_l1Less_0 s.1 s.2.1 s.2.2.1 s.2.2.2.1 s.2.2.2.2.1 s.2.2.2.2.2)
    (st := fun k (b : List Int × Int) => (b.1, (v, ((j : Int), (q, (b.2, (k : Int))))))) (fin := fun b => (b.1, b.2)) (I := fun k b => Off u0 b.1 j k b.2 q (v ++ [0])) (e := v.length + 1)
    (by
      rintro k ⟨u, c⟩ hk hI
      simp only at hI
      have hul := hI.len
      have hp : j + k < u.length := by omega
      have du := dg_lb hI.lb (j + k)
      have dv := dg_lb hv k
      have c0 := hI.c0
      have c1 := hI.c1
      have m0 : 0 ≤ q * dg v k := Int.mul_nonneg hq.1 dv.1
      have m1 : q * dg v k ≤ 65535 * 65535 := Int.le_trans (Int.mul_le_mul_of_nonneg_left (show dg v k ≤ 65535 by omega) hq.1) (Int.mul_le_mul_of_nonneg_right (show q ≤ 65535 by omega) (by omega))
      have hnx := hI.next (lb_snoc0 hv) hq hp rfl
      rw [dg_snoc0] at hnx
      refine ⟨(u.set (j + k) (dg u (j + k) - q * dg v k - c + (if dg u (j + k) - q * dg v k - c < 0 then (-(dg u (j + k) - q * dg v k - c) + 65536 - 1) / 65536 else 0) * 65536), if dg u (j + k) - q * dg v k - c < 0 then (-(dg u (j + k) - q * dg v k - c) + 65536 - 1) / 65536 else 0), ?_, hnx⟩
      unfold B_s_l1Less_0 getN
      dsimp only
      have i1 : idxI ((j : Int) + (k : Int)) u.length = some (j + k) := by rw [show (j : Int) + (k : Int) = ((j + k : Nat) : Int) by omega]; exact idxI_nat hp
      have hw1 := wrap1 (show k < 4611686018427387904 by omega)
      have hjk := wrapI (n := (j : Int) + (k : Int)) (by omega) (by omega)
      rw [decide_eq_true (by omega), hjk]
      simp only [cond_true, i1, Option.bind_some, get_of_dg hp, s_l1Limb]
      rw [wrapI (n := q * dg v k) (by omega) (by omega), wrapI (n := dg u (j + k) - q * dg v k) (by omega) (by omega), wrapI (n := dg u (j + k) - q * dg v k - c) (by omega) (by omega)]
      have hxb : -4294967296 ≤ dg u (j + k) - q * dg v k - c ∧ dg u (j + k) - q * dg v k - c < 65536 := by omega
      generalize dg u (j + k) - q * dg v k - c = x at *
      by_cases hx : x < 0
      · rw [decide_eq_true hx, if_pos hx, wrapI (n := 0 - x) (by omega) (by omega), wrapI (n := 0 - x + 65536) (by omega) (by omega), wrapI (n := 0 - x + 65536 - 1) (by omega) (by omega), Int.tdiv_eq_ediv_of_nonneg (by omega), show 0 - x + 65536 - 1 = -x + 65536 - 1 by omega]
        rw [wrapI (n := (-x + 65536 - 1) / 65536) (by omega) (by omega), wrapI (n := (-x + 65536 - 1) / 65536 * 65536) (by omega) (by omega), wrapI (n := x + (-x + 65536 - 1) / 65536 * 65536) (by omega) (by omega)]
        simp only [cond_true, Option.bind_some, Sum.elim_inr, hjk, i1, get_of_dg hp, hw1]
      · rw [decide_eq_false hx, if_neg hx]
        simp only [cond_false, Option.bind_some, Sum.elim_inr, hjk, i1, get_of_dg hp, hw1, Int.zero_mul, Int.add_zero])
    (by
      rintro ⟨u, c⟩ _
      unfold B_s_l1Less_0
      dsimp only
      rw [decide_eq_false (by omega)]
      rfl) 0 (u0, 0) (by omega) (Off.start hu j q (v ++ [0]))
  refine ⟨u, c, ?_, h2⟩
  unfold F_s_l1Less
  dsimp only at h1
  rw [show ((0 : Nat) : Int) = 0 from rfl] at h1
  rw [h1]
  rfl

theorem s_back {u0 v : List Int} {j : Nat} (hu : LB u0) (hv : LB v) (hlen : j + v.length < u0.length) (hl : u0.length ≤ 1000000) :
    ∃ u c, F_s_l1Back u0 v (j : Int) = some u ∧ Back u0 u j (v.length + 1) c (v ++ [0]) := by
  obtain ⟨⟨u, c⟩, h1, h2⟩ := up_loop (body := fun (s : ((List Int) × ((List Int) × (Int × (Int × Int))))) => B_s_l1Back_0 s.1 s.2.1 s.2.2.1 s.2.2.2.1 s.2.2.2.2)
    (st := fun k (b : List Int × Int) => (b.1, (v, ((j : Int), (b.2, (k : Int)))))) (fin := fun b => b.1) (I := fun k b => Back u0 b.1 j k b.2 (v ++ [0])) (e := v.length + 1)
    (by
      rintro k ⟨u, c⟩ hk hI
      simp only at hI
      have hul := hI.len
      have hp : j + k < u.length := by omega
      have du := hI.lb (j + k) (by simp; omega)
      have dv := dg_lb hv k
      have c0 := hI.c0
      have c1 := hI.c1
      have hnx := hI.next (lb_snoc0 hv) (by simp; omega) hp
      rw [dg_snoc0] at hnx
      refine ⟨⟨_, _⟩, ?_, hnx⟩
      unfold B_s_l1Back_0 getN
      dsimp only
      have i1 : idxI ((j : Int) + (k : Int)) u.length = some (j + k) := by rw [show (j : Int) + (k : Int) = ((j + k : Nat) : Int) by omega]; exact idxI_nat hp
      have hw1 := wrap1 (show k < 4611686018427387904 by omega)
      have hjk := wrapI (n := (j : Int) + (k : Int)) (by omega) (by omega)
      rw [decide_eq_true (by omega), hjk]
      simp only [cond_true, i1, Option.bind_some, get_of_dg hp, s_l1Limb]
      rw [wrapI (n := dg u (j + k) + dg v k) (by omega) (by omega), wrapI (n := dg u (j + k) + dg v k + c) (by omega) (by omega), Int.tmod_eq_emod_of_nonneg (by omega), Int.tdiv_eq_ediv_of_nonneg (by omega), wrapI (n := (dg u (j + k) + dg v k + c) / 65536) (by omega) (by omega), hw1])
    (by
      rintro ⟨u, c⟩ _
      unfold B_s_l1Back_0
      dsimp only
      rw [decide_eq_false (by omega)]
      rfl) 0 (u0, 0) (by omega) ⟨rfl, fun i _ => dg_lb hu i, fun _ _ => rfl, by simp only; omega, by simp only; omega, by simp [val]⟩
  refine ⟨u, c, ?_, h2⟩
  unfold F_s_l1Back
  dsimp only at h1
  rw [show ((0 : Nat) : Int) = 0 from rfl] at h1
  rw [h1]
  rfl

theorem s_guess {u v : List Int} {j m : Nat} (H : Place u v j m) (hl : u.length ≤ 1000000) :
    ∃ q, F_s_l1Guess u v (j : Int) = some q ∧ val (u.drop j) / val v ≤ q ∧ q < 65536 ∧ q * val v < val (u.drop j) + val v := by
  have G := H.guess
  have hv := H.hv
  have hlen := H.len
  have hrest := H.rest
  have hst := H.start
  have d1 := dg_lb H.lu (j + m + 1)
  have d2 := dg_lb H.lu (j + m + 2)
  have hu : j + m < u.length := by omega
  have htop65 : dg u (j + m + 2) * 65536 + dg u (j + m + 1) < 65536 * (dg v (m + 1) + 1) := by
    have hP := G.hP
    have hU := G.hU
    have hV := G.hV
    have hv2 := G.hv2
    have hvr := G.hvr
    have hu2 := G.hu2
    have hur := G.hur
    rcases Int.lt_or_le (dg u (j + m + 2) * 65536 + dg u (j + m + 1)) (65536 * (dg v (m + 1) + 1)) with h | h
    · exact h
    · exfalso
      generalize dg u (j + m + 2) * 65536 + dg u (j + m + 1) = top at *
      generalize dg v (m + 1) = v1 at *
      generalize dg v m = v2 at *
      generalize dg u (j + m) = u2 at *
      generalize val (v.take m) = vr at *
      generalize val ((u.drop j).take m) = ur at *
      have e1 := Int.mul_le_mul_of_nonneg_right (show 65536 * (v1 + 1) * 65536 ≤ top * 65536 + u2 by omega) (Int.le_of_lt hP)
      have e2 := Int.mul_le_mul_of_nonneg_right (show v1 * 65536 + v2 + 1 ≤ (v1 + 1) * 65536 by omega) (Int.le_of_lt hP)
      rw [Int.add_mul, Int.one_mul] at e2
      have e3 : 65536 * (v1 + 1) * 65536 * B m = 65536 * ((v1 + 1) * 65536 * B m) := by grind
      omega
  have hv1 := G.hv1
  have hv1' := G.hv1'
  have htop0 : 0 ≤ dg u (j + m + 2) * 65536 + dg u (j + m + 1) := by omega
  have e1 := Int.emod_add_mul_ediv (dg u (j + m + 2) * 65536 + dg u (j + m + 1)) (dg v (m + 1))
  have e2 := Int.emod_nonneg (dg u (j + m + 2) * 65536 + dg u (j + m + 1)) (show dg v (m + 1) ≠ 0 by omega)
  have e3 : (dg u (j + m + 2) * 65536 + dg u (j + m + 1)) / dg v (m + 1) ≤ dg u (j + m + 2) * 65536 + dg u (j + m + 1) := Int.ediv_le_self _ htop0
  have e4 := Int.ediv_nonneg htop0 (show 0 ≤ dg v (m + 1) by omega)
  have w1 := wrapI (n := dg u (j + m + 2) * 65536) (by omega) (by omega)
  have w2 := wrapI (n := dg u (j + m + 2) * 65536 + dg u (j + m + 1)) (by omega) (by omega)
  have w3 := wrapI (n := (dg u (j + m + 2) * 65536 + dg u (j + m + 1)) / dg v (m + 1)) (by omega) (by omega)
  have g1 : getI u (IntKind.wrap .i64 ((j : Int) + (v.length : Int))) = some (dg u (j + m + 2)) := getI_dg (by rw [wrapI (by omega) (by omega)]; omega) (by omega)
  have g2 : getI u (IntKind.wrap .i64 (IntKind.wrap .i64 ((j : Int) + (v.length : Int)) - 1)) = some (dg u (j + m + 1)) := getI_dg (by rw [wrapI (n := (j : Int) + (v.length : Int)) (by omega) (by omega), wrapI (by omega) (by omega)]; omega) (by omega)
  have g3 : getI v (IntKind.wrap .i64 ((v.length : Int) - 1)) = some (dg v (m + 1)) := getI_dg (by rw [wrapI (by omega) (by omega)]; omega) (by omega)
  have g4 : getI v (IntKind.wrap .i64 ((v.length : Int) - 2)) = some (dg v m) := getI_dg (by rw [wrapI (by omega) (by omega)]; omega) (by omega)
  have g5 : getI u (IntKind.wrap .i64 (IntKind.wrap .i64 ((j : Int) + (v.length : Int)) - 2)) = some (dg u (j + m)) := getI_dg (by rw [wrapI (n := (j : Int) + (v.length : Int)) (by omega) (by omega), wrapI (by omega) (by omega)]; omega) (by omega)
  have hz : (dg v (m + 1) == 0) = false := beq_eq_false_iff_ne.2 (by omega)
  obtain ⟨r, h1, h2⟩ := loop_one (f := fun (s : ((List Int) × ((List Int) × (Int × (Int × (Int × Int)))))) => B_s_l1Guess_0 s.1 s.2.1 s.2.2.1 s.2.2.2.1 s.2.2.2.2.1 s.2.2.2.2.2)
    (I := fun s => ∃ q r : Int, s = (u, (v, ((j : Int), ((v.length : Int), (q, r))))) ∧ q * dg v (m + 1) + r = dg u (j + m + 2) * 65536 + dg u (j + m + 1) ∧ 0 ≤ r ∧ val (u.drop j) / val v ≤ q ∧ q < 4294967296)
    (R := fun q => val (u.drop j) / val v ≤ q ∧ q < 65536 ∧ q * val v < val (u.drop j) + val v) (fun s => s.2.2.2.2.1.toNat) (by
      rintro s ⟨q, r, rfl, f1, f2, f3, f4⟩
      simp only
      have hQ0 := G.hQ0
      have hQ1 := G.hQ1
      have hv2 := G.hv2
      have hu2 := G.hu2
      have htop := G.htop
      have hqv : 0 ≤ q * dg v (m + 1) := Int.mul_nonneg (by omega) (by omega)
      have hqv2 : 0 ≤ q * dg v m := Int.mul_nonneg (by omega) hv2.1
      have hqv2' : q * dg v m ≤ 4294967296 * 65536 := Int.le_trans (Int.mul_le_mul_of_nonneg_left (show dg v m ≤ 65536 by omega) (by omega)) (Int.mul_le_mul_of_nonneg_right (show q ≤ 4294967296 by omega) (by omega))
      have w5 := wrapI (n := q * dg v m) (by omega) (by omega)
      have w6 := wrapI (n := r * 65536) (by omega) (by omega)
      have w7 := wrapI (n := r * 65536 + dg u (j + m)) (by omega) (by omega)
      have w8 := wrapI (n := q - 1) (by omega) (by omega)
      have w9 := wrapI (n := r + dg v (m + 1)) (by omega) (by omega)
      have less : ∀ (hgo : val (u.drop j) / val v ≤ q - 1), ∃ q' r' : Int, (u, (v, ((j : Int), ((v.length : Int), (q - 1, r + dg v (m + 1)))))) = (u, (v, ((j : Int), ((v.length : Int), (q', r'))))) ∧ q' * dg v (m + 1) + r' = dg u (j + m + 2) * 65536 + dg u (j + m + 1) ∧ 0 ≤ r' ∧ val (u.drop j) / val v ≤ q' ∧ q' < 4294967296 := by
        intro hgo
        exact ⟨q - 1, r + dg v (m + 1), rfl, by rw [Int.sub_mul]; omega, by omega, hgo, by omega⟩
      by_cases c2 : r < 65536
      · by_cases c1 : q ≥ 65536
        · refine .inl ⟨(u, (v, ((j : Int), ((v.length : Int), (q - 1, r + dg v (m + 1)))))), ?_, less (by omega), by simp only; omega⟩
          unfold B_s_l1Guess_0
          rw [decide_eq_true c2, decide_eq_true c1]
          simp only [cond_true, Option.bind_some, Sum.elim_inl, Sum.elim_inr, g3, w8, w9]
        · by_cases c3 : q * dg v m > r * 65536 + dg u (j + m)
          · have hlt := guess_more G.hP G.hv1 G.hv2 G.hvr G.hu2 G.hur G.hV G.hU f1 (by omega) c3
            have hne : val (u.drop j) / val v ≤ q - 1 := by
              rcases Int.lt_or_le (q - 1) (val (u.drop j) / val v) with h | h
              · have : q = val (u.drop j) / val v := by omega
                have := G.hQ
                subst q
                omega
              · exact h
            refine .inl ⟨(u, (v, ((j : Int), ((v.length : Int), (q - 1, r + dg v (m + 1)))))), ?_, less hne, by simp only; omega⟩
            unfold B_s_l1Guess_0
            rw [decide_eq_true c2, decide_eq_false c1]
            simp only [cond_true, cond_false, Option.bind_some, g4, g5, w5, w6, w7, decide_eq_true c3, Sum.elim_inr, g3, w8, w9]
          · refine .inr ⟨q, ?_, f3, by omega, guess_one G.hP G.hv1 G.hv2 G.hvr G.hu2 G.hur G.hV G.hU f1 (by omega) (by omega) (by omega)⟩
            unfold B_s_l1Guess_0
            rw [decide_eq_true c2, decide_eq_false c1]
            simp only [cond_true, cond_false, Option.bind_some, g4, g5, w5, w6, w7, decide_eq_false c3, Sum.elim_inl]
      · have hq65 : q < 65536 := by
          rcases Int.lt_or_le q 65536 with h | h
          · exact h
          · exfalso
            have := Int.mul_le_mul_of_nonneg_right h (show 0 ≤ dg v (m + 1) by omega)
            omega
        have hle := guess_none G.hP G.hv1 G.hv2 G.hvr G.hu2 G.hur G.hV G.hU f1 (by omega) hq65 (by omega)
        have hV0 := G.hV0
        refine .inr ⟨q, ?_, f3, hq65, by omega⟩
        unfold B_s_l1Guess_0
        rw [decide_eq_false c2]
        rfl) (u, (v, ((j : Int), ((v.length : Int), ((dg u (j + m + 2) * 65536 + dg u (j + m + 1)) / dg v (m + 1), (dg u (j + m + 2) * 65536 + dg u (j + m + 1)) % dg v (m + 1)))))) ⟨_, _, rfl, by rw [Int.mul_comm]; omega, e2, hst, by omega⟩
  refine ⟨r, ?_, h2⟩
  unfold F_s_l1Guess
  simp only [g1, g2, g3, Option.bind_some, hz, cond_false, w1, w2, Int.tdiv_eq_ediv_of_nonneg htop0, Int.tmod_eq_emod_of_nonneg htop0, w3]
  rw [h1]
  rfl

/-- What is left of u, its own limbs good up to what is lent. -/
theorem Place.part {u v u' : List Int} {j m : Nat} (H : Place u v j m) (h1 : u'.length = u.length) (h2 : LB u') (h3 : ∀ i, j + m + 3 ≤ i → dg u' i = dg u i) {W e : Int} (h4 : val u' = val u - B j * W + B (j + m + 3) * e) :
    val (u'.drop j) = val (u.drop j) - W + B (m + 3) * e ∧ 0 ≤ val (u'.drop j) ∧ val (u'.drop j) < B (m + 3) := by
  have hz : val (u'.drop (j + (m + 3))) = 0 := val_zero_dg fun i => by rw [dg_drop, h3 _ (by omega)]; exact (H.high (by omega)).1
  have p1 := val_parts (u'.drop j) (m + 3)
  rw [List.drop_drop, hz] at p1
  have p2 := val_take_lt (h2.drop j) (m + 3)
  have p3 := val_parts u' j
  have p4 := val_parts u j
  have p5 := val_take_lt h2 j
  have p6 := val_take_lt H.lu j
  refine ⟨?_, by omega, by omega⟩
  refine low_eq p5 p6 ?_
  have e1 : B (j + m + 3) * e = B j * (B (m + 3) * e) := by rw [show j + m + 3 = j + (m + 3) by omega, B_add]; grind
  rw [Int.mul_add, Int.mul_sub]
  omega

set_option maxHeartbeats 1000000 in
theorem s_place {u v out : List Int} {bits : Int} {j m : Nat} (H : Place u v j m) (hl : u.length ≤ 1000000) (hj : j < out.length) :
    ∃ u', B_s_l1DivLimbs_1 u v out bits (j : Int) = some (.inl (u', (v, (out.set j (val (u.drop j) / val v), (bits, (j : Int) - 1))))) ∧
      u'.length = u.length ∧ LB u' ∧ val u' = val u - B j * (val (u.drop j) / val v * val v) ∧ val (u'.drop j) < val v := by
  have hlen := H.len
  have hvl := H.hv
  have hQ := H.quot
  have hmod := H.mod
  have hlt := H.lt
  have hpos := H.pos
  have hB3 : B (m + 3) = 65536 * B (m + 2) := rfl
  obtain ⟨q, hg1, hg2, hg3, hg4⟩ := s_guess H hl
  obtain ⟨u1, c, ht1, O⟩ := s_less (j := j) (q := q) H.lu H.lv ⟨by omega, hg3⟩ (by omega) hl
  have ov := O.v
  have ol := O.len
  have oc0 := O.c0
  rw [List.take_of_length_le (by simp), val_snoc0, hvl, show j + (m + 2 + 1) = j + m + 3 by omega] at ov
  have oh := O.hi
  rw [hvl, show j + (m + 2 + 1) = j + m + 3 by omega] at oh
  obtain ⟨p1, p2, p3⟩ := H.part ol O.lb oh (W := q * val v) (e := c) (by omega)
  have hge : decide ((j : Int) ≥ 0) = true := decide_eq_true (by omega)
  have w5 := wrapI (n := (j : Int) - 1) (by omega) (by omega)
  have hj0 : idxI (j : Int) out.length = some j := idxI_nat hj
  have gout : getN out j = some (dg out j) := get_of_dg hj
  have hBp := B_pos (m + 3)
  rcases H.one hg2 hg4 with hq | hq
  · have hc : c = 0 := by
      rw [hq] at p1
      have := low_eq (j := m + 3) (a := val (u1.drop j)) (b := val (u.drop j) - val (u.drop j) / val v * val v) (X := 0) (Y := c) ⟨p2, p3⟩ (by omega) (by omega)
      exact this.symm
    subst hc
    refine ⟨u1, ?_, ol, O.lb, by rw [hq] at ov; omega, by rw [hq] at p1; omega⟩
    unfold B_s_l1DivLimbs_1
    simp only [hge, cond_true, hg1, ht1, Option.bind_some, ol, decide_true, show decide ((0 : Int) > 0) = false from rfl, cond_false, hj0, gout, w5]
    rw [hq]
  · have hqv : q * val v = val (u.drop j) / val v * val v + val v := by rw [hq, Int.add_mul, Int.one_mul]
    have hc : c = 1 := by
      have := low_eq (j := m + 3) (a := val (u1.drop j)) (b := val (u.drop j) - q * val v + B (m + 3)) (X := 1) (Y := c) ⟨p2, p3⟩ (by omega) (by omega)
      exact this.symm
    subst hc
    obtain ⟨u2, c2, hb1, K⟩ := s_back (u0 := u1) (v := v) (j := j) O.lb H.lv (by omega) (by omega)
    have kl := K.len
    have kh := K.hi
    have kv := K.v
    rw [List.take_of_length_le (by simp), val_snoc0, hvl, show j + (m + 2 + 1) = j + m + 3 by omega] at kv
    rw [hvl, show j + (m + 2 + 1) = j + m + 3 by omega] at kh
    have klb : LB u2 := lb_of_dg fun i hi => by
      rcases Nat.lt_or_ge i (j + m + 3) with g | g
      · exact K.lb i (by simp; omega)
      · rw [kh i g]; exact dg_lb O.lb i
    have e1 : B j * (q * val v) = B j * (val (u.drop j) / val v * val v) + B j * val v := by rw [hqv, Int.mul_add]
    have hall : val u2 = val u - B j * (val (u.drop j) / val v * val v) + B (j + m + 3) * (1 - c2) := by
      rw [Int.mul_sub]; omega
    obtain ⟨k1, k2, k3⟩ := H.part (kl.trans ol) klb (fun i hi => (kh i hi).trans (oh i hi)) hall
    have hc2 : c2 = 1 := by
      have := low_eq (j := m + 3) (a := val (u2.drop j)) (b := val (u.drop j) - val (u.drop j) / val v * val v) (X := 0) (Y := 1 - c2) ⟨k2, k3⟩ (by omega) (by omega)
      omega
    subst hc2
    refine ⟨u2, ?_, kl.trans ol, klb, by omega, by omega⟩
    have w7 : IntKind.wrap .i64 (q - 1) = val (u.drop j) / val v := by rw [wrapI (by omega) (by omega)]; omega
    unfold B_s_l1DivLimbs_1
    simp only [hge, cond_true, hg1, ht1, Option.bind_some, ol, decide_true, show decide ((1 : Int) > 0) = true from rfl, hb1, kl, hj0, gout, w5, w7]
end Go.Proofs.Ytohhlnabfcbknaa.Ev
