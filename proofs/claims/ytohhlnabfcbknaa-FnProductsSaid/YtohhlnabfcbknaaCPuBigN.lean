/- Long division: the step of impl. -/
import Derived.Test.YtohhlnabfcbknaaCPuBigM
namespace Go.Proofs.Ytohhlnabfcbknaa.Ev
open Go
set_option linter.unusedVariables false
set_option linter.unusedSimpArgs false
set_option linter.unusedSectionVars false

theorem Place.start {u v : List Int} {j m : Nat} (H : Place u v j m) : val (u.drop j) / val v ≤ (dg u (j + m + 2) * 65536 + dg u (j + m + 1)) / dg v (m + 1) := by
  have G := H.guess
  have hu2 := G.hu2
  have hur := G.hur
  have hP := G.hP
  have hv2 := G.hv2
  have hvr := G.hvr
  have h1 : dg u (j + m) * B m ≤ 65535 * B m := Int.mul_le_mul_of_nonneg_right (by omega) (by omega)
  have h2 : 0 ≤ dg v m * B m := Int.mul_nonneg hv2.1 (by omega)
  exact guess_start (P' := 65536 * B m) (vt := dg v m * B m + val (v.take m)) (ut := dg u (j + m) * B m + val ((u.drop j).take m)) (v := val v) (U := val (u.drop j)) (by omega) G.hv1 (by omega) (by omega) (by rw [G.hV]; grind) (by rw [G.hU]; grind) G.hQ G.hQ0

set_option maxHeartbeats 1000000 in
theorem i_place {u v out : List Int} {by_ : Int} {j m : Nat} (H : Place u v j m) (hl : u.length ≤ 1000000) (hj : j < out.length) :
    ∃ u', B_i_divLimbs_1 u v out ((m + 2 : Nat) : Int) by_ (j : Int) = some (.inl (u', (v, (out.set j (val (u.drop j) / val v), (((m + 2 : Nat) : Int), (by_, (j : Int) - 1)))))) ∧
      u'.length = u.length ∧ LB u' ∧ val u' = val u - B j * (val (u.drop j) / val v * val v) ∧ val (u'.drop j) < val v := by
  have hlen := H.len
  have hvl := H.hv
  have d1 := dg_lb H.lu (j + m + 1)
  have d2 := dg_lb H.lu (j + m + 2)
  have dv := dg_lb H.lv (m + 1)
  have htop := H.top
  have G := H.guess
  have hQ := H.quot
  have hmod := H.mod
  have hst := H.start
  have hk : ∀ l : List Int, l.length = u.length → idxI (IntKind.wrap .i64 ((j : Int) + ((m + 2 : Nat) : Int))) l.length = some (j + m + 2) := fun l h => by
    rw [h, wrapI (by omega) (by omega), show (j : Int) + ((m + 2 : Nat) : Int) = ((j + m + 2 : Nat) : Int) by omega]
    exact idxI_nat (by omega)
  have hk1 : idxI (IntKind.wrap .i64 (IntKind.wrap .i64 ((j : Int) + ((m + 2 : Nat) : Int)) - 1)) u.length = some (j + m + 1) := by
    rw [wrapI (n := (j : Int) + ((m + 2 : Nat) : Int)) (by omega) (by omega), wrapI (by omega) (by omega), show (j : Int) + ((m + 2 : Nat) : Int) - 1 = ((j + m + 1 : Nat) : Int) by omega]
    exact idxI_nat (by omega)
  have hk2 : idxI (IntKind.wrap .i64 (((m + 2 : Nat) : Int) - 1)) v.length = some (m + 1) := by
    rw [wrapI (by omega) (by omega), show ((m + 2 : Nat) : Int) - 1 = ((m + 1 : Nat) : Int) by omega]
    exact idxI_nat (by omega)
  have hj0 : ∀ l : List Int, l.length = out.length → idxI (j : Int) l.length = some j := fun l h => by rw [h]; exact idxI_nat hj
  have hge : decide ((j : Int) ≥ 0) = true := decide_eq_true (by omega)
  have hz : (dg v (m + 1) == 0) = false := beq_eq_false_iff_ne.2 (by omega)
  have w1 := wrapI (n := dg u (j + m + 2) * 65536) (by omega) (by omega)
  have w2 := wrapI (n := dg u (j + m + 2) * 65536 + dg u (j + m + 1)) (by omega) (by omega)
  have htop0 : 0 ≤ dg u (j + m + 2) * 65536 + dg u (j + m + 1) := by omega
  have e1 := Int.emod_add_mul_ediv (dg u (j + m + 2) * 65536 + dg u (j + m + 1)) (dg v (m + 1))
  have e2 := Int.emod_nonneg (dg u (j + m + 2) * 65536 + dg u (j + m + 1)) (show dg v (m + 1) ≠ 0 by omega)
  have e3 : (dg u (j + m + 2) * 65536 + dg u (j + m + 1)) / dg v (m + 1) ≤ dg u (j + m + 2) * 65536 + dg u (j + m + 1) := Int.ediv_le_self _ htop0
  have w3 := wrapI (n := (dg u (j + m + 2) * 65536 + dg u (j + m + 1)) / dg v (m + 1)) (by omega) (by omega)
  obtain ⟨q, hg1, hg2, hg3, hg4⟩ := i_guess (out := out) (by_ := by_) (u := u) (v := v) (j := j) (m := m) G rfl (by omega) (by omega) hvl rfl rfl (by omega) rfl (q0 := (dg u (j + m + 2) * 65536 + dg u (j + m + 1)) / dg v (m + 1)) (r0 := (dg u (j + m + 2) * 65536 + dg u (j + m + 1)) % dg v (m + 1)) (by rw [Int.mul_comm]; omega) e2 hst (by omega)
  obtain ⟨u1, c, ht1, O⟩ := i_take (out := out) (by_ := by_) (n := ((m + 2 : Nat) : Int)) (j := j) H.lu H.lv (q := q) ⟨by omega, hg3⟩ (by rw [hvl]) (by omega) hl
  have ol := O.len
  have oc0 := O.c0
  have oc1 := O.c1
  have ohi : dg u1 (j + m + 2) = dg u (j + m + 2) := O.hi _ (by omega)
  have ov := O.v
  rw [List.take_of_length_le (Nat.le_refl _), hvl, show j + (m + 2) = j + m + 2 by omega] at ov
  have gu1 : getN u1 (j + m + 2) = some (dg u (j + m + 2)) := by unfold getN; rw [get_of_dg (by omega), ohi]
  have w4 := wrapI (n := dg u (j + m + 2) - c) (by omega) (by omega)
  have w5 := wrapI (n := (j : Int) - 1) (by omega) (by omega)
  have hset : val (u1.set (j + m + 2) (dg u (j + m + 2) - c)) = val u - B j * (q * val v) := by
    rw [val_set (get_of_dg (show j + m + 2 < u1.length by omega)), ohi, show dg u (j + m + 2) - c - dg u (j + m + 2) = -c by omega, Int.mul_neg]
    omega
  have hsl : (u1.set (j + m + 2) (dg u (j + m + 2) - c)).length = u.length := by rw [List.length_set]; exact ol
  have hsg : ∀ i, i < j + m + 2 → 0 ≤ dg (u1.set (j + m + 2) (dg u (j + m + 2) - c)) i ∧ dg (u1.set (j + m + 2) (dg u (j + m + 2) - c)) i < 65536 := fun i hi => by rw [dg_set_ne (by omega)]; exact dg_lb O.lb i
  have hsh : ∀ i, j + m + 2 < i → dg (u1.set (j + m + 2) (dg u (j + m + 2) - c)) i = dg u i := fun i hi => by rw [dg_set_ne (by omega)]; exact O.hi i (by omega)
  have hsd : dg (u1.set (j + m + 2) (dg u (j + m + 2) - c)) (j + m + 2) = dg u (j + m + 2) - c := by rw [dg_set (by omega), if_pos rfl]
  have gs : getN (u1.set (j + m + 2) (dg u (j + m + 2) - c)) (j + m + 2) = some (dg u (j + m + 2) - c) := by unfold getN; rw [get_of_dg (by omega), hsd]
  have gout : getN out j = some (dg out j) := get_of_dg hj
  have gu0 : getN u (j + m + 2) = some (dg u (j + m + 2)) := get_of_dg (by omega)
  have gu00 : getN u (j + m + 1) = some (dg u (j + m + 1)) := get_of_dg (by omega)
  have gv0 : getN v (m + 1) = some (dg v (m + 1)) := get_of_dg (by omega)
  rcases H.one hg2 hg4 with hq | hq
  · obtain ⟨f1, f2, f3⟩ := H.done hsl hsg hsh hset (by rw [hq]; exact hmod)
    rw [hsd] at f1
    rw [f1] at hset hsl hsg hsh hsd gs w4 f2 f3
    refine ⟨_, ?_, hsl, f2, by rw [hset, hq], f3⟩
    unfold B_i_divLimbs_1
    rw [hge]
    simp only [cond_true, cond_false, Option.bind_some, hk u rfl, gu0, hk1, gu00, hk2, gv0, hz, w1, w2, Int.tdiv_eq_ediv_of_nonneg htop0, Int.tmod_eq_emod_of_nonneg htop0, w3]
    rw [hg1]
    simp only [Option.bind_some]
    rw [ht1]
    simp only [Option.bind_some, hk u1 ol, gu1, f1, w4, hk _ hsl, gs, show decide ((0 : Int) < 0) = false from rfl, cond_false, hj0 out rfl, gout, w5, hq]
  · obtain ⟨f1, X, f2, f3, f4⟩ := H.after hsl hsg hsh hset
    rw [hsd] at f4
    have hneg : dg u (j + m + 2) - c = -1 := by
      have hlt := H.lt
      have hqv : q * val v = val (u.drop j) / val v * val v + val v := by rw [hq, Int.add_mul, Int.one_mul]
      have := low_eq (j := m + 2) (a := val (u.drop j) - q * val v + B (m + 2)) (b := X) (X := -1) (Y := dg u (j + m + 2) - c) (by omega) (by omega) (by rw [f4, Int.mul_neg, Int.mul_one]; omega)
      exact this.symm
    rw [hneg] at hset hsl hsg hsh hsd gs w4
    obtain ⟨u3, c3, hb1, K⟩ := i_back (out := out) (by_ := by_) (n := ((m + 2 : Nat) : Int)) (q := val (u.drop j) / val v) (u0 := u1.set (j + m + 2) (-1)) (v := v) (j := j) (by rw [hvl]; exact hsg) H.lv (by rw [hvl]) (by omega) (by omega)
    have kl : u3.length = u.length := K.len.trans hsl
    have kc0 := K.c0
    have kc1 := K.c1
    have khi : dg u3 (j + m + 2) = -1 := by rw [K.hi _ (by omega), hsd]
    have kv := K.v
    rw [List.take_of_length_le (Nat.le_refl _), hvl, show j + (m + 2) = j + m + 2 by omega, hset] at kv
    have hset' : val (u3.set (j + m + 2) (-1 + c3)) = val u - B j * (val (u.drop j) / val v * val v) := by
      rw [val_set (get_of_dg (show j + m + 2 < u3.length by omega)), khi, show -1 + c3 - -1 = c3 by omega]
      have : B j * (q * val v) = B j * (val (u.drop j) / val v * val v) + B j * val v := by rw [hq, Int.add_mul, Int.one_mul, Int.mul_add]
      omega
    obtain ⟨f1, f2, f3⟩ := H.done (u4 := u3.set (j + m + 2) (-1 + c3)) (by rw [List.length_set]; exact kl) (fun i hi => by rw [dg_set_ne (by omega)]; exact K.lb i (by omega)) (fun i hi => by rw [dg_set_ne (by omega), K.hi i (by omega)]; exact hsh i hi) hset' hmod
    refine ⟨_, ?_, by rw [List.length_set]; exact kl, f2, hset', f3⟩
    have gu3 : getN u3 (j + m + 2) = some (-1) := by unfold getN; rw [get_of_dg (by omega), khi]
    have w6 := wrapI (n := -1 + c3) (by omega) (by omega)
    have w7 : IntKind.wrap .i64 (q - 1) = val (u.drop j) / val v := by rw [wrapI (by omega) (by omega)]; omega
    unfold B_i_divLimbs_1
    rw [hge]
    simp only [cond_true, cond_false, Option.bind_some, hk u rfl, gu0, hk1, gu00, hk2, gv0, hz, w1, w2, Int.tdiv_eq_ediv_of_nonneg htop0, Int.tmod_eq_emod_of_nonneg htop0, w3]
    rw [hg1]
    simp only [Option.bind_some]
    rw [ht1]
    simp only [Option.bind_some, hk u1 ol, gu1, hneg, w4, hk _ hsl, gs, show decide ((-1 : Int) < 0) = true from rfl, cond_true, w7]
    rw [hb1]
    simp only [Option.bind_some, hk u3 kl, gu3, hj0 out rfl, gout, w5, w6]
end Go.Proofs.Ytohhlnabfcbknaa.Ev
