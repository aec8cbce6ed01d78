/- Long division: what is taken off, what is given back. -/
import Derived.Test.YtohhlnabfcbknaaCPuBigK
import Derived.Test.YtohhlnabfcbknaaCPuKnuth
namespace Go.Proofs.Ytohhlnabfcbknaa.Ev
open Go
set_option linter.unusedVariables false
set_option linter.unusedSimpArgs false
set_option linter.unusedSectionVars false

/-- A digit that goes below nought borrows so much. -/
theorem take_step {x c : Int} (hx : x < 65536) (hlo : -4294967296 ≤ x) (hc : c = if x < 0 then (-x + 65536 - 1) / 65536 else 0) :
    0 ≤ x + c * 65536 ∧ x + c * 65536 < 65536 ∧ 0 ≤ c ∧ c ≤ 65536 := by
  subst hc
  split <;> omega

/-- What is told of a loop that takes q times v off u, from place j on. -/
structure Off (u0 u : List Int) (j k : Nat) (c q : Int) (v : List Int) : Prop where
  len : u.length = u0.length
  lb : LB u
  hi : ∀ i, j + k ≤ i → dg u i = dg u0 i
  c0 : 0 ≤ c
  c1 : c ≤ 65536
  v : val u - B (j + k) * c = val u0 - B j * (q * val (v.take k))

theorem Off.start {u0 : List Int} (h : LB u0) (j : Nat) (q : Int) (v : List Int) : Off u0 u0 j 0 0 q v := ⟨rfl, h, fun _ _ => rfl, by omega, by omega, by simp [val]⟩
theorem Off.next {u0 u : List Int} {j k : Nat} {c q : Int} {v : List Int} (h : Off u0 u j k c q v) (hv : LB v) (hq : 0 ≤ q ∧ q < 65536) (hk : j + k < u.length) {c' : Int} (hc : c' = if dg u (j + k) - q * dg v k - c < 0 then (-(dg u (j + k) - q * dg v k - c) + 65536 - 1) / 65536 else 0) :
    Off u0 (u.set (j + k) (dg u (j + k) - q * dg v k - c + c' * 65536)) j (k + 1) c' q v := by
  have du := dg_lb h.lb (j + k)
  have dv := dg_lb hv k
  have m0 : 0 ≤ q * dg v k := Int.mul_nonneg hq.1 dv.1
  have m1 : q * dg v k ≤ 65535 * 65535 := Int.le_trans (Int.mul_le_mul_of_nonneg_left (show dg v k ≤ 65535 by omega) hq.1) (Int.mul_le_mul_of_nonneg_right (show q ≤ 65535 by omega) (by omega))
  have hc0 := h.c0
  have hc1 := h.c1
  obtain ⟨s1, s2, s3, s4⟩ := take_step (x := dg u (j + k) - q * dg v k - c) (by omega) (by omega) hc
  refine ⟨by rw [List.length_set]; exact h.len, h.lb.set ⟨s1, s2⟩, fun i hi => by rw [dg_set_ne (by omega)]; exact h.hi i (by omega), s3, s4, ?_⟩
  rw [val_set (get_of_dg hk), val_take_succ, show j + (k + 1) = j + k + 1 by omega]
  have hv2 := h.v
  have e1 : B (j + k + 1) * c' = B (j + k) * (c' * 65536) := by simp only [B]; grind
  have e2 : B j * (q * (val (v.take k) + B k * dg v k)) = B j * (q * val (v.take k)) + B (j + k) * (q * dg v k) := by rw [B_add]; grind
  have e3 : B (j + k) * (dg u (j + k) - q * dg v k - c + c' * 65536 - dg u (j + k)) = B (j + k) * (c' * 65536) - B (j + k) * (q * dg v k) - B (j + k) * c := by grind
  rw [e1, e2, e3]
  omega

theorem i_take {u0 v out : List Int} {n by_ q : Int} {j : Nat} (hu : LB u0) (hv : LB v) (hq : 0 ≤ q ∧ q < 65536) (hn : n = (v.length : Int)) (hlen : j + v.length < u0.length) (hl : u0.length ≤ 1000000) :
    ∃ u c, loopM (fun (s : ((List Int) × ((List Int) × ((List Int) × (Int × (Int × (Int × (Int × (Int × (Int × Int)))))))))) => B_i_divLimbs_3 s.1 s.2.1 s.2.2.1 s.2.2.2.1 s.2.2.2.2.1 s.2.2.2.2.2.1 s.2.2.2.2.2.2.1 s.2.2.2.2.2.2.2.1 s.2.2.2.2.2.2.2.2.1 s.2.2.2.2.2.2.2.2.2) (u0, (v, (out, (n, (by_, ((j : Int), (q, (0, (n, 0))))))))) =
      some (u, (v, (out, (n, (by_, ((j : Int), (q, c))))))) ∧ Off u0 u j v.length c q v := by
  subst hn
  obtain ⟨⟨u, c⟩, h1, h2⟩ := up_loop (body := fun (s : ((List Int) × ((List Int) × ((List Int) × (Int × (Int × (Int × (Int × (Int × (Int × Int)))))))))) => B_i_divLimbs_3 s.1 s.2.1 s.2.2.1 s.2.2.2.1 s.2.2.2.2.1 s.2.2.2.2.2.1 s.2.2.2.2.2.2.1 s.2.2.2.2.2.2.2.1 s.2.2.2.2.2.2.2.2.1 s.2.2.2.2.2.2.2.2.2)
    (st := fun k (b : List Int × Int) => (b.1, (v, (out, ((v.length : Int), (by_, ((j : Int), (q, (b.2, ((v.length : Int), (k : Int))))))))))) (fin := fun b => (b.1, (v, (out, ((v.length : Int), (by_, ((j : Int), (q, b.2)))))))) (I := fun k b => Off u0 b.1 j k b.2 q v) (e := v.length)
    (by
      rintro k ⟨u, c⟩ hk hI
      simp only at hI
      have hul := hI.len
      have hp : j + k < u.length := by omega
      have du := dg_lb hI.lb (j + k)
      have dv := dg_lb hv k
      have c0 := hI.c0
      have c1 := hI.c1
      have m0 : 0 ≤ q * dg v k := Int.mul_nonneg hq.1 dv.1
      have m1 : q * dg v k ≤ 65535 * 65535 := Int.le_trans (Int.mul_le_mul_of_nonneg_left (show dg v k ≤ 65535 by omega) hq.1) (Int.mul_le_mul_of_nonneg_right (show q ≤ 65535 by omega) (by omega))
      refine ⟨(u.set (j + k) (dg u (j + k) - q * dg v k - c + (if dg u (j + k) - q * dg v k - c < 0 then (-(dg u (j + k) - q * dg v k - c) + 65536 - 1) / 65536 else 0) * 65536), if dg u (j + k) - q * dg v k - c < 0 then (-(dg u (j + k) - q * dg v k - c) + 65536 - 1) / 65536 else 0), ?_, hI.next hv hq hp rfl⟩
      unfold B_i_divLimbs_3 getN
      dsimp only
      have i1 : idxI ((j : Int) + (k : Int)) u.length = some (j + k) := by rw [show (j : Int) + (k : Int) = ((j + k : Nat) : Int) by omega]; exact idxI_nat hp
      have hw1 := wrap1 (show k < 4611686018427387904 by omega)
      have hjk := wrapI (n := (j : Int) + (k : Int)) (by omega) (by omega)
      rw [decide_eq_true (by omega), hjk]
      simp only [cond_true, i1, idxI_nat hk, Option.bind_some, get_of_dg hp, get_of_dg hk]
      rw [wrapI (n := q * dg v k) (by omega) (by omega), wrapI (n := dg u (j + k) - q * dg v k) (by omega) (by omega), wrapI (n := dg u (j + k) - q * dg v k - c) (by omega) (by omega)]
      have hxb : -4294967296 ≤ dg u (j + k) - q * dg v k - c ∧ dg u (j + k) - q * dg v k - c < 65536 := by omega
      generalize dg u (j + k) - q * dg v k - c = x at *
      by_cases hx : x < 0
      · rw [decide_eq_true hx, if_pos hx, wrapI (n := 0 - x) (by omega) (by omega), wrapI (n := 0 - x + 65536) (by omega) (by omega), wrapI (n := 0 - x + 65536 - 1) (by omega) (by omega), Int.tdiv_eq_ediv_of_nonneg (by omega), show 0 - x + 65536 - 1 = -x + 65536 - 1 by omega]
        rw [wrapI (n := (-x + 65536 - 1) / 65536) (by omega) (by omega), wrapI (n := (-x + 65536 - 1) / 65536 * 65536) (by omega) (by omega), wrapI (n := x + (-x + 65536 - 1) / 65536 * 65536) (by omega) (by omega)]
        simp only [cond_true, Option.bind_some, Sum.elim_inr, hjk, i1, get_of_dg hp, hw1]
      · rw [decide_eq_false hx, if_neg hx]
        simp only [cond_false, Option.bind_some, Sum.elim_inr, hjk, i1, get_of_dg hp, hw1, Int.zero_mul, Int.add_zero])
    (by
      rintro ⟨u, c⟩ _
      unfold B_i_divLimbs_3
      dsimp only
      rw [decide_eq_false (Int.lt_irrefl _)]
      rfl) 0 (u0, 0) (by omega) (Off.start hu j q v)
  exact ⟨u, c, h1, h2⟩

/-- What is told of a loop that gives v back to u, from place j on; only its own limbs are good. -/
structure Back (u0 u : List Int) (j k : Nat) (c : Int) (v : List Int) : Prop where
  len : u.length = u0.length
  lb : ∀ i, i < j + v.length → 0 ≤ dg u i ∧ dg u i < 65536
  hi : ∀ i, j + k ≤ i → dg u i = dg u0 i
  c0 : 0 ≤ c
  c1 : c < 65536
  v : val u + B (j + k) * c = val u0 + B j * val (v.take k)

theorem dg_set {l : List Int} {k j : Nat} {x : Int} (hk : k < l.length) : dg (l.set k x) j = if j = k then x else dg l j := by
  split
  · rename_i h; subst h; exact dg_get (by rw [List.getElem?_set_self hk])
  · rename_i h; exact dg_set_ne (fun hh => h hh.symm)

theorem Back.next {u0 u : List Int} {j k : Nat} {c : Int} {v : List Int} (h : Back u0 u j k c v) (hv : LB v) (hkv : k < v.length) (hk : j + k < u.length) :
    Back u0 (u.set (j + k) ((dg u (j + k) + dg v k + c) % 65536)) j (k + 1) ((dg u (j + k) + dg v k + c) / 65536) v := by
  have du := h.lb (j + k) (by omega)
  have dv := dg_lb hv k
  have c0 := h.c0
  have c1 := h.c1
  refine ⟨by rw [List.length_set]; exact h.len, fun i hi => ?_, fun i hi => by rw [dg_set_ne (by omega)]; exact h.hi i (by omega), by omega, by omega, ?_⟩
  · rw [dg_set hk]
    split
    · omega
    · exact h.lb i hi
  · have := set_step (out := u) (p := j + k) (o := dg u (j + k)) (d := (dg u (j + k) + dg v k + c) % 65536) (c := c) (c' := (dg u (j + k) + dg v k + c) / 65536) (t := dg v k) (V := val u0 + B j * val (v.take k)) (get_of_dg hk) (by omega) h.v
    rw [show j + (k + 1) = j + k + 1 by omega, this, val_take_succ, Int.mul_add]
    have : B (j + k) * dg v k = B j * (B k * dg v k) := by rw [B_add]; grind
    omega

theorem i_back {u0 v out : List Int} {n by_ q : Int} {j : Nat} (hu : ∀ i, i < j + v.length → 0 ≤ dg u0 i ∧ dg u0 i < 65536) (hv : LB v) (hn : n = (v.length : Int)) (hlen : j + v.length < u0.length) (hl : u0.length ≤ 1000000) :
    ∃ u c, loopM (fun (s : ((List Int) × ((List Int) × ((List Int) × (Int × (Int × (Int × (Int × (Int × (Int × Int)))))))))) => B_i_divLimbs_4 s.1 s.2.1 s.2.2.1 s.2.2.2.1 s.2.2.2.2.1 s.2.2.2.2.2.1 s.2.2.2.2.2.2.1 s.2.2.2.2.2.2.2.1 s.2.2.2.2.2.2.2.2.1 s.2.2.2.2.2.2.2.2.2) (u0, (v, (out, (n, (by_, ((j : Int), (q, (0, (n, 0))))))))) =
      some (u, (v, (out, (n, (by_, ((j : Int), (q, c))))))) ∧ Back u0 u j v.length c v := by
  subst hn
  obtain ⟨⟨u, c⟩, h1, h2⟩ := up_loop (body := fun (s : ((List Int) × ((List Int) × ((List Int) × (Int × (Int × (Int × (Int × (Int × (Int × Int)))))))))) => B_i_divLimbs_4 s.1 s.2.1 s.2.2.1 s.2.2.2.1 s.2.2.2.2.1 s.2.2.2.2.2.1 s.2.2.2.2.2.2.1 s.2.2.2.2.2.2.2.1 s.2.2.2.2.2.2.2.2.1 s.2.2.2.2.2.2.2.2.2)
    (st := fun k (b : List Int × Int) => (b.1, (v, (out, ((v.length : Int), (by_, ((j : Int), (q, (b.2, ((v.length : Int), (k : Int))))))))))) (fin := fun b => (b.1, (v, (out, ((v.length : Int), (by_, ((j : Int), (q, b.2)))))))) (I := fun k b => Back u0 b.1 j k b.2 v) (e := v.length)
    (by
      rintro k ⟨u, c⟩ hk hI
      simp only at hI
      have hul := hI.len
      have hp : j + k < u.length := by omega
      have du := hI.lb (j + k) (by omega)
      have dv := dg_lb hv k
      have c0 := hI.c0
      have c1 := hI.c1
      refine ⟨(u.set (j + k) ((dg u (j + k) + dg v k + c) % 65536), (dg u (j + k) + dg v k + c) / 65536), ?_, hI.next hv hk hp⟩
      unfold B_i_divLimbs_4 getN
      dsimp only
      have i1 : idxI ((j : Int) + (k : Int)) u.length = some (j + k) := by rw [show (j : Int) + (k : Int) = ((j + k : Nat) : Int) by omega]; exact idxI_nat hp
      have hw1 := wrap1 (show k < 4611686018427387904 by omega)
      have hjk := wrapI (n := (j : Int) + (k : Int)) (by omega) (by omega)
      rw [decide_eq_true (by omega), hjk]
      simp only [cond_true, i1, idxI_nat hk, Option.bind_some, get_of_dg hp, get_of_dg hk]
      rw [wrapI (n := dg u (j + k) + dg v k) (by omega) (by omega), wrapI (n := c + (dg u (j + k) + dg v k)) (by omega) (by omega), show c + (dg u (j + k) + dg v k) = dg u (j + k) + dg v k + c by omega, Int.tmod_eq_emod_of_nonneg (by omega), Int.tdiv_eq_ediv_of_nonneg (by omega), wrapI (n := (dg u (j + k) + dg v k + c) / 65536) (by omega) (by omega), hw1])
    (by
      rintro ⟨u, c⟩ _
      unfold B_i_divLimbs_4
      dsimp only
      rw [decide_eq_false (Int.lt_irrefl _)]
      rfl) 0 (u0, 0) (by omega) ⟨rfl, hu, fun _ _ => rfl, by simp only; omega, by simp only; omega, by simp [val]⟩
  exact ⟨u, c, h1, h2⟩

/-- What is known of a guess. -/
structure Guess (P v1 v2 vr top u2 ur V U Q : Int) : Prop where
  hP : 0 < P
  hv1 : 1 ≤ v1
  hv1' : v1 < 65536
  hv2 : 0 ≤ v2 ∧ v2 < 65536
  hvr : 0 ≤ vr ∧ vr < P
  hu2 : 0 ≤ u2 ∧ u2 < 65536
  hur : 0 ≤ ur ∧ ur < P
  hV : V = (v1 * 65536 + v2) * P + vr
  hU : U = (top * 65536 + u2) * P + ur
  htop : 0 ≤ top ∧ top < 4294967296
  hQ : Q * V ≤ U
  hQ0 : 0 ≤ Q
  hQ1 : Q < 65536
  hV0 : 0 < V

theorem i_guess {u v out : List Int} {n by_ : Int} {j m : Nat} {P v1 v2 vr top u2 ur V U Q : Int} (G : Guess P v1 v2 vr top u2 ur V U Q) (hn : n = ((m + 2 : Nat) : Int)) (hm : m ≤ 1000000) (hj : j ≤ 1000000)
    (hv : v.length = m + 2) (e1 : dg v (m + 1) = v1) (e2 : dg v m = v2) (hu : j + m < u.length) (e3 : dg u (j + m) = u2) {q0 r0 : Int} (h0 : q0 * v1 + r0 = top) (hr0 : 0 ≤ r0) (hq0 : Q ≤ q0) (hq4 : q0 < 4294967296) :
    ∃ q, loopM (fun (s : ((List Int) × ((List Int) × ((List Int) × (Int × (Int × (Int × (Int × Int)))))))) => B_i_divLimbs_2 s.1 s.2.1 s.2.2.1 s.2.2.2.1 s.2.2.2.2.1 s.2.2.2.2.2.1 s.2.2.2.2.2.2.1 s.2.2.2.2.2.2.2) (u, (v, (out, (n, (by_, ((j : Int), (q0, r0))))))) = some (u, (v, (out, (n, (by_, ((j : Int), q)))))) ∧ Q ≤ q ∧ q < 65536 ∧ q * V < U + V := by
  subst hn
  obtain ⟨r, h1, q, rfl, h2⟩ := loop_one (f := fun (s : ((List Int) × ((List Int) × ((List Int) × (Int × (Int × (Int × (Int × Int)))))))) => B_i_divLimbs_2 s.1 s.2.1 s.2.2.1 s.2.2.2.1 s.2.2.2.2.1 s.2.2.2.2.2.1 s.2.2.2.2.2.2.1 s.2.2.2.2.2.2.2)
    (I := fun s => ∃ q r : Int, s = (u, (v, (out, (((m + 2 : Nat) : Int), (by_, ((j : Int), (q, r))))))) ∧ q * v1 + r = top ∧ 0 ≤ r ∧ Q ≤ q ∧ q < 4294967296)
    (R := fun s => ∃ q : Int, s = (u, (v, (out, (((m + 2 : Nat) : Int), (by_, ((j : Int), q)))))) ∧ Q ≤ q ∧ q < 65536 ∧ q * V < U + V) (fun s => s.2.2.2.2.2.2.1.toNat) (by
      rintro s ⟨q, r, rfl, g1, g2, g3, g4⟩
      simp only
      have hQ0 := G.hQ0
      have hQ1 := G.hQ1
      have hv1 := G.hv1
      have hv1' := G.hv1'
      have hv2 := G.hv2
      have hu2 := G.hu2
      have htop := G.htop
      have hqv : 0 ≤ q * v1 := Int.mul_nonneg (by omega) (by omega)
      have hqv2 : 0 ≤ q * v2 := Int.mul_nonneg (by omega) hv2.1
      have hqv2' : q * v2 ≤ 4294967296 * 65536 := Int.le_trans (Int.mul_le_mul_of_nonneg_left (show v2 ≤ 65536 by omega) (by omega)) (Int.mul_le_mul_of_nonneg_right (show q ≤ 4294967296 by omega) (by omega))
      have iv1 : idxI (((m + 2 : Nat) : Int) - 1) v.length = some (m + 1) := by rw [show ((m + 2 : Nat) : Int) - 1 = ((m + 1 : Nat) : Int) by omega]; exact idxI_nat (by omega)
      have iv2 : idxI (((m + 2 : Nat) : Int) - 2) v.length = some m := by rw [show ((m + 2 : Nat) : Int) - 2 = ((m : Nat) : Int) by omega]; exact idxI_nat (by omega)
      have iu : idxI ((j : Int) + ((m + 2 : Nat) : Int) - 2) u.length = some (j + m) := by rw [show (j : Int) + ((m + 2 : Nat) : Int) - 2 = ((j + m : Nat) : Int) by omega]; exact idxI_nat (by omega)
      have w1 := wrapI (n := ((m + 2 : Nat) : Int) - 1) (by omega) (by omega)
      have w2 := wrapI (n := ((m + 2 : Nat) : Int) - 2) (by omega) (by omega)
      have w3 := wrapI (n := (j : Int) + ((m + 2 : Nat) : Int)) (by omega) (by omega)
      have w4 := wrapI (n := (j : Int) + ((m + 2 : Nat) : Int) - 2) (by omega) (by omega)
      have w5 := wrapI (n := q * v2) (by omega) (by omega)
      have w6 := wrapI (n := r * 65536) (by omega) (by omega)
      have w7 := wrapI (n := r * 65536 + u2) (by omega) (by omega)
      have w8 := wrapI (n := q - 1) (by omega) (by omega)
      have w9 := wrapI (n := r + v1) (by omega) (by omega)
      have less : ∀ (hgo : Q ≤ q - 1), ∃ q' r' : Int, (u, (v, (out, (((m + 2 : Nat) : Int), (by_, ((j : Int), (q - 1, r + v1))))))) = (u, (v, (out, (((m + 2 : Nat) : Int), (by_, ((j : Int), (q', r'))))))) ∧ q' * v1 + r' = top ∧ 0 ≤ r' ∧ Q ≤ q' ∧ q' < 4294967296 := by
        intro hgo
        exact ⟨q - 1, r + v1, rfl, by rw [Int.sub_mul]; omega, by omega, hgo, by omega⟩
      by_cases c1 : q ≥ 65536
      · refine .inl ⟨(u, (v, (out, (((m + 2 : Nat) : Int), (by_, ((j : Int), (q - 1, r + v1))))))), ?_, less (by omega), by simp only; omega⟩
        unfold B_i_divLimbs_2 getN
        rw [decide_eq_true c1]
        simp only [cond_true, Option.bind_some, Sum.elim_inr, w1, iv1, get_of_dg (show m + 1 < v.length by omega), e1, w8, w9]
      · by_cases c2 : r < 65536
        · by_cases c3 : q * v2 > r * 65536 + u2
          · have hlt := guess_more G.hP G.hv1 G.hv2 G.hvr G.hu2 G.hur G.hV G.hU g1 (by omega) c3
            have hne : Q ≤ q - 1 := by
              rcases Int.lt_or_le (q - 1) Q with h | h
              · have : q = Q := by omega
                subst this
                have := G.hQ
                omega
              · exact h
            refine .inl ⟨(u, (v, (out, (((m + 2 : Nat) : Int), (by_, ((j : Int), (q - 1, r + v1))))))), ?_, less hne, by simp only; omega⟩
            unfold B_i_divLimbs_2 getN
            rw [decide_eq_false c1, decide_eq_true c2]
            simp only [cond_true, cond_false, Option.bind_some, w2, iv2, get_of_dg (show m < v.length by omega), e2, w3, w4, iu, get_of_dg hu, e3, w5, w6, w7, decide_eq_true c3, Sum.elim_inr, w1, iv1, get_of_dg (show m + 1 < v.length by omega), e1, w8, w9]
          · refine .inr ⟨_, ?_, q, rfl, g3, by omega, guess_one G.hP G.hv1 G.hv2 G.hvr G.hu2 G.hur G.hV G.hU g1 (by omega) (by omega) (by omega)⟩
            unfold B_i_divLimbs_2 getN
            rw [decide_eq_false c1, decide_eq_true c2]
            simp only [cond_true, cond_false, Option.bind_some, w2, iv2, get_of_dg (show m < v.length by omega), e2, w3, w4, iu, get_of_dg hu, e3, w5, w6, w7, decide_eq_false c3, Sum.elim_inl]
        · have hle := guess_none G.hP G.hv1 G.hv2 G.hvr G.hu2 G.hur G.hV G.hU g1 (by omega) (by omega) (by omega)
          have hV0 := G.hV0
          refine .inr ⟨_, ?_, q, rfl, g3, by omega, by omega⟩
          unfold B_i_divLimbs_2 getN
          rw [decide_eq_false c1, decide_eq_false c2]
          rfl) (u, (v, (out, (((m + 2 : Nat) : Int), (by_, ((j : Int), (q0, r0))))))) ⟨q0, r0, rfl, h0, hr0, hq0, hq4⟩
  exact ⟨q, h1, h2⟩
end Go.Proofs.Ytohhlnabfcbknaa.Ev
