/- Big numbers: sums with a sign, products. -/
import Derived.Test.YtohhlnabfcbknaaCPuBigC
namespace Go.Proofs.Ytohhlnabfcbknaa.Ev
open Go
set_option linter.unusedVariables false
set_option linter.unusedSimpArgs false
set_option linter.unusedSectionVars false

theorem lim_short {n k : Nat} (h : (n : Int) < B k) (hk : k ≤ 1000000) : (lim n).length ≤ 1000000 := Nat.le_trans (lim_len.2 h) hk

theorem i_Big_add {x y : Int} {k : Nat} (hk : k ≤ 1000000) (hx : (x.natAbs : Int) < B k) (hy : (y.natAbs : Int) < B k) : F_i_Big_add (big x) (big y) = some (big (x + y)) := by
  have lx := lim_short hx hk
  have ly := lim_short hy hk
  unfold F_i_Big_add big
  simp only
  by_cases hs : decide (x < 0) = decide (y < 0)
  · rw [hs, beq_self_eq_true]
    obtain ⟨r, e1, e2, e3, e4⟩ := i_addLimbs (lim_lb x.natAbs) (lim_lb y.natAbs) (by omega) (by omega)
    rw [lim_val, lim_val] at e3
    simp only [cond_true, e1, Option.bind_some]
    rw [i_bigOf e2 (by unfold Brief; omega)]
    simp only [Option.bind_some]
    have hv : (val r).toNat = (x + y).natAbs := by
      by_cases h1 : x < 0
      · have : y < 0 := by simpa [h1] using hs
        omega
      · have : ¬ y < 0 := by simpa [h1] using hs
        omega
    rw [hv]
    congr 2
    by_cases h2 : y < 0
    · have h1 : x < 0 := by simpa [h2] using hs
      rw [decide_eq_true h2, decide_eq_true (show x + y < 0 by omega), decide_eq_true (show (x + y).natAbs ≠ 0 by omega)]; rfl
    · have h1 : ¬ x < 0 := by simpa [h2] using hs
      rw [decide_eq_false h2, decide_eq_false (show ¬ x + y < 0 by omega)]; rfl
  · have hb : (decide (x < 0) == decide (y < 0)) = false := by simpa using hs
    rw [hb]
    simp only [cond_false]
    rw [i_compareLimbs (by unfold Brief; omega) (by unfold Brief; omega)]
    simp only [Option.bind_some]
    have hxy : (x < 0 ∧ ¬ y < 0) ∨ (¬ x < 0 ∧ y < 0) := by
      by_cases h1 : x < 0 <;> by_cases h2 : y < 0 <;> simp [h1, h2] at hs ⊢
    rcases Nat.lt_or_ge x.natAbs y.natAbs with hlt | hge
    · rw [cmpZ_lt (by omega), decide_eq_false (by omega)]
      simp only [cond_false]
      have hl : (lim x.natAbs).length ≤ (lim y.natAbs).length := lim_len.2 (by have := lim_len.1 (Nat.le_refl (lim y.natAbs).length); omega)
      rw [i_subLimbs (lim_lb _) (lim_lb _) hl (by omega) (by rw [lim_val, lim_val]; omega)]
      simp only [Option.bind_some, lim_val]
      have e : ((y.natAbs : Int) - (x.natAbs : Int)).toNat = (x + y).natAbs := by omega
      rw [e, i_bigOf (lim_lb _) (by
        have : (lim (x + y).natAbs).length ≤ (lim y.natAbs).length := lim_len.2 (by have := lim_len.1 (Nat.le_refl (lim y.natAbs).length); omega)
        unfold Brief; omega)]
      simp only [Option.bind_some, lim_val, Int.toNat_natCast]
      congr 2
      by_cases h2 : y < 0
      · rw [decide_eq_true h2, decide_eq_true (show x + y < 0 by omega), decide_eq_true (show (x + y).natAbs ≠ 0 by omega)]; rfl
      · rw [decide_eq_false h2, decide_eq_false (show ¬ x + y < 0 by omega)]; rfl
    · have hc : cmpZ (x.natAbs : Int) (y.natAbs : Int) ≥ 0 := by unfold cmpZ; rw [if_neg (by omega)]; split <;> omega
      rw [decide_eq_true hc]
      simp only [cond_true]
      have hl : (lim y.natAbs).length ≤ (lim x.natAbs).length := lim_len.2 (by have := lim_len.1 (Nat.le_refl (lim x.natAbs).length); omega)
      rw [i_subLimbs (lim_lb _) (lim_lb _) hl (by omega) (by rw [lim_val, lim_val]; omega)]
      simp only [Option.bind_some, lim_val]
      have e : ((x.natAbs : Int) - (y.natAbs : Int)).toNat = (x + y).natAbs := by omega
      rw [e, i_bigOf (lim_lb _) (by
        have : (lim (x + y).natAbs).length ≤ (lim x.natAbs).length := lim_len.2 (by have := lim_len.1 (Nat.le_refl (lim x.natAbs).length); omega)
        unfold Brief; omega)]
      simp only [Option.bind_some, lim_val, Int.toNat_natCast]
      congr 2
      by_cases h2 : x < 0
      · rw [decide_eq_true h2]
        by_cases h3 : x + y < 0
        · rw [decide_eq_true h3, decide_eq_true (show (x + y).natAbs ≠ 0 by omega)]; rfl
        · rw [decide_eq_false h3, decide_eq_false (show ¬ (x + y).natAbs ≠ 0 by omega)]; rfl
      · rw [decide_eq_false h2, decide_eq_false (show ¬ x + y < 0 by omega)]; rfl

/-! ### products -/
theorem digit_step {o x y c : Int} (ho : 0 ≤ o ∧ o < 65536) (hx : 0 ≤ x ∧ x < 65536) (hy : 0 ≤ y ∧ y < 65536) (hc : 0 ≤ c ∧ c < 65536) :
    (0 ≤ x * y ∧ x * y ≤ 4294836225) ∧ 0 ≤ (o + x * y + c) / 65536 ∧ (o + x * y + c) / 65536 < 65536 ∧ 0 ≤ (o + x * y + c) % 65536 ∧ (o + x * y + c) % 65536 < 65536 ∧ (o + x * y + c) % 65536 + 65536 * ((o + x * y + c) / 65536) = o + x * y + c := by
  have h1 : 0 ≤ x * y := Int.mul_nonneg hx.1 hy.1
  have h2 : x * y ≤ 65535 * 65535 := Int.le_trans (Int.mul_le_mul_of_nonneg_left (show y ≤ 65535 by omega) hx.1) (Int.mul_le_mul_of_nonneg_right (show x ≤ 65535 by omega) (by omega))
  omega

theorem set_step {out : List Int} {p : Nat} {o d c c' t V : Int} (ho : out[p]? = some o) (hd : d + 65536 * c' = o + t + c) (hV : val out + B p * c = V) : val (out.set p d) + B (p + 1) * c' = V + B p * t := by
  rw [val_set ho]
  have e1 : B (p + 1) * c' = B p * (65536 * c') := by simp only [B]; rw [Int.mul_comm 65536 (B p), Int.mul_assoc]
  have e2 : B p * d + B p * (65536 * c') = B p * o + B p * t + B p * c := by rw [← Int.mul_add, hd, Int.mul_add, Int.mul_add]
  rw [e1, Int.mul_sub]
  omega

theorem get_of_dg {l : List Int} {k : Nat} (h : k < l.length) : l[k]? = some (dg l k) := by rw [List.getElem?_eq_getElem h, dg_get (List.getElem?_eq_getElem h)]
theorem dg_set_ne {l : List Int} {k j : Nat} {x : Int} (h : k ≠ j) : dg (l.set k x) j = dg l j := by
  unfold dg
  rw [List.getD_eq_getElem?_getD, List.getD_eq_getElem?_getD, List.getElem?_set_ne h]

/-- What is told of the inner loop of the products: row i, limb x, of b. -/
structure Row (out0 out : List Int) (i k : Nat) (c x : Int) (b : List Int) : Prop where
  len : out.length = out0.length
  lb : LB out
  hi : ∀ j, i + k ≤ j → dg out j = dg out0 j
  c0 : 0 ≤ c
  c1 : c < 65536
  v : val out + B (i + k) * c = val out0 + B i * (x * val (b.take k))

theorem Row.start {out0 : List Int} (h : LB out0) (i : Nat) (x : Int) (b : List Int) : Row out0 out0 i 0 0 x b := ⟨rfl, h, fun _ _ => rfl, by omega, by omega, by simp [val]⟩
theorem Row.next {out0 out : List Int} {i k : Nat} {c x : Int} {b : List Int} (h : Row out0 out i k c x b) (hb : LB b) (hx : 0 ≤ x ∧ x < 65536) (hk : i + k < out.length) :
    Row out0 (out.set (i + k) ((dg out (i + k) + x * dg b k + c) % 65536)) i (k + 1) ((dg out (i + k) + x * dg b k + c) / 65536) x b := by
  have hs := digit_step (dg_lb h.lb (i + k)) hx (dg_lb hb k) ⟨h.c0, h.c1⟩
  refine ⟨by rw [List.length_set]; exact h.len, h.lb.set ⟨hs.2.2.2.1, hs.2.2.2.2.1⟩, fun j hj => by rw [dg_set_ne (by omega)]; exact h.hi j (by omega), hs.2.1, hs.2.2.1, ?_⟩
  have := set_step (get_of_dg hk) hs.2.2.2.2.2 h.v
  rw [show i + (k + 1) = i + k + 1 by omega, this, val_take_succ, Int.mul_add, Int.mul_add]
  have : B (i + k) * (x * dg b k) = B i * (x * (B k * dg b k)) := by rw [B_add]; grind
  omega

theorem i_mul_row {a0 a1 a2 : Bool × List Int} {out0 : List Int} {i : Nat} {x : Int} (hx : 0 ≤ x ∧ x < 65536) (h0 : LB out0) (hb : LB a1.2) (hlen : i + a1.2.length ≤ out0.length) (ho : out0.length ≤ 10000000) (s7 : List Int) (s8 s9 : Int) :
    ∃ out c, loopM (fun (s : ((Bool × (List Int)) × ((Bool × (List Int)) × ((Bool × (List Int)) × ((List Int) × (Int × (Int × (Int × ((List Int) × (Int × (Int × ((List Int) × (Int × Int))))))))))))) => B_i_Big_mul_1 s.1 s.2.1 s.2.2.1 s.2.2.2.1 s.2.2.2.2.1 s.2.2.2.2.2.1 s.2.2.2.2.2.2.1 s.2.2.2.2.2.2.2.1 s.2.2.2.2.2.2.2.2.1 s.2.2.2.2.2.2.2.2.2.1 s.2.2.2.2.2.2.2.2.2.2.1 s.2.2.2.2.2.2.2.2.2.2.2.1 s.2.2.2.2.2.2.2.2.2.2.2.2) ((a0.1, a0.2), ((a1.1, a1.2), ((a2.1, a2.2), (out0, ((i : Int), (x, ((0 : Int), (s7, (s8, (s9, (a1.2, ((((List.length a1.2) : Nat) : Int), (0 : Int))))))))))))) =
      some ((a0.1, a0.2), ((a1.1, a1.2), ((a2.1, a2.2), (out, ((i : Int), (c, (s7, (s8, s9)))))))) ∧ Row out0 out i a1.2.length c x a1.2 := by
  obtain ⟨⟨out, c⟩, h1, h2⟩ := up_loop (body := fun (s : ((Bool × (List Int)) × ((Bool × (List Int)) × ((Bool × (List Int)) × ((List Int) × (Int × (Int × (Int × ((List Int) × (Int × (Int × ((List Int) × (Int × Int))))))))))))) => B_i_Big_mul_1 s.1 s.2.1 s.2.2.1 s.2.2.2.1 s.2.2.2.2.1 s.2.2.2.2.2.1 s.2.2.2.2.2.2.1 s.2.2.2.2.2.2.2.1 s.2.2.2.2.2.2.2.2.1 s.2.2.2.2.2.2.2.2.2.1 s.2.2.2.2.2.2.2.2.2.2.1 s.2.2.2.2.2.2.2.2.2.2.2.1 s.2.2.2.2.2.2.2.2.2.2.2.2)
    (st := fun k (b : List Int × Int) => ((a0.1, a0.2), ((a1.1, a1.2), ((a2.1, a2.2), (b.1, ((i : Int), (x, (b.2, (s7, (s8, (s9, (a1.2, ((((List.length a1.2) : Nat) : Int), (k : Int))))))))))))))
    (fin := fun b => ((a0.1, a0.2), ((a1.1, a1.2), ((a2.1, a2.2), (b.1, ((i : Int), (b.2, (s7, (s8, s9)))))))))
    (I := fun k b => Row out0 b.1 i k b.2 x a1.2) (e := a1.2.length)
    (by
      rintro k ⟨out, c⟩ hk hI
      simp only at hI
      have hl := hI.len
      have hp : i + k < out.length := by omega
      have hs := digit_step (dg_lb hI.lb (i + k)) hx (dg_lb hb k) ⟨hI.c0, hI.c1⟩
      have dl := dg_lb hI.lb (i + k)
      have c0 := hI.c0
      have c1 := hI.c1
      refine ⟨(_, _), ?_, hI.next hb hx hp⟩
      unfold B_i_Big_mul_1 getN
      dsimp only
      have i1 : idxI ((i : Int) + (k : Int)) out.length = some (i + k) := by rw [show (i : Int) + (k : Int) = ((i + k : Nat) : Int) by omega]; exact idxI_nat hp
      rw [decide_eq_true (by omega), wrapI (n := (i : Int) + (k : Int)) (by omega) (by omega)]
      simp only [cond_true, getI_nat, get_of_dg hk, Option.bind_some, i1, get_of_dg hp]
      rw [wrapI (n := x * dg a1.2 k) (by omega) (by omega), wrapI (n := dg out (i + k) + x * dg a1.2 k) (by omega) (by omega), wrapI (n := c + (dg out (i + k) + x * dg a1.2 k)) (by omega) (by omega), show c + (dg out (i + k) + x * dg a1.2 k) = dg out (i + k) + x * dg a1.2 k + c by omega,
        Int.tmod_eq_emod_of_nonneg (by omega), Int.tdiv_eq_ediv_of_nonneg (by omega), wrapI (n := (dg out (i + k) + x * dg a1.2 k + c) / 65536) (by omega) (by omega), wrap1 (by omega)])
    (by
      rintro ⟨out, c⟩ _
      unfold B_i_Big_mul_1
      dsimp only
      rw [decide_eq_false (by omega)]
      rfl) 0 (out0, 0) (by omega) (Row.start h0 i x _)
  exact ⟨out, c, h1, h2⟩

theorem i_Big_mul {x y : Int} {k : Nat} (hk : k ≤ 100000) (hx : (x.natAbs : Int) < B k) (hy : (y.natAbs : Int) < B k) : ∃ r, F_i_Big_mul (big x) (big y) = some r ∧ (r.2, r.1) = big (x * y) := by
  have lx := Nat.le_trans (lim_len.2 hx) hk
  have ly := Nat.le_trans (lim_len.2 hy) hk
  unfold F_i_Big_mul
  generalize ha : lim x.natAbs = a at lx
  generalize hb' : lim y.natAbs = b at ly
  have la : LB a := ha ▸ lim_lb _
  have lb : LB b := hb' ▸ lim_lb _
  have e1 : (big x).2 = a := ha
  have e2 : (big y).2 = b := hb'
  rw [e1, e2, wrapI (by omega) (by omega), show ((a.length : Nat) : Int) + ((b.length : Nat) : Int) = ((a.length + b.length : Nat) : Int) by omega, lenI_nat (by unfold maxBytes; omega) (by unfold maxBytes; omega)]
  simp only [Option.bind_some]
  obtain ⟨out, h1, h2⟩ := up_loop (body := fun (s : ((Bool × (List Int)) × ((Bool × (List Int)) × ((Bool × (List Int)) × ((List Int) × ((List Int) × (Int × Int))))))) => B_i_Big_mul_0 s.1 s.2.1 s.2.2.1 s.2.2.2.1 s.2.2.2.2.1 s.2.2.2.2.2.1 s.2.2.2.2.2.2)
    (st := fun i (o : List Int) => (((big x).1, a), (((big y).1, b), ((false, ([] : List Int)), (o, (a, (((a.length : Nat) : Int), (i : Int))))))))
    (fin := fun o => (((big x).1, a), (((big y).1, b), ((false, ([] : List Int)), o))))
    (I := fun i o => o.length = a.length + b.length ∧ LB o ∧ (∀ j, i + b.length ≤ j → dg o j = 0) ∧ val o = val (a.take i) * val b) (e := a.length)
    (by
      rintro i o hi ⟨h1, h2, h3, h4⟩
      have hd := dg_lb la i
      obtain ⟨o1, c, q1, q2⟩ := i_mul_row (a0 := ((big x).1, a)) (a1 := ((big y).1, b)) (a2 := (false, [])) hd h2 lb (show i + b.length ≤ o.length by omega) (show o.length ≤ 10000000 by omega) a ((a.length : Nat) : Int) (i : Int)
      simp only at q1 q2
      have hl1 := q2.len
      have hp : i + b.length < o1.length := by omega
      have hz : dg o1 (i + b.length) = 0 := by rw [q2.hi _ (Nat.le_refl _), h3 _ (by omega)]
      have c0 := q2.c0
      have c1 := q2.c1
      refine ⟨o1.set (i + b.length) c, ?_, by rw [List.length_set]; omega, q2.lb.set ⟨c0, c1⟩, fun j hj => ?_, ?_⟩
      · unfold B_i_Big_mul_0 getN
        dsimp only
        rw [decide_eq_true (by omega), getI_nat, get_of_dg hi]
        simp only [cond_true, Option.bind_some]
        rw [q1]
        simp only [Option.bind_some]
        have i1 : idxI ((i : Int) + ((b.length : Nat) : Int)) o1.length = some (i + b.length) := by rw [show (i : Int) + ((b.length : Nat) : Int) = ((i + b.length : Nat) : Int) by omega]; exact idxI_nat hp
        rw [wrapI (n := (i : Int) + ((b.length : Nat) : Int)) (by omega) (by omega), i1]
        simp only [Option.bind_some, get_of_dg hp, hz]
        rw [wrapI (n := 0 + c) (by omega) (by omega), wrap1 (by omega), Int.zero_add]
      · rw [dg_set_ne (by omega), q2.hi j (by omega), h3 j (by omega)]
      · rw [val_set (get_of_dg hp), hz, Int.sub_zero]
        have hv := q2.v
        rw [List.take_length] at hv
        rw [val_take_succ, Int.add_mul, ← h4]
        have : B i * dg a i * val b = B i * (dg a i * val b) := Int.mul_assoc ..
        omega)
    (by
      rintro o _
      unfold B_i_Big_mul_0
      dsimp only
      rw [decide_eq_false (by omega)]
      rfl) 0 (List.replicate (a.length + b.length) 0) (by omega) ⟨by simp, LB.zeros _, fun j _ => by
        unfold dg; rw [List.getD_eq_getElem?_getD, List.getElem?_replicate]; split <;> rfl, by rw [val_zeros]; simp [val]⟩
  rw [show ((0 : Nat) : Int) = 0 from rfl] at h1
  rw [h1]
  obtain ⟨g1, g2, g3, g4⟩ := h2
  rw [List.take_length] at g4
  simp only [Option.bind_some]
  rw [i_bigOf g2 (by unfold Brief; omega)]
  simp only [Option.bind_some]
  refine ⟨_, rfl, ?_⟩
  have hv : (val out).toNat = (x * y).natAbs := by rw [g4, ← ha, ← hb', lim_val, lim_val, Int.natAbs_mul]; omega
  rw [hv]
  unfold big
  congr 1
  by_cases hx0 : x = 0
  · subst hx0; simp
  · by_cases hy0 : y = 0
    · subst hy0; simp
    · have hne : (x * y).natAbs ≠ 0 := by
        rw [Int.natAbs_mul]
        intro h
        rcases Nat.mul_eq_zero.1 h with h | h <;> omega
      rw [decide_eq_true hne]
      by_cases h1 : x < 0
      · by_cases h2 : y < 0
        · have := Int.mul_pos_of_neg_of_neg h1 h2
          rw [decide_eq_true h1, decide_eq_true h2, decide_eq_false (by omega)]; rfl
        · have := Int.mul_neg_of_neg_of_pos h1 (show 0 < y by omega)
          rw [decide_eq_true h1, decide_eq_false h2, decide_eq_true (by omega)]; rfl
      · by_cases h2 : y < 0
        · have := Int.mul_neg_of_pos_of_neg (show 0 < x by omega) h2
          rw [decide_eq_false h1, decide_eq_true h2, decide_eq_true (by omega)]; rfl
        · have := Int.mul_pos (show 0 < x by omega) (show 0 < y by omega)
          rw [decide_eq_false h1, decide_eq_false h2, decide_eq_false (by omega)]; rfl
end Go.Proofs.Ytohhlnabfcbknaa.Ev
