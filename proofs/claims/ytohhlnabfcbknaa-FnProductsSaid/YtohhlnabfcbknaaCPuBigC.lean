/- Big numbers: differences; sums of numbers with a sign. -/
import Derived.Test.YtohhlnabfcbknaaCPuBigB
namespace Go.Proofs.Ytohhlnabfcbknaa.Ev
open Go
set_option linter.unusedVariables false
set_option linter.unusedSimpArgs false
set_option linter.unusedSectionVars false

/-- What a borrow does to a digit. -/
theorem borrow_step {v : Int} (h : -65536 ≤ v ∧ v < 65536) : 0 ≤ (if v < 0 then v + 65536 else v) ∧ (if v < 0 then v + 65536 else v) < 65536 ∧ (if v < 0 then v + 65536 else v) - 65536 * (if v < 0 then 1 else 0) = v ∧ ((if v < 0 then 1 else 0 : Int) = 0 ∨ (if v < 0 then 1 else 0 : Int) = 1) := by
  split <;> omega

theorem borrow_val {k : Nat} {A Bv out d br br' v x y : Int} (h1 : out - B k * br = A - Bv) (h2 : d - 65536 * br' = v) (h3 : v = x - y - br) : out + B k * d - B (k + 1) * br' = A + B k * x - (Bv + B k * y) := by
  have e1 : B (k + 1) * br' = B k * (65536 * br') := by simp only [B]; rw [Int.mul_comm 65536 (B k), Int.mul_assoc]
  have e2 : B k * d - B k * (65536 * br') = B k * x - B k * y - B k * br := by rw [← Int.mul_sub, h2, h3, Int.mul_sub, Int.mul_sub]
  rw [e1]
  omega

theorem s_l1SubLimbs {a b : List Int} (ha : LB a) (hb : LB b) (hlen : b.length ≤ a.length) (na : a.length ≤ 10000000) (hle : val b ≤ val a) :
    F_s_l1SubLimbs a b = some (lim (val a - val b).toNat) := by
  unfold F_s_l1SubLimbs
  obtain ⟨r, h1, h2⟩ := loop_one (f := fun (s : ((List Int) × ((List Int) × ((List Int) × (Int × (Int × Int)))))) => B_s_l1SubLimbs_0 s.1 s.2.1 s.2.2.1 s.2.2.2.1 s.2.2.2.2.1 s.2.2.2.2.2)
    (I := fun s => ∃ (k : Nat) (out : List Int) (c : Int), s = (out, (a, (b, (c, ((a.length : Int), (k : Int)))))) ∧ out.length = k ∧ k ≤ a.length ∧ LB out ∧ (c = 0 ∨ c = 1) ∧ val out - B k * c = val (a.take k) - val (b.take k))
    (R := fun r => LB r ∧ val r = val a - val b ∧ r.length = a.length) (fun s => a.length + 1 - s.1.length) (by
      rintro s ⟨k, out, c, rfl, h1, h2, h3, h4, h5⟩
      simp only
      by_cases hk : k < a.length
      · have da := dg_lb ha k
        have db := dg_lb hb k
        have hg := List.getElem?_eq_getElem hk
        have hx : a[k] = dg a k := (dg_get hg).symm
        have hv := borrow_step (v := dg a k - dg b k - c) (by omega)
        refine .inl ⟨(out ++ [if dg a k - dg b k - c < 0 then dg a k - dg b k - c + 65536 else dg a k - dg b k - c], (a, (b, ((if dg a k - dg b k - c < 0 then 1 else 0), ((a.length : Int), ((k + 1 : Nat) : Int)))))), ?_, ⟨k + 1, _, _, rfl, by simp [h1], by omega, h3.append (LB.cons (by omega) LB.nil), hv.2.2.2, ?_⟩, by simp; omega⟩
        · unfold B_s_l1SubLimbs_0
          rw [decide_eq_true (by omega), getI_nat, hg]
          simp only [cond_true, Option.bind_some, s_l1Limb, hx]
          rw [wrapI (n := dg a k - dg b k) (by omega) (by omega), wrapI (n := dg a k - dg b k - c) (by omega) (by omega), wrapI (n := dg a k - dg b k - c + 65536) (by omega) (by omega), wrap1 (by omega)]
          by_cases hneg : dg a k - dg b k - c < 0
          · rw [decide_eq_true hneg, if_pos hneg, if_pos hneg]
            simp only [cond_true]
            rw [app1 (by omega)]
            rfl
          · rw [decide_eq_false hneg, if_neg hneg, if_neg hneg]
            simp only [cond_false]
            rw [app1 (by omega)]
            rfl
        · rw [val_snoc, h1, val_take_succ, val_take_succ]
          exact borrow_val h5 hv.2.2.1 rfl
      · have hk' : k = a.length := by omega
        refine .inr ⟨out, ?_, h3, ?_, by omega⟩
        · unfold B_s_l1SubLimbs_0
          rw [decide_eq_false (by omega)]
          rfl
        · rw [List.take_of_length_le (by omega), List.take_of_length_le (by omega)] at h5
          have b1 := val_lt h3
          have b2 := val_nonneg h3
          rw [h1] at b1
          rcases h4 with h4 | h4
          · subst h4; omega
          · subst h4; omega) ([], (a, (b, (0, ((a.length : Int), 0))))) ⟨0, [], 0, rfl, rfl, by omega, LB.nil, .inl rfl, by simp [val, B]⟩
  rw [h1]
  simp only [Option.bind_some]
  rw [s_l1Cut (by unfold Brief; omega)]
  simp only [Option.bind_some]
  rw [strip_lim h2.1, h2.2.1]

theorem i_subLimbs {a b : List Int} (ha : LB a) (hb : LB b) (hlen : b.length ≤ a.length) (na : a.length ≤ 10000000) (hle : val b ≤ val a) :
    F_i_subLimbs a b = some (lim (val a - val b).toNat) := by
  unfold F_i_subLimbs
  rw [clone_int (by unfold Brief; omega)]
  simp only [Option.bind_some]
  obtain ⟨r, h1, h2⟩ := loop_one (f := fun (s : ((List Int) × ((List Int) × (Int × (Int × Int))))) => B_i_subLimbs_0 s.1 s.2.1 s.2.2.1 s.2.2.2.1 s.2.2.2.2)
    (I := fun s => ∃ (k : Nat) (out : List Int) (c : Int), s = (out, (b, (c, ((a.length : Int), (k : Int))))) ∧ out.length = a.length ∧ k ≤ a.length ∧ LB (out.take k) ∧ out.drop k = a.drop k ∧ (c = 0 ∨ c = 1) ∧ val (out.take k) - B k * c = val (a.take k) - val (b.take k))
    (R := fun r => LB r ∧ val r = val a - val b ∧ r.length = a.length) (fun s => (a.length + 1 - s.2.2.2.2).toNat) (by
      rintro s ⟨k, out, c, rfl, h1, h2, h3, h3', h4, h5⟩
      simp only
      by_cases hk : k < a.length
      · have da := dg_lb ha k
        have db := dg_lb hb k
        have hg := List.getElem?_eq_getElem hk
        have hx : a[k] = dg a k := (dg_get hg).symm
        have hko : k < out.length := by omega
        have hox : out[k]? = some (dg a k) := by
          have e1 : out.drop k = out[k] :: out.drop (k + 1) := List.drop_eq_getElem_cons hko
          have e2 : a.drop k = a[k] :: a.drop (k + 1) := List.drop_eq_getElem_cons hk
          rw [List.getElem?_eq_getElem hko]
          rw [e1, e2] at h3'
          rw [(List.cons.inj h3').1, hx]
        have hv := borrow_step (v := dg a k - dg b k - c) (by omega)
        have hset : ∀ y : Int, (out.set k y)[k]? = some y := fun y => by rw [List.getElem?_set_self hko]
        have hdg : dg (out.set k (if dg a k - dg b k - c < 0 then dg a k - dg b k - c + 65536 else dg a k - dg b k - c)) k = (if dg a k - dg b k - c < 0 then dg a k - dg b k - c + 65536 else dg a k - dg b k - c) := dg_get (hset _)
        have htk : (out.set k (if dg a k - dg b k - c < 0 then dg a k - dg b k - c + 65536 else dg a k - dg b k - c)).take k = out.take k := List.take_set_of_le (Nat.le_refl _)
        refine .inl ⟨(out.set k (if dg a k - dg b k - c < 0 then dg a k - dg b k - c + 65536 else dg a k - dg b k - c), (b, ((if dg a k - dg b k - c < 0 then 1 else 0), ((a.length : Int), ((k + 1 : Nat) : Int))))), ?_, ⟨k + 1, _, _, rfl, by simp [h1], by omega, ?_, ?_, hv.2.2.2, ?_⟩, by simp; omega⟩
        · unfold B_i_subLimbs_0 getN
          have i1 : idxI (k : Int) out.length = some k := idxI_nat hko
          have i2 : ∀ y : Int, idxI (k : Int) (out.set k y).length = some k := fun y => by rw [List.length_set]; exact i1
          rw [decide_eq_true (by omega)]
          simp only [cond_true, i1, Option.bind_some, hox, i2, hset, getI_nat]
          have hw1 := wrap1 (show k < 4611686018427387904 by omega)
          rw [wrapI (n := dg a k - c) (by omega) (by omega)]
          have s1 : (bif decide ((k : Int) < ((b.length : Nat) : Int)) then (b[k]?).bind fun x6 => some (Sum.inr (α := (List Int × List Int × Int × Int × Int) ⊕ List Int) ((out.set k (dg a k - c)).set k (IntKind.wrap .i64 (dg a k - c - x6)), (b, ((k : Int), ((a.length : Int), (k : Int)))))) else some (Sum.inr (out.set k (dg a k - c), (b, ((k : Int), ((a.length : Int), (k : Int))))))) = some (Sum.inr (out.set k (dg a k - dg b k - c), (b, ((k : Int), ((a.length : Int), (k : Int)))))) := by
            rcases Nat.lt_or_ge k b.length with hkb | hkb
            · rw [decide_eq_true (by omega), List.getElem?_eq_getElem hkb, ← dg_get (List.getElem?_eq_getElem hkb)]
              simp only [cond_true, Option.bind_some, List.set_set]
              rw [wrapI (by omega) (by omega), show dg a k - c - dg b k = dg a k - dg b k - c by omega]
            · rw [decide_eq_false (by omega), dg_out hkb, show dg a k - 0 - c = dg a k - c by omega]
              rfl
          rw [s1]
          simp only [Option.bind_some, Sum.elim_inr, i2, hset, List.set_set, hw1]
          by_cases hneg : dg a k - dg b k - c < 0
          · rw [decide_eq_true hneg, if_pos hneg, if_pos hneg, wrapI (by omega) (by omega)]
            rfl
          · rw [decide_eq_false hneg, if_neg hneg, if_neg hneg]
            rfl
        · rw [List.take_add_one, htk, hset]
          exact h3.append (LB.cons (by omega) LB.nil)
        · rw [List.drop_set_of_lt (by omega)]
          have : out.drop (k + 1) = (out.drop k).drop 1 := by rw [List.drop_drop]
          rw [this, h3', List.drop_drop]
        · rw [val_take_succ (out.set k _), val_take_succ a, val_take_succ b, htk, hdg]
          exact borrow_val h5 hv.2.2.1 rfl
      · have hk' : k = a.length := by omega
        refine .inr ⟨out, ?_, ?_, ?_, h1⟩
        · unfold B_i_subLimbs_0
          rw [decide_eq_false (by omega)]
          rfl
        · rw [List.take_of_length_le (by omega)] at h3; exact h3
        · rw [List.take_of_length_le (by omega)] at h3 h5
          rw [List.take_of_length_le (by omega), List.take_of_length_le (by omega)] at h5
          have b1 := val_lt h3
          have b2 := val_nonneg h3
          rw [h1, ← hk'] at b1
          rcases h4 with h4 | h4
          · subst h4; omega
          · subst h4; omega) (a, (b, (0, ((a.length : Int), 0)))) ⟨0, a, 0, rfl, rfl, by omega, by rw [List.take_zero]; exact LB.nil, rfl, .inl rfl, by simp [val, B]⟩
  rw [h1]
  simp only [Option.bind_some]
  rw [i_cut (by unfold Brief; omega)]
  simp only [Option.bind_some]
  rw [strip_lim h2.1, h2.2.1]
end Go.Proofs.Ytohhlnabfcbknaa.Ev
