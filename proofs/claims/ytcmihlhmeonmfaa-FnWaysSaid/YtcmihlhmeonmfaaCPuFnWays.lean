/- The law FnWays, with no program in sight. -/
import Derived.Test.YtcmihlhmeonmfaaCPuWind
namespace Go.Proofs.Ytcmihlhmeonmfaa.Ev
open Go
set_option linter.unusedVariables false
set_option linter.unusedSimpArgs false

theorem wnd_anti (p a b : P2) : wnd p b a = - wnd p a b := by
  have ho : orient b a p = - orient a b p := by
    have : cross b a p = - cross a b p := by unfold cross; grind
    unfold orient; rw [this, sgn_neg]
  unfold wnd
  rw [ho]
  by_cases h1 : a.2 ≤ p.2 <;> by_cases h2 : b.2 ≤ p.2 <;> by_cases h3 : orient a b p = 1 <;> by_cases h4 : orient a b p = -1 <;>
    simp [h1, h2, h3, h4, show (p.2 < a.2) ↔ ¬ (a.2 ≤ p.2) from by omega, show (p.2 < b.2) ↔ ¬ (b.2 ≤ p.2) from by omega] <;> omega

def side2 (a b : P2) : Int := a.1 * b.2 - b.1 * a.2
theorem side_anti (a b : P2) : side2 b a = - side2 a b := by unfold side2; omega

def cutA (l : List P2) (i j : Nat) : List P2 := (l.take (j + 1)).drop i
def cutB (l : List P2) (i j : Nat) : List P2 := l.drop j ++ l.take (i + 1)
theorem winding_split (l : List P2) (p : P2) (i j : Nat) (hij : i < j) (hj : j < l.length) : winding (cutA l i j) p + winding (cutB l i j) p = winding l p := ring_split (wnd p) (wnd_anti p) l i j hij hj
theorem area_split (l : List P2) (i j : Nat) (hij : i < j) (hj : j < l.length) : area2 (cutA l i j) + area2 (cutB l i j) = area2 l := ring_split side2 side_anti l i j hij hj
theorem cutA_len {l : List P2} {i j : Nat} (hij : i < j) (hj : j < l.length) : (cutA l i j).length = j + 1 - i := by simp [cutA]; omega
theorem cutB_len {l : List P2} {i j : Nat} (hij : i < j) (hj : j < l.length) : (cutB l i j).length = l.length - j + (i + 1) := by simp [cutB]; omega

/-! ### the draw -/
theorem draw_split {code : List Int} (h : Cur 0 (code, 0, 0)) : ∃ l a b, F_s_DrawSplitWay code = some (l, a, b) ∧ GW l ∧ 0 ≤ a ∧ a ≤ 14 ∧ a + 1 ≤ b ∧ b ≤ 30 := by
  unfold F_s_DrawSplitWay
  obtain ⟨c1, l, e1, q1, g1⟩ := way_ok h (by omega)
  have hlo := g1.lo
  have hhi := g1.hi
  have w : IntKind.wrap .i64 ((l.length : Int) + 1) = (l.length : Int) + 1 := wrapI (by omega) (by omega)
  obtain ⟨c2, v2, e2, q2, a2, b2⟩ := pick_ok q1 (by omega) ((l.length : Int) + 1)
  obtain ⟨c3, v3, e3, q3, a3, b3⟩ := pick_ok q2 (by omega) ((l.length : Int) + 1)
  have b2 := b2 (by omega)
  have b3 := b3 (by omega)
  simp only [e1, Option.bind_some, w, e2, e3]
  rw [wrapI (n := v2 + 1) (by omega) (by omega), wrapI (by omega) (by omega)]
  exact ⟨_, _, _, rfl, g1, a2, by omega, by omega, by omega⟩
theorem draw_on {code : List Int} (h : Cur 0 (code, 0, 0)) : ∃ l d, F_s_DrawOnWay code = some (l, d) ∧ GW l ∧ GP d := by
  unfold F_s_DrawOnWay
  obtain ⟨c1, v1, e1, q1, g1⟩ := way_ok h (by omega)
  obtain ⟨c2, v2, e2, q2, g2⟩ := pt_ok q1 (by omega)
  simp only [e1, e2, Option.bind_some]
  exact ⟨_, _, rfl, g1, g2⟩
theorem draw_sum {code : List Int} (h : Cur 0 (code, 0, 0)) : ∃ l, F_s_DrawWindingSum code = some l ∧ GW l := by
  unfold F_s_DrawWindingSum F_s_DrawAreaTwice
  obtain ⟨c1, v1, e1, q1, g1⟩ := way_ok h (by omega)
  simp only [e1, Option.bind_some]
  exact ⟨_, rfl, g1⟩

/-! ### the cut -/
theorem getM {l : List P2} {k : Nat} (h : k < 2 * l.length) : (l ++ l)[k]? = l[k % l.length]? := by
  by_cases hk : k < l.length
  · rw [List.getElem?_append_left hk, Nat.mod_eq_of_lt hk]
  · rw [List.getElem?_append_right (by omega)]
    congr 1
    rw [Nat.mod_eq_sub_mod (by omega), Nat.mod_eq_of_lt (by omega)]

theorem split_one {l : List P2} (hl : l.length ≤ 1000) {i j n : Nat} (hij : i ≤ j) (hj : j < l.length) (s1 : List P2) :
    loopM (fun (s : ((List (Int × Int)) × ((List (Int × Int)) × ((List (Int × Int)) × (Int × (Int × (Int × Int))))))) => B_i_SplitWay_0 s.1 s.2.1 s.2.2.1 s.2.2.2.1 s.2.2.2.2.1 s.2.2.2.2.2.1 s.2.2.2.2.2.2) (List.nil, (s1, (l, ((i : Int), ((j : Int), ((n : Int), (i : Int))))))) = some (cutA l i j, (s1, (l, ((i : Int), ((j : Int), (n : Int)))))) := by
  obtain ⟨b, h1, h2⟩ := up_loop (body := fun (s : ((List (Int × Int)) × ((List (Int × Int)) × ((List (Int × Int)) × (Int × (Int × (Int × Int))))))) => B_i_SplitWay_0 s.1 s.2.1 s.2.2.1 s.2.2.2.1 s.2.2.2.2.1 s.2.2.2.2.2.1 s.2.2.2.2.2.2)
    (st := fun k (b : List P2) => (b, (s1, (l, ((i : Int), ((j : Int), ((n : Int), (k : Int)))))))) (fin := fun b => (b, (s1, (l, ((i : Int), ((j : Int), (n : Int))))))) (I := fun k b => i ≤ k ∧ b = (l.take k).drop i) (e := j + 1)
    (by
      rintro k b hk ⟨hik, rfl⟩
      have hkl : k < l.length := by omega
      refine ⟨(l.take (k + 1)).drop i, ?_, by omega, rfl⟩
      unfold B_i_SplitWay_0
      have hd : decide ((k : Int) ≤ (j : Int)) = true := decide_eq_true (by omega)
      simp only [hd, cond_true, getI_nat, List.getElem?_eq_getElem hkl, Option.bind_some, wrap1 (show k < 4611686018427387904 by omega)]
      rw [appL_is (by simp [maxBytes]; omega) (by simp [maxBytes]; omega)]
      simp only [Option.bind_some]
      rw [List.take_add_one, List.getElem?_eq_getElem hkl, List.drop_append_of_le_length (by simp; omega)]
      rfl)
    (by
      rintro b ⟨_, rfl⟩
      unfold B_i_SplitWay_0
      have hd : decide (((j + 1 : Nat) : Int) ≤ (j : Int)) = false := decide_eq_false (by omega)
      simp only [hd, cond_false]) i [] (by omega) ⟨Nat.le_refl _, by rw [List.drop_eq_nil_of_le (by simp; omega)]⟩
  rw [h1, h2.2]
  rfl

theorem split_two {l : List P2} (hl : l.length ≤ 1000) {i j : Nat} (hij : i ≤ j) (hj : j < l.length) (s0 : List P2) :
    loopM (fun (s : ((List (Int × Int)) × ((List (Int × Int)) × ((List (Int × Int)) × (Int × (Int × Int)))))) => B_i_SplitWay_1 s.1 s.2.1 s.2.2.1 s.2.2.2.1 s.2.2.2.2.1 s.2.2.2.2.2) (s0, (List.nil, (l, ((i : Int), ((l.length : Int), (j : Int)))))) = some (s0, cutB l i j) := by
  obtain ⟨b, h1, h2⟩ := up_loop (body := fun (s : ((List (Int × Int)) × ((List (Int × Int)) × ((List (Int × Int)) × (Int × (Int × Int)))))) => B_i_SplitWay_1 s.1 s.2.1 s.2.2.1 s.2.2.2.1 s.2.2.2.2.1 s.2.2.2.2.2)
    (st := fun k (b : List P2) => (s0, (b, (l, ((i : Int), ((l.length : Int), (k : Int))))))) (fin := fun b => (s0, b)) (I := fun k b => j ≤ k ∧ b = ((l ++ l).take k).drop j) (e := i + l.length + 1)
    (by
      rintro k b hk ⟨hik, rfl⟩
      have hkl : k < (l ++ l).length := by simp; omega
      refine ⟨((l ++ l).take (k + 1)).drop j, ?_, by omega, rfl⟩
      unfold B_i_SplitWay_1
      rw [wrapI (n := (i : Int) + (l.length : Int)) (by omega) (by omega)]
      have hd : decide ((k : Int) ≤ (i : Int) + (l.length : Int)) = true := decide_eq_true (by omega)
      have h0 : ((l.length : Int) == 0) = false := by simp; intro h2; rw [h2] at hj; simp at hj
      have hm : Int.tmod (k : Int) (l.length : Int) = ((k % l.length : Nat) : Int) := by rw [Int.tmod_eq_emod_of_nonneg (by omega)]; simp
      have hg : l[k % l.length]? = some (l ++ l)[k] := by rw [← getM (by simp at hkl; omega), List.getElem?_eq_getElem hkl]
      simp only [hd, cond_true, h0, cond_false, hm, getI_nat, hg, Option.bind_some, wrap1 (show k < 4611686018427387904 by omega)]
      rw [appL_is (by simp [maxBytes]; omega) (by simp [maxBytes]; omega)]
      simp only [Option.bind_some]
      rw [List.take_add_one, List.getElem?_eq_getElem hkl, List.drop_append_of_le_length (by simp; omega)]
      rfl)
    (by
      rintro b ⟨_, rfl⟩
      unfold B_i_SplitWay_1
      rw [wrapI (n := (i : Int) + (l.length : Int)) (by omega) (by omega)]
      have hd : decide (((i + l.length + 1 : Nat) : Int) ≤ (i : Int) + (l.length : Int)) = false := decide_eq_false (by omega)
      simp only [hd, cond_false]) j [] (by omega) ⟨Nat.le_refl _, by rw [List.drop_eq_nil_of_le (by simp; omega)]⟩
  rw [h1, h2.2]
  have : ((l ++ l).take (i + l.length + 1)).drop j = cutB l i j := by
    have e1 : i + l.length + 1 = l.length + (i + 1) := by omega
    rw [e1, List.take_length_add_append, List.drop_append_of_le_length (by omega)]
    rfl
  rw [this]

/-- Where a way may be cut. -/
def cutOK (l : List P2) (a b : Int) : Bool := isWay l && (decide (0 ≤ a) && decide (a + 2 ≤ b) && decide (b < l.length) && !(a == 0 && b == (l.length : Int) - 1))
def cutRes (l : List P2) (a b : Int) : List P2 × List P2 × Bool := if cutOK l a b = true then (cutA l a.toNat b.toNat, cutB l a.toNat b.toNat, true) else ([], [], false)

theorem i_SplitWay {l : List P2} (hl : Short l) {a b : Int} (ha : -100 ≤ a ∧ a ≤ 100) (hb : -100 ≤ b ∧ b ≤ 100) : F_i_SplitWay l a b = some (cutRes l a b) := by
  unfold F_i_SplitWay cutRes cutOK
  simp only [i_isWay hl, Option.bind_some]
  cases hw : isWay l with
  | false => rfl
  | true =>
    obtain ⟨⟨w0, w1⟩, w2⟩ := isWay_iff.1 hw
    rw [wrapI (n := (l.length : Int) - 1) (by omega) (by omega), wrapI (n := a + 2) (by omega) (by omega)]
    simp only [Bool.not_true, cond_false, i_within, Option.bind_some, Bool.true_and]
    unfold within
    by_cases h1 : 0 ≤ a
    · by_cases h2 : a + 2 ≤ b
      · by_cases h3 : b < (l.length : Int)
        · obtain ⟨i, rfl⟩ : ∃ i : Nat, a = i := ⟨a.toNat, by omega⟩
          obtain ⟨j, rfl⟩ : ∃ j : Nat, b = j := ⟨b.toNat, by omega⟩
          rw [decide_eq_true h1, decide_eq_true (show (i : Int) ≤ (l.length : Int) - 1 by omega), decide_eq_true h2, decide_eq_true (show (j : Int) ≤ (l.length : Int) - 1 by omega), decide_eq_true h3]
          have go : ((loopM (fun (s : ((List (Int × Int)) × ((List (Int × Int)) × ((List (Int × Int)) × (Int × (Int × (Int × Int))))))) => B_i_SplitWay_0 s.1 s.2.1 s.2.2.1 s.2.2.2.1 s.2.2.2.2.1 s.2.2.2.2.2.1 s.2.2.2.2.2.2) (List.nil, (List.nil, (l, ((i : Int), ((j : Int), ((l.length : Int), (i : Int)))))))).bind fun x6 =>
              (loopM (fun (s : ((List (Int × Int)) × ((List (Int × Int)) × ((List (Int × Int)) × (Int × (Int × Int)))))) => B_i_SplitWay_1 s.1 s.2.1 s.2.2.1 s.2.2.2.1 s.2.2.2.2.1 s.2.2.2.2.2) (x6.1, (x6.2.1, (x6.2.2.1, (x6.2.2.2.1, (x6.2.2.2.2.2, x6.2.2.2.2.1)))))).bind fun x7 =>
              some (x7.1, (x7.2, true))) = some (cutA l i j, cutB l i j, true) := by
            rw [split_one (by omega) (by omega) (by omega)]
            simp only [Option.bind_some]
            rw [split_two (by omega) (by omega) (by omega)]
            rfl
          by_cases h4 : (i : Int) = 0
          · have e1 : ((i : Int) == 0) = true := by simpa using h4
            by_cases h5 : (j : Int) = (l.length : Int) - 1
            · have e2 : ((j : Int) == (l.length : Int) - 1) = true := by simpa using h5
              rw [e1, e2]
              rfl
            · have e2 : ((j : Int) == (l.length : Int) - 1) = false := by simpa using h5
              rw [e1, e2]
              simp only [Bool.and_self, Bool.and_false, Bool.not_true, Bool.not_false, cond_true, cond_false, Option.bind_some, Sum.elim_inr, if_true, Int.toNat_natCast]
              exact go
          · have e1 : ((i : Int) == 0) = false := by simpa using h4
            rw [e1]
            simp only [Bool.and_self, Bool.false_and, Bool.not_true, Bool.not_false, cond_true, cond_false, Option.bind_some, Sum.elim_inr, if_true, Int.toNat_natCast]
            exact go
        · rw [decide_eq_false h3, decide_eq_false (show ¬ b ≤ (l.length : Int) - 1 by omega)]
          simp only [Bool.and_false, Bool.false_and, Bool.not_false, cond_true, Option.bind_some]
          cases (decide (0 ≤ a) && decide (a ≤ (l.length : Int) - 1)) <;> rfl
      · rw [decide_eq_false h2]
        simp only [Bool.and_false, Bool.false_and, Bool.not_false, cond_true, Option.bind_some]
        cases (decide (0 ≤ a) && decide (a ≤ (l.length : Int) - 1)) <;> rfl
    · rw [decide_eq_false h1]
      rfl

theorem subI_nat {a b n : Nat} (h1 : a ≤ b) (h2 : b ≤ n) : subI (a : Int) (b : Int) n = some (a, b) := by
  unfold subI
  simp [h1, h2]

theorem s_SplitWay {l : List P2} (hl : Short l) {a b : Int} (ha : -100 ≤ a ∧ a ≤ 100) (hb : -100 ≤ b ∧ b ≤ 100) : F_s_SplitWay l a b = some (cutRes l a b) := by
  unfold F_s_SplitWay cutRes cutOK
  simp only [s_l8Way hl, Option.bind_some]
  cases hw : isWay l with
  | false => rfl
  | true =>
    obtain ⟨⟨w0, w1⟩, w2⟩ := isWay_iff.1 hw
    rw [wrapI (n := (l.length : Int) - 1) (by omega) (by omega), wrapI (n := a + 2) (by omega) (by omega)]
    simp only [Bool.not_true, cond_false, Bool.true_and]
    by_cases h1 : 0 ≤ a
    · by_cases h3 : b < (l.length : Int)
      · by_cases h2 : a + 2 ≤ b
        · obtain ⟨i, rfl⟩ : ∃ i : Nat, a = i := ⟨a.toNat, by omega⟩
          obtain ⟨j, rfl⟩ : ∃ j : Nat, b = j := ⟨b.toNat, by omega⟩
          rw [decide_eq_true h1, decide_eq_false (show ¬ (i : Int) < 0 by omega), decide_eq_false (show ¬ (j : Int) ≥ (l.length : Int) by omega), decide_eq_false (show ¬ (i : Int) > (j : Int) by omega), decide_eq_false (show ¬ (j : Int) < (i : Int) + 2 by omega), decide_eq_true h2, decide_eq_true h3]
          have hr : ∀ n : Nat, n ≤ 1000 → roomI n 16 2 = true := by intro n hn; unfold roomI; rw [decide_eq_true (by unfold maxBytes; omega), decide_eq_true (by unfold maxBytes; omega)]; rfl
          have go : ((subI (i : Int) (Go.IntKind.wrap Go.IntKind.i64 ((j : Int) + (1 : Int))) (List.length l)).bind fun x4 =>
              bif (roomI (List.length (List.drop x4.1 (List.take x4.2 l))) 16 2) then
                ((subI (j : Int) (((List.length l) : Nat) : Int) (List.length l))).bind fun x5 =>
                bif (roomI (List.length (List.drop x5.1 (List.take x5.2 l))) 16 2) then
                  ((subI (0 : Int) (Go.IntKind.wrap Go.IntKind.i64 ((i : Int) + (1 : Int))) (List.length l))).bind fun x6 =>
                  ((appL 16 2 (List.drop x5.1 (List.take x5.2 l)) (List.drop x6.1 (List.take x6.2 l)))).bind fun x7 =>
                  some ((List.drop x4.1 (List.take x4.2 l)), (x7, true))
                else
                none
              else
              none) = some (cutA l i j, cutB l i j, true) := by
            rw [wrap1 (by omega), wrap1 (by omega), subI_nat (by omega) (by omega), subI_nat (by omega) (Nat.le_refl _), show (0 : Int) = ((0 : Nat) : Int) from rfl, subI_nat (by omega) (by omega)]
            simp only [Option.bind_some]
            rw [hr _ (by simp; omega), hr _ (by simp; omega), appL_is (by simp [maxBytes]; omega) (by simp [maxBytes]; omega)]
            simp only [cond_true, Option.bind_some, List.take_length, List.drop_zero]
            rfl
          by_cases h4 : (i : Int) = 0
          · have e1 : ((i : Int) == 0) = true := by simpa using h4
            by_cases h5 : (j : Int) = (l.length : Int) - 1
            · have e2 : ((j : Int) == (l.length : Int) - 1) = true := by simpa using h5
              rw [e1, e2]
              rfl
            · have e2 : ((j : Int) == (l.length : Int) - 1) = false := by simpa using h5
              rw [e1, e2]
              simp only [Bool.and_self, Bool.and_false, Bool.not_true, Bool.not_false, cond_true, cond_false, Option.bind_some, Sum.elim_inr, if_true, Int.toNat_natCast]
              exact go
          · have e1 : ((i : Int) == 0) = false := by simpa using h4
            rw [e1]
            simp only [Bool.and_self, Bool.false_and, Bool.not_true, Bool.not_false, cond_true, cond_false, Option.bind_some, Sum.elim_inr, if_true, Int.toNat_natCast]
            exact go
        · rw [decide_eq_false (show ¬ a < 0 by omega), decide_eq_false (show ¬ b ≥ (l.length : Int) by omega), decide_eq_false h2, decide_eq_true (show b < a + 2 by omega)]
          simp only [Bool.and_false, Bool.false_and, cond_true, cond_false]
          cases decide (a > b) <;> rfl
      · rw [decide_eq_false (show ¬ a < 0 by omega), decide_eq_true (show b ≥ (l.length : Int) by omega), decide_eq_false h3]
        simp only [Bool.and_false, Bool.false_and, cond_true, cond_false]
        rfl
    · rw [decide_eq_false h1, decide_eq_true (show a < 0 by omega)]
      rfl

/-! ### sums over a box -/
def sumY (l : List P2) (x y acc : Int) : Int := if onWay l (x, y) = true then acc else IntKind.wrap .i64 (acc + winding l (x, y))
def sumX (l : List P2) (lo hi : P2) (x acc : Int) : Int := upto (sumY l x) lo.2 (hi.2 + 1 - lo.2).toNat acc
def windSum (l : List P2) : Int × Bool :=
  if isWay l = true then
    (if ((boxR l).2.1 - (boxR l).1.1 + 1) * ((boxR l).2.2 - (boxR l).1.2 + 1) > 400 then (0, false) else (upto (sumX l (boxR l).1 (boxR l).2) (boxR l).1.1 ((boxR l).2.1 + 1 - (boxR l).1.1).toNat 0, true))
  else (0, false)

theorem box_le : ∀ (l : List P2) (b : P2 × P2), b.1.1 ≤ b.2.1 → b.1.2 ≤ b.2.2 → (l.foldl boxStep b).1.1 ≤ (l.foldl boxStep b).2.1 ∧ (l.foldl boxStep b).1.2 ≤ (l.foldl boxStep b).2.2
  | [], b, h1, h2 => ⟨h1, h2⟩
  | q :: l, b, h1, h2 => box_le l (boxStep b q) (by simp only [boxStep]; omega) (by simp only [boxStep]; omega)
theorem boxR_le (l : List P2) : (boxR l).1.1 ≤ (boxR l).2.1 ∧ (boxR l).1.2 ≤ (boxR l).2.2 := by
  cases l with
  | nil => exact ⟨by decide, by decide⟩
  | cons q l => exact box_le _ _ (Int.le_refl _) (Int.le_refl _)

theorem i_sumY {l : List P2} (hg : ∀ q ∈ l, goodPt q = true) (hl : Short l) {lo hi : P2} (h1 : goodPt lo = true) (h2 : goodPt hi = true) (hle : lo.2 ≤ hi.2) {x : Int} (hx : -1000 ≤ x ∧ x ≤ 1000) (acc : Int) :
    loopM (fun (s : ((Int × Int) × ((Int × Int) × ((List (Int × Int)) × (Int × (Int × Int)))))) => B_i_WindingSum_1 s.1 s.2.1 s.2.2.1 s.2.2.2.1 s.2.2.2.2.1 s.2.2.2.2.2) ((lo.1, lo.2), ((hi.1, hi.2), (l, (acc, (x, lo.2))))) = some ((lo.1, lo.2), ((hi.1, hi.2), (l, (sumX l lo hi x acc, x)))) := by
  rw [goodPt_iff] at h1 h2
  exact upto_loop (body := fun (s : ((Int × Int) × ((Int × Int) × ((List (Int × Int)) × (Int × (Int × Int)))))) => B_i_WindingSum_1 s.1 s.2.1 s.2.2.1 s.2.2.2.1 s.2.2.2.2.1 s.2.2.2.2.2)
    (st := fun k (b : Int) => ((lo.1, lo.2), ((hi.1, hi.2), (l, (b, (x, k)))))) (step := sumY l x) (fin := fun b => ((lo.1, lo.2), ((hi.1, hi.2), (l, (b, x))))) (I := fun k _ => lo.2 ≤ k) (e := hi.2)
    (by
      intro k b hk hI
      refine ⟨?_, by omega⟩
      have hp : goodPt (x, k) = true := by rw [goodPt_iff]; simp only; omega
      unfold B_i_WindingSum_1 sumY
      have hd : decide (k ≤ hi.2) = true := decide_eq_true hk
      simp only [hd, cond_true, i_onWay hg hp hl, Option.bind_some, i_turns hg hp hl, wrapI (show -9223372036854775808 ≤ k + 1 by omega) (show k + 1 ≤ 9223372036854775807 by omega)]
      cases onWay l (x, k) <;> rfl)
    (by
      intro b _
      unfold B_i_WindingSum_1
      have hd : decide (hi.2 + 1 ≤ hi.2) = false := decide_eq_false (by omega)
      simp only [hd, cond_false]) lo.2 acc (by omega) (Int.le_refl _)

theorem i_WindingSum {l : List P2} (hl : Short l) : F_i_WindingSum l = some (windSum l) := by
  unfold F_i_WindingSum windSum
  simp only [i_isWay hl, Option.bind_some]
  cases hw : isWay l with
  | false => rfl
  | true =>
    obtain ⟨⟨w0, w1⟩, hg⟩ := isWay_iff.1 hw
    have hb := boxR_good hg
    have hle := boxR_le l
    have hb1 := goodPt_iff.1 hb.1
    have hb2 := goodPt_iff.1 hb.2
    rw [i_boxOf hl (by intro h; rw [h] at w0; simp at w0)]
    simp only [Bool.not_true, cond_false, Option.bind_some, if_true]
    generalize (boxR l).1 = lo at *
    generalize (boxR l).2 = hi at *
    have hm := mul_bound (x := hi.1 - lo.1 + 1) (y := hi.2 - lo.2 + 1) (B := 2001) (C := 2001) (by omega) (by omega)
    rw [wrapI (n := hi.1 - lo.1) (by omega) (by omega), wrapI (n := hi.2 - lo.2) (by omega) (by omega), wrapI (n := hi.1 - lo.1 + 1) (by omega) (by omega), wrapI (n := hi.2 - lo.2 + 1) (by omega) (by omega), wrapI (by omega) (by omega)]
    by_cases h4 : (hi.1 - lo.1 + 1) * (hi.2 - lo.2 + 1) > 400
    · rw [decide_eq_true h4, if_pos h4]; rfl
    · rw [decide_eq_false h4, if_neg h4]
      simp only [cond_false]
      have key := upto_loop (body := fun (s : ((Int × Int) × ((Int × Int) × ((List (Int × Int)) × (Int × Int))))) => B_i_WindingSum_0 s.1 s.2.1 s.2.2.1 s.2.2.2.1 s.2.2.2.2)
        (st := fun k (b : Int) => ((lo.1, lo.2), ((hi.1, hi.2), (l, (b, k))))) (step := sumX l lo hi) (fin := fun b => b) (I := fun k _ => lo.1 ≤ k) (e := hi.1)
        (by
          intro k b hk hI
          refine ⟨?_, by omega⟩
          unfold B_i_WindingSum_0
          have hd : decide (k ≤ hi.1) = true := decide_eq_true hk
          simp only [hd, cond_true]
          rw [i_sumY hg hl hb.1 hb.2 hle.2 (by omega)]
          simp only [Option.bind_some, wrapI (show -9223372036854775808 ≤ k + 1 by omega) (show k + 1 ≤ 9223372036854775807 by omega)])
        (by
          intro b _
          unfold B_i_WindingSum_0
          have hd : decide (hi.1 + 1 ≤ hi.1) = false := decide_eq_false (by omega)
          simp only [hd, cond_false]) lo.1 0 (by omega) (Int.le_refl _)
      rw [key]
      rfl

theorem i_BoxOf {l : List P2} (hl : Short l) : F_i_BoxOf l = some (if isWay l = true then ((boxR l).1, (boxR l).2, true) else ((0, 0), (0, 0), false)) := by
  unfold F_i_BoxOf
  simp only [i_isWay hl, Option.bind_some]
  cases hw : isWay l with
  | false => rfl
  | true =>
    obtain ⟨⟨w0, w1⟩, hg⟩ := isWay_iff.1 hw
    rw [i_boxOf hl (by intro h; rw [h] at w0; simp at w0)]
    rfl

theorem s_sumY {l : List P2} (hg : ∀ q ∈ l, goodPt q = true) (hl : Short l) {lo hi : P2} (h1 : goodPt lo = true) (h2 : goodPt hi = true) (hle : lo.2 ≤ hi.2) {x : Int} (hx : -1000 ≤ x ∧ x ≤ 1000) (acc : Int) :
    loopM (fun (s : ((Int × Int) × ((Int × Int) × ((List (Int × Int)) × (Int × (Int × Int)))))) => B_s_WindingSum_1 s.1 s.2.1 s.2.2.1 s.2.2.2.1 s.2.2.2.2.1 s.2.2.2.2.2) ((lo.1, lo.2), ((hi.1, hi.2), (l, (acc, (x, lo.2))))) = some ((lo.1, lo.2), ((hi.1, hi.2), (l, (sumX l lo hi x acc, x)))) := by
  rw [goodPt_iff] at h1 h2
  exact upto_loop (body := fun (s : ((Int × Int) × ((Int × Int) × ((List (Int × Int)) × (Int × (Int × Int)))))) => B_s_WindingSum_1 s.1 s.2.1 s.2.2.1 s.2.2.2.1 s.2.2.2.2.1 s.2.2.2.2.2)
    (st := fun k (b : Int) => ((lo.1, lo.2), ((hi.1, hi.2), (l, (b, (x, k)))))) (step := sumY l x) (fin := fun b => ((lo.1, lo.2), ((hi.1, hi.2), (l, (b, x))))) (I := fun k _ => lo.2 ≤ k) (e := hi.2)
    (by
      intro k b hk hI
      refine ⟨?_, by omega⟩
      have hp : goodPt (x, k) = true := by rw [goodPt_iff]; simp only; omega
      unfold B_s_WindingSum_1 sumY
      have hd : decide (k ≤ hi.2) = true := decide_eq_true hk
      simp only [hd, cond_true, s_l9On hg hp hl, Option.bind_some, s_l9Winding hg hp hl, wrapI (show -9223372036854775808 ≤ k + 1 by omega) (show k + 1 ≤ 9223372036854775807 by omega)]
      cases onWay l (x, k) <;> rfl)
    (by
      intro b _
      unfold B_s_WindingSum_1
      have hd : decide (hi.2 + 1 ≤ hi.2) = false := decide_eq_false (by omega)
      simp only [hd, cond_false]) lo.2 acc (by omega) (Int.le_refl _)

theorem s_WindingSum {l : List P2} (hl : Short l) : F_s_WindingSum l = some (windSum l) := by
  unfold F_s_WindingSum windSum
  simp only [s_l8Way hl, Option.bind_some]
  cases hw : isWay l with
  | false => rfl
  | true =>
    obtain ⟨⟨w0, w1⟩, hg⟩ := isWay_iff.1 hw
    have hb := boxR_good hg
    have hle := boxR_le l
    have hb1 := goodPt_iff.1 hb.1
    have hb2 := goodPt_iff.1 hb.2
    rw [s_l9Box hl (by intro h; rw [h] at w0; simp at w0)]
    simp only [Bool.not_true, cond_false, Option.bind_some, if_true]
    generalize (boxR l).1 = lo at *
    generalize (boxR l).2 = hi at *
    have hm := mul_bound (x := hi.1 - lo.1 + 1) (y := hi.2 - lo.2 + 1) (B := 2001) (C := 2001) (by omega) (by omega)
    rw [wrapI (n := hi.1 - lo.1) (by omega) (by omega), wrapI (n := hi.2 - lo.2) (by omega) (by omega), wrapI (n := hi.1 - lo.1 + 1) (by omega) (by omega), wrapI (n := hi.2 - lo.2 + 1) (by omega) (by omega), wrapI (by omega) (by omega)]
    by_cases h4 : (hi.1 - lo.1 + 1) * (hi.2 - lo.2 + 1) > 400
    · rw [decide_eq_true h4, if_pos h4]; rfl
    · rw [decide_eq_false h4, if_neg h4]
      simp only [cond_false]
      have key := upto_loop (body := fun (s : ((Int × Int) × ((Int × Int) × ((List (Int × Int)) × (Int × Int))))) => B_s_WindingSum_0 s.1 s.2.1 s.2.2.1 s.2.2.2.1 s.2.2.2.2)
        (st := fun k (b : Int) => ((lo.1, lo.2), ((hi.1, hi.2), (l, (b, k))))) (step := sumX l lo hi) (fin := fun b => b) (I := fun k _ => lo.1 ≤ k) (e := hi.1)
        (by
          intro k b hk hI
          refine ⟨?_, by omega⟩
          unfold B_s_WindingSum_0
          have hd : decide (k ≤ hi.1) = true := decide_eq_true hk
          simp only [hd, cond_true]
          rw [s_sumY hg hl hb.1 hb.2 hle.2 (by omega)]
          simp only [Option.bind_some, wrapI (show -9223372036854775808 ≤ k + 1 by omega) (show k + 1 ≤ 9223372036854775807 by omega)])
        (by
          intro b _
          unfold B_s_WindingSum_0
          have hd : decide (hi.1 + 1 ≤ hi.1) = false := decide_eq_false (by omega)
          simp only [hd, cond_false]) lo.1 0 (by omega) (Int.le_refl _)
      rw [key]
      rfl

theorem s_BoxOf {l : List P2} (hl : Short l) : F_s_BoxOf l = some (if isWay l = true then ((boxR l).1, (boxR l).2, true) else ((0, 0), (0, 0), false)) := by
  unfold F_s_BoxOf
  simp only [s_l8Way hl, Option.bind_some]
  cases hw : isWay l with
  | false => rfl
  | true =>
    obtain ⟨⟨w0, w1⟩, hg⟩ := isWay_iff.1 hw
    rw [s_l9Box hl (by intro h; rw [h] at w0; simp at w0)]
    rfl

/-! ### the law -/
theorem pureFnWays {a b : List Int} (ha : ∀ x ∈ a, 0 ≤ x ∧ x ≤ 255) (hb : ∀ x ∈ b, 0 ≤ x ∧ x ≤ 255) (la : a.length ≤ 1000000000000000) (lb : b.length ≤ 1000000000000000) : F_l_FnWays a b = some true := by
  unfold F_l_FnWays
  rw [wrapI (by omega) (by omega)]
  by_cases hl : (a.length : Int) + (b.length : Int) > 1048576
  · rw [decide_eq_true hl]; rfl
  · rw [decide_eq_false hl]
    have ca : Cur 0 (a, 0, 0) := .start ha (by omega)
    have cb : Cur 0 (b, 0, 0) := .start hb (by omega)
    obtain ⟨l, i, j, e1, hw, hi0, hi1, hj0, hj1⟩ := draw_split ca
    obtain ⟨l2, ⟨d1, d2⟩, e2, hw2, hd⟩ := draw_on cb
    obtain ⟨l3, e3, hw3⟩ := draw_sum cb
    have s1 : Short l := by have := hw.hi; unfold Short; omega
    have s3 : Short l3 := by have := hw3.hi; unfold Short; omega
    simp only [cond_false, e1, Option.bind_some, i_SplitWay s1 (show -100 ≤ i ∧ i ≤ 100 by omega) (show -100 ≤ j ∧ j ≤ 100 by omega), s_SplitWay s1 (show -100 ≤ i ∧ i ≤ 100 by omega) (show -100 ≤ j ∧ j ≤ 100 by omega), beq_self_eq_true, Bool.not_true]
    have hlenA : Short (cutRes l i j).1 := by
      unfold cutRes cutA Short
      unfold Short at s1
      split
      · simp; omega
      · simp
    have hlenB : Short (cutRes l i j).2.1 := by
      have := hw.hi
      unfold cutRes cutB Short
      split
      · simp; omega
      · simp
    rw [l_samePts hlenA]
    simp only [Option.bind_some, Bool.not_true, cond_false]
    rw [l_samePts hlenB]
    simp only [Option.bind_some, Bool.not_true, cond_false]
    refine bind_inr (v := b) ?_ ?_
    · unfold cutRes at hlenA hlenB ⊢
      cases hc : cutOK l i j with
      | false => rfl
      | true =>
        rw [hc] at hlenA hlenB
        simp only [if_true] at hlenA hlenB ⊢
        unfold cutOK at hc
        simp only [Bool.and_eq_true, decide_eq_true_eq, Bool.not_eq_true'] at hc
        obtain ⟨hway, ⟨⟨h1, h2⟩, h3⟩, h4⟩ := hc
        obtain ⟨p, rfl⟩ : ∃ p : Nat, i = p := ⟨i.toNat, by omega⟩
        obtain ⟨q, rfl⟩ : ∃ q : Nat, j = q := ⟨j.toNat, by omega⟩
        simp only [Int.toNat_natCast] at *
        obtain ⟨⟨w0, w1⟩, hg⟩ := isWay_iff.1 hway
        have hpq : p < q := by omega
        have hq : q < l.length := by omega
        have h5 : ¬ (p = 0 ∧ q = l.length - 1) := by
          rintro ⟨h6, h7⟩
          subst h6
          have : ((q : Int) == (l.length : Int) - 1) = true := by simp; omega
          rw [this] at h4
          simp at h4
        have wA : isWay (cutA l p q) = true := isWay_iff.2 ⟨by rw [cutA_len hpq hq]; omega, fun r hr => hg r (List.mem_of_mem_take (List.mem_of_mem_drop hr))⟩
        have wB : isWay (cutB l p q) = true := isWay_iff.2 ⟨by rw [cutB_len hpq hq]; omega, fun r hr => by
          rcases List.mem_append.1 hr with hr | hr
          · exact hg r (List.mem_of_mem_drop hr)
          · exact hg r (List.mem_of_mem_take hr)⟩
        have sw := winding_split l (d1, d2) p q hpq hq
        have sa := area_split l p q hpq hq
        have bw : ∀ m : List P2, Short m → -1099511627776 ≤ winding m (d1, d2) ∧ winding m (d1, d2) ≤ 1099511627776 := fun m hm => by
          have := (winding_take (p := (d1, d2)) hm (ring m).length).1
          rwa [List.take_length] at this
        have ba : ∀ m : List P2, isWay m = true → -2000000000 ≤ area2 m ∧ area2 m ≤ 2000000000 := fun m hm => by
          obtain ⟨⟨_, x1⟩, x2⟩ := isWay_iff.1 hm
          exact (i_areaTwice x2 (by omega)).2
        simp only [cond_true, e2, Option.bind_some, i_WindingAt hlenA, i_WindingAt hlenB, i_WindingAt s1]
        refine bind_inr (v := (l, cutA l p q, cutB l p q, l2, b)) ?_ ?_
        · cases c1 : (isWay (cutA l p q) && goodPt (d1, d2) && !onWay (cutA l p q) (d1, d2)) with
          | false => rfl
          | true => cases c2 : (isWay (cutB l p q) && goodPt (d1, d2) && !onWay (cutB l p q) (d1, d2)) with
            | false => rfl
            | true => cases c3 : (isWay l && goodPt (d1, d2) && !onWay l (d1, d2)) with
              | false => rfl
              | true =>
                have b1 := bw _ hlenA
                have b2 := bw _ hlenB
                simp only [if_true, cond_true]
                rw [wrapI (by omega) (by omega), sw, bne_self_eq_false]
                rfl
        · have b1 := ba _ wA
          have b2 := ba _ wB
          have hl2 := hw2.hi
          simp only [i_AreaTwice hlenA, i_AreaTwice hlenB, i_AreaTwice s1, Option.bind_some, wA, wB, hway, if_true, Bool.not_true, cond_false]
          rw [wrapI (by omega) (by omega), sa, bne_self_eq_false, decide_eq_false (show ¬ (l2.length : Int) > 100 by omega)]
          rfl
    · simp only [e3, Option.bind_some, i_WindingSum s3, s_WindingSum s3, i_BoxOf s3, s_BoxOf s3, beq_self_eq_true, cond_true, Bool.and_self]
end Go.Proofs.Ytcmihlhmeonmfaa.Ev
