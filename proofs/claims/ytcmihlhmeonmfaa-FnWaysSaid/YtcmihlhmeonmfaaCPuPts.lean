/- Points: what the program's and the reference's words for them give. -/
import Derived.Test.YtcmihlhmeonmfaaCPuCur
namespace Go.Proofs.Ytcmihlhmeonmfaa.Ev
open Go
set_option linter.unusedVariables false
set_option linter.unusedSimpArgs false
set_option linter.unusedSectionVars false

abbrev P2 := Int × Int
def within (a b c : Int) : Bool := decide (b ≤ a) && decide (a ≤ c)
theorem i_within (a b c : Int) : F_i_within a b c = some (within a b c) := by
  unfold F_i_within within
  by_cases h : a ≥ b <;> simp [h]
theorem s_l1In (a b c : Int) : F_s_l1In a b c = some (within a b c) := by
  unfold F_s_l1In within
  by_cases h : a ≥ b <;> simp [h]
theorem within_iff {a b c : Int} : within a b c = true ↔ b ≤ a ∧ a ≤ c := by simp [within]

def goodPt (p : P2) : Bool := within p.1 (-1000) 1000 && within p.2 (-1000) 1000
theorem i_GoodPt (p : P2) : F_i_GoodPt p = some (goodPt p) := by
  unfold F_i_GoodPt goodPt
  simp only [i_within, Option.bind_some]
  cases within p.1 (-1000) 1000 <;> rfl
theorem s_GoodPt (p : P2) : F_s_GoodPt p = some (goodPt p) := by
  unfold F_s_GoodPt goodPt
  simp only [s_l1In, Option.bind_some]
  cases within p.1 (-1000) 1000 <;> rfl
theorem goodPt_iff {p : P2} : goodPt p = true ↔ -1000 ≤ p.1 ∧ p.1 ≤ 1000 ∧ -1000 ≤ p.2 ∧ p.2 ≤ 1000 := by
  simp only [goodPt, Bool.and_eq_true, within_iff]
  omega

theorem lt_dec {k : Nat} {α : Type} {l : List α} {a : α} (h : l[k]? = some a) : decide ((k : Int) < (l.length : Int)) = true := by have := getL h; simpa using this
theorem ge_dec {α : Type} (l : List α) : decide ((l.length : Int) < (l.length : Int)) = false := by simp

theorem i_arePts {l : List P2} (hl : Short l) : F_i_arePts l = some (l.all goodPt) := by
  unfold F_i_arePts F_slices_ContainsFunc_Si_Pt_i_Pt F_slices_IndexFunc_Si_Pt_i_Pt
  unfold Short at hl
  have key := all_loop (body := fun s : List (Int × Int) × Int × Int => B_slices_IndexFunc_Si_Pt_i_Pt_0 s.1 s.2.1 s.2.2) (l := l) (st := fun k => (l, (l.length : Int), (k : Int))) (p := goodPt) (fin := .inl ()) (bad := fun k => .inr (k : Int))
    (fun k a hk hp => by
      have := getL hk
      unfold B_slices_IndexFunc_Si_Pt_i_Pt_0 F_i_arePts_1
      simp only [lt_dec hk, cond_true, getI_nat, hk, Option.bind_some, i_GoodPt, hp, Bool.not_true, cond_false, wrap1 (show k < 4611686018427387904 by omega)])
    (fun k a hk hp => by
      unfold B_slices_IndexFunc_Si_Pt_i_Pt_0 F_i_arePts_1
      simp only [lt_dec hk, cond_true, getI_nat, hk, Option.bind_some, i_GoodPt, hp, Bool.not_false])
    (by unfold B_slices_IndexFunc_Si_Pt_i_Pt_0; simp only [ge_dec, cond_false])
  cases hall : l.all goodPt with
  | true =>
    have h := key.1 hall
    rw [show ((0 : Nat) : Int) = 0 from rfl] at h
    simp only [h, Option.bind_some, Sum.elim_inl]
    rfl
  | false =>
    obtain ⟨k, _, h⟩ := key.2 hall
    rw [show ((0 : Nat) : Int) = 0 from rfl] at h
    simp only [h, Option.bind_some, Sum.elim_inr]
    have : decide ((k : Int) ≥ 0) = true := by simp
    rw [this]; rfl

theorem s_l8Pts {l : List P2} (hl : Short l) : F_s_l8Pts l = some (l.all goodPt) := by
  unfold F_s_l8Pts
  unfold Short at hl
  have key := all_loop (body := fun s : List (Int × Int) × Int × Int => B_s_l8Pts_0 s.1 s.2.1 s.2.2) (l := l) (st := fun k => (l, (l.length : Int), (k : Int))) (p := goodPt) (fin := .inl ()) (bad := fun k => .inr false)
    (fun k a hk hp => by
      have := getL hk
      unfold B_s_l8Pts_0
      simp only [lt_dec hk, cond_true, getI_nat, hk, Option.bind_some, s_GoodPt, hp, Bool.not_true, cond_false, wrap1 (show k < 4611686018427387904 by omega)])
    (fun k a hk hp => by
      unfold B_s_l8Pts_0
      simp only [lt_dec hk, cond_true, getI_nat, hk, Option.bind_some, s_GoodPt, hp, Bool.not_false])
    (by unfold B_s_l8Pts_0; simp only [ge_dec, cond_false])
  cases hall : l.all goodPt with
  | true =>
    have h := key.1 hall
    rw [show ((0 : Nat) : Int) = 0 from rfl] at h
    simp only [h, Option.bind_some, Sum.elim_inl]
  | false =>
    obtain ⟨k, _, h⟩ := key.2 hall
    rw [show ((0 : Nat) : Int) = 0 from rfl] at h
    simp only [h, Option.bind_some, Sum.elim_inr]

def sgn (n : Int) : Int := if n < 0 then -1 else if 0 < n then 1 else 0
theorem i_signOf (n : Int) : F_i_signOf n = some (sgn n) := by
  unfold F_i_signOf sgn
  by_cases h : n < 0
  · simp [h]
  · by_cases h2 : 0 < n <;> simp [h, h2]
theorem s_l8Sign (n : Int) : F_s_l8Sign n = some (sgn n) := by
  unfold F_s_l8Sign sgn
  by_cases h : n < 0
  · have : ¬ 0 < n := by omega
    simp [h, this]
  · by_cases h2 : 0 < n <;> simp [h, h2]
theorem sgn_neg (n : Int) : sgn (-n) = -sgn n := by unfold sgn; split <;> split <;> (try split) <;> (try split) <;> omega
theorem sgn_zero {n : Int} : sgn n = 0 ↔ n = 0 := by unfold sgn; split <;> (try split) <;> omega
theorem sgn_pos {n : Int} : sgn n = 1 ↔ 0 < n := by unfold sgn; split <;> (try split) <;> omega
theorem sgn_negv {n : Int} : sgn n = -1 ↔ n < 0 := by unfold sgn; split <;> (try split) <;> omega
theorem sgn_cases (n : Int) : (sgn n = -1 ∧ n < 0) ∨ (sgn n = 0 ∧ n = 0) ∨ (sgn n = 1 ∧ 0 < n) := by unfold sgn; split <;> (try split) <;> omega

def cross (a b c : P2) : Int := (b.1 - a.1) * (c.2 - a.2) - (b.2 - a.2) * (c.1 - a.1)

theorem mul_bound {x y B C : Int} (hx : -B ≤ x ∧ x ≤ B) (hy : -C ≤ y ∧ y ≤ C) : -(B * C) ≤ x * y ∧ x * y ≤ B * C := by
  have hB : 0 ≤ B := by omega
  have hC : 0 ≤ C := by omega
  constructor
  · by_cases h : 0 ≤ x
    · have h1 := Int.mul_le_mul_of_nonneg_left (show -C ≤ y by omega) h
      have h2 := Int.mul_le_mul_of_nonneg_right (show x ≤ B by omega) hC
      have : x * -C = -(x * C) := Int.mul_neg ..
      omega
    · have h1 := Int.mul_le_mul_of_nonneg_left (show y ≤ C by omega) (show 0 ≤ -x by omega)
      have h2 := Int.mul_le_mul_of_nonneg_right (show -x ≤ B by omega) hC
      have : -x * y = -(x * y) := Int.neg_mul ..
      omega
  · by_cases h : 0 ≤ x
    · have h1 := Int.mul_le_mul_of_nonneg_left (show y ≤ C by omega) h
      have h2 := Int.mul_le_mul_of_nonneg_right (show x ≤ B by omega) hC
      omega
    · have h1 := Int.mul_le_mul_of_nonneg_left (show -C ≤ y by omega) (show 0 ≤ -x by omega)
      have h2 := Int.mul_le_mul_of_nonneg_right (show -x ≤ B by omega) hC
      have e1 : -x * -C = x * C := Int.neg_mul_neg ..
      have e2 : -x * y = -(x * y) := Int.neg_mul ..
      have e3 : -x * C = -(x * C) := Int.neg_mul ..
      omega

theorem cross_w {a b c : P2} (ha : goodPt a = true) (hb : goodPt b = true) (hc : goodPt c = true) :
    IntKind.wrap .i64 (IntKind.wrap .i64 (IntKind.wrap .i64 (b.1 - a.1) * IntKind.wrap .i64 (c.2 - a.2)) - IntKind.wrap .i64 (IntKind.wrap .i64 (b.2 - a.2) * IntKind.wrap .i64 (c.1 - a.1))) = cross a b c ∧ -8000000 ≤ cross a b c ∧ cross a b c ≤ 8000000 := by
  rw [goodPt_iff] at ha hb hc
  have h1 := mul_bound (x := b.1 - a.1) (y := c.2 - a.2) (B := 2000) (C := 2000) (by omega) (by omega)
  have h2 := mul_bound (x := b.2 - a.2) (y := c.1 - a.1) (B := 2000) (C := 2000) (by omega) (by omega)
  rw [wrapI (n := b.1 - a.1) (by omega) (by omega), wrapI (n := c.2 - a.2) (by omega) (by omega), wrapI (n := b.2 - a.2) (by omega) (by omega), wrapI (n := c.1 - a.1) (by omega) (by omega)]
  unfold cross
  rw [wrapI (n := (b.1 - a.1) * (c.2 - a.2)) (by omega) (by omega), wrapI (n := (b.2 - a.2) * (c.1 - a.1)) (by omega) (by omega), wrapI (by omega) (by omega)]
  omega

section
variable {a b c d p : P2} (ha : goodPt a = true) (hb : goodPt b = true) (hc : goodPt c = true) (hd : goodPt d = true) (hp : goodPt p = true)
def orient (a b c : P2) : Int := sgn (cross a b c)
include ha hb hc
theorem i_orient : F_i_orient a b c = some (orient a b c) := by
  unfold F_i_orient
  simp only [(cross_w ha hb hc).1, i_signOf, Option.bind_some]
  rfl
theorem s_l8Cross : F_s_l8Cross a b c = some (cross a b c) := by
  unfold F_s_l8Cross
  rw [(cross_w ha hb hc).1]
theorem s_l8Orient : F_s_l8Orient a b c = some (orient a b c) := by
  unfold F_s_l8Orient
  simp only [s_l8Cross ha hb hc, Option.bind_some, s_l8Sign]
  rfl

def between (a b x : Int) : Bool := decide (min a b ≤ x) && decide (x ≤ max a b)
def onSeg (a b p : P2) : Bool := (cross a b p == 0) && between a.1 b.1 p.1 && between a.2 b.2 p.2
theorem i_isOn : F_i_isOn a b c = some (onSeg a b c) := by
  unfold F_i_isOn
  have hm : ∀ x y : Int, minL [x, y] = min x y := by intro x y; simp only [minL, List.foldl]; split <;> omega
  have hM : ∀ x y : Int, maxL [x, y] = max x y := by intro x y; simp only [maxL, List.foldl]; split <;> omega
  simp only [i_orient ha hb hc, Option.bind_some, i_within, hm, hM]
  unfold onSeg between within
  by_cases h : cross a b c = 0
  · have : (orient a b c == 0) = true := by simp [orient, sgn_zero, h]
    simp only [this, cond_true, h, beq_self_eq_true, Bool.true_and]
    cases (decide (min a.1 b.1 ≤ c.1) && decide (c.1 ≤ max a.1 b.1)) <;> rfl
  · have : (orient a b c == 0) = false := by simp [orient, sgn_zero, h]
    have h2 : (cross a b c == 0) = false := by simp [h]
    simp only [this, cond_false, h2, Bool.false_and]
theorem s_l8Between (x y z : Int) : F_s_l8Between x y z = some (between x y z) := by
  unfold F_s_l8Between between
  by_cases h1 : z ≥ x <;> by_cases h2 : z ≤ y <;> by_cases h3 : z ≥ y <;> by_cases h4 : z ≤ x <;> simp [h1, h2, h3, h4] <;> omega
theorem s_l8On : F_s_l8On a b c = some (onSeg a b c) := by
  unfold F_s_l8On
  simp only [s_l8Cross ha hb hc, Option.bind_some, s_l8Between ha hb hc]
  unfold onSeg
  cases (cross a b c == 0) <;> cases between a.1 b.1 c.1 <;> rfl
end
end Go.Proofs.Ytcmihlhmeonmfaa.Ev
