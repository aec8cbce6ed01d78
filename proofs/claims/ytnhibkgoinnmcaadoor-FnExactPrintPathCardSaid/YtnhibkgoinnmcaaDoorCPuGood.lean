/- Points, ways, lists of ways: when they are good. -/
import Derived.Test.YtnhibkgoinnmcaaDoorCPuCopy
import Derived.Test.YtnhibkgoinnmcaaDoorCLawFnExactPrintPath
namespace Go.Proofs.YtnhibkgoinnmcaaDoor.Ev
open Go
set_option linter.unusedVariables false
set_option linter.unusedSimpArgs false
set_option linter.unusedSectionVars false

abbrev P2 := Int × Int
def within (a b c : Int) : Bool := decide (b ≤ a) && decide (a ≤ c)
theorem i_within (a b c : Int) : F_i_within a b c = some (within a b c) := by
  unfold F_i_within within
  by_cases h : a ≥ b <;> simp [h]
theorem s_l1In (a b c : Int) : F_s_l1In a b c = some (within a b c) := by
  unfold F_s_l1In within
  by_cases h : a ≥ b <;> simp [h]
theorem within_iff {a b c : Int} : within a b c = true ↔ b ≤ a ∧ a ≤ c := by simp [within]

def goodPt (p : P2) : Bool := within p.1 (-1000) 1000 && within p.2 (-1000) 1000
theorem i_GoodPt (p : P2) : F_i_GoodPt p = some (goodPt p) := by
  unfold F_i_GoodPt goodPt
  simp only [i_within, Option.bind_some]
  cases within p.1 (-1000) 1000 <;> rfl
theorem s_GoodPt (p : P2) : F_s_GoodPt p = some (goodPt p) := by
  unfold F_s_GoodPt goodPt
  simp only [s_l1In, Option.bind_some]
  cases within p.1 (-1000) 1000 <;> rfl
theorem goodPt_iff {p : P2} : goodPt p = true ↔ -1000 ≤ p.1 ∧ p.1 ≤ 1000 ∧ -1000 ≤ p.2 ∧ p.2 ≤ 1000 := by
  simp only [goodPt, Bool.and_eq_true, within_iff]
  omega

theorem lt_dec {k : Nat} {α : Type} {l : List α} {a : α} (h : l[k]? = some a) : decide ((k : Int) < (l.length : Int)) = true := by have := getL h; simpa using this
theorem ge_dec {α : Type} (l : List α) : decide ((l.length : Int) < (l.length : Int)) = false := by simp

theorem i_arePts {l : List P2} (hl : Short l) : F_i_arePts l = some (l.all goodPt) := by
  unfold F_i_arePts F_slices_ContainsFunc_Si_Pt_i_Pt F_slices_IndexFunc_Si_Pt_i_Pt
  unfold Short at hl
  have key := all_loop (body := fun s : List (Int × Int) × Int × Int => B_slices_IndexFunc_Si_Pt_i_Pt_0 s.1 s.2.1 s.2.2) (l := l) (st := fun k => (l, (l.length : Int), (k : Int))) (p := goodPt) (fin := .inl ()) (bad := fun k => .inr (k : Int))
    (fun k a hk hp => by
      have := getL hk
      unfold B_slices_IndexFunc_Si_Pt_i_Pt_0 F_i_arePts_1
      simp only [lt_dec hk, cond_true, getI_nat, hk, Option.bind_some, i_GoodPt, hp, Bool.not_true, cond_false, wrap1 (show k < 4611686018427387904 by omega)])
    (fun k a hk hp => by
      unfold B_slices_IndexFunc_Si_Pt_i_Pt_0 F_i_arePts_1
      simp only [lt_dec hk, cond_true, getI_nat, hk, Option.bind_some, i_GoodPt, hp, Bool.not_false])
    (by unfold B_slices_IndexFunc_Si_Pt_i_Pt_0; simp only [ge_dec, cond_false])
  cases hall : l.all goodPt with
  | true =>
    have h := key.1 hall
    rw [show ((0 : Nat) : Int) = 0 from rfl] at h
    simp only [h, Option.bind_some, Sum.elim_inl]
    rfl
  | false =>
    obtain ⟨k, _, h⟩ := key.2 hall
    rw [show ((0 : Nat) : Int) = 0 from rfl] at h
    simp only [h, Option.bind_some, Sum.elim_inr]
    have : decide ((k : Int) ≥ 0) = true := by simp
    rw [this]; rfl

theorem s_l8Pts {l : List P2} (hl : Short l) : F_s_l8Pts l = some (l.all goodPt) := by
  unfold F_s_l8Pts
  unfold Short at hl
  have key := all_loop (body := fun s : List (Int × Int) × Int × Int => B_s_l8Pts_0 s.1 s.2.1 s.2.2) (l := l) (st := fun k => (l, (l.length : Int), (k : Int))) (p := goodPt) (fin := .inl ()) (bad := fun k => .inr false)
    (fun k a hk hp => by
      have := getL hk
      unfold B_s_l8Pts_0
      simp only [lt_dec hk, cond_true, getI_nat, hk, Option.bind_some, s_GoodPt, hp, Bool.not_true, cond_false, wrap1 (show k < 4611686018427387904 by omega)])
    (fun k a hk hp => by
      unfold B_s_l8Pts_0
      simp only [lt_dec hk, cond_true, getI_nat, hk, Option.bind_some, s_GoodPt, hp, Bool.not_false])
    (by unfold B_s_l8Pts_0; simp only [ge_dec, cond_false])
  cases hall : l.all goodPt with
  | true =>
    have h := key.1 hall
    rw [show ((0 : Nat) : Int) = 0 from rfl] at h
    simp only [h, Option.bind_some, Sum.elim_inl]
  | false =>
    obtain ⟨k, _, h⟩ := key.2 hall
    rw [show ((0 : Nat) : Int) = 0 from rfl] at h
    simp only [h, Option.bind_some, Sum.elim_inr]

def isWay (l : List P2) : Bool := (decide (3 ≤ l.length) && decide (l.length ≤ 12)) && l.all goodPt
theorem isWay_iff {l : List P2} : isWay l = true ↔ (3 ≤ l.length ∧ l.length ≤ 12) ∧ ∀ p ∈ l, goodPt p = true := by
  simp [isWay, List.all_eq_true, and_assoc]
theorem within_len (l : List P2) : within (l.length : Int) 3 12 = (decide (3 ≤ l.length) && decide (l.length ≤ 12)) := by
  unfold within
  congr 1 <;> rw [decide_eq_decide] <;> omega
theorem i_isWay {l : List P2} (h : Short l) : F_i_isWay l = some (isWay l) := by
  unfold F_i_isWay isWay
  simp only [i_within, Option.bind_some, i_arePts h, within_len]
  cases (decide (3 ≤ l.length) && decide (l.length ≤ 12)) <;> rfl
theorem s_l8Way {l : List P2} (h : Short l) : F_s_l8Way l = some (isWay l) := by
  unfold F_s_l8Way isWay
  simp only [s_l1In, Option.bind_some, s_l8Pts h, within_len]
  cases (decide (3 ≤ l.length) && decide (l.length ≤ 12)) <;> rfl

abbrev Ways := List (List (Int × Int))
def goodWays (l : Ways) : Bool := l.all isWay && (decide (1 ≤ l.length) && decide (l.length ≤ 4))
theorem wlen (n : Nat) : within (n : Int) 1 4 = (decide (1 ≤ n) && decide (n ≤ 4)) := by
  unfold within
  congr 1 <;> (apply decide_eq_decide.2; omega)
theorem s_GoodWays {l : Ways} (hl : Short l) (hs : ∀ w ∈ l, Short w) : F_s_GoodWays l = some (goodWays l) := by
  unfold F_s_GoodWays goodWays
  have hl' := hl
  unfold Short at hl'
  have key := all_loop (body := fun s : Ways × Ways × Int × Int => B_s_GoodWays_0 s.1 s.2.1 s.2.2.1 s.2.2.2) (l := l) (st := fun k => (l, l, (l.length : Int), (k : Int))) (p := isWay) (fin := .inl l) (bad := fun k => .inr false)
    (fun k a hk hp => by
      have := getL hk
      unfold B_s_GoodWays_0
      simp only [lt_dec hk, cond_true, getI_nat, hk, Option.bind_some, s_l8Way (hs a (List.mem_of_getElem? hk)), hp, Bool.not_true, cond_false, wrap1 (show k < 4611686018427387904 by omega)])
    (fun k a hk hp => by
      unfold B_s_GoodWays_0
      simp only [lt_dec hk, cond_true, getI_nat, hk, Option.bind_some, s_l8Way (hs a (List.mem_of_getElem? hk)), hp, Bool.not_false])
    (by unfold B_s_GoodWays_0; simp only [ge_dec, cond_false])
  cases hall : l.all isWay with
  | true =>
    have h := key.1 hall
    rw [show ((0 : Nat) : Int) = 0 from rfl] at h
    simp only [h, Option.bind_some, Sum.elim_inl, s_l1In, wlen, Bool.true_and]
  | false =>
    obtain ⟨k, _, h⟩ := key.2 hall
    rw [show ((0 : Nat) : Int) = 0 from rfl] at h
    simp only [h, Option.bind_some, Sum.elim_inr, Bool.false_and]
theorem i_GoodWays {l : Ways} (hl : Short l) (hs : ∀ w ∈ l, Short w) : F_i_GoodWays l = some (goodWays l) := by
  unfold F_i_GoodWays goodWays F_slices_ContainsFunc_SSi_Pt_Si_Pt F_slices_IndexFunc_SSi_Pt_Si_Pt
  have hl' := hl
  unfold Short at hl'
  have key := all_loop (body := fun s : Ways × Int × Int => B_slices_IndexFunc_SSi_Pt_Si_Pt_0 s.1 s.2.1 s.2.2) (l := l) (st := fun k => (l, (l.length : Int), (k : Int))) (p := isWay) (fin := .inl ()) (bad := fun k => .inr (k : Int))
    (fun k a hk hp => by
      have := getL hk
      unfold B_slices_IndexFunc_SSi_Pt_Si_Pt_0 F_i_GoodWays_1
      simp only [lt_dec hk, cond_true, getI_nat, hk, Option.bind_some, i_isWay (hs a (List.mem_of_getElem? hk)), hp, Bool.not_true, cond_false, wrap1 (show k < 4611686018427387904 by omega)])
    (fun k a hk hp => by
      unfold B_slices_IndexFunc_SSi_Pt_Si_Pt_0 F_i_GoodWays_1
      simp only [lt_dec hk, cond_true, getI_nat, hk, Option.bind_some, i_isWay (hs a (List.mem_of_getElem? hk)), hp, Bool.not_false])
    (by unfold B_slices_IndexFunc_SSi_Pt_Si_Pt_0; simp only [ge_dec, cond_false])
  rw [i_within, obs, wlen]
  cases hw : (decide (1 ≤ l.length) && decide (l.length ≤ 4)) with
  | false => rw [cF, Bool.and_false]
  | true =>
    rw [cT, Bool.and_true]
    cases hall : l.all isWay with
    | true =>
      have h := key.1 hall
      rw [show ((0 : Nat) : Int) = 0 from rfl] at h
      simp only [h, Option.bind_some, Sum.elim_inl]
      rfl
    | false =>
      obtain ⟨k, _, h⟩ := key.2 hall
      rw [show ((0 : Nat) : Int) = 0 from rfl] at h
      simp only [h, Option.bind_some, Sum.elim_inr]
      have : decide ((k : Int) ≥ 0) = true := by simp
      rw [this]; rfl
theorem goodWays_facts {l : Ways} (h : goodWays l = true) : l.length ≤ 4 ∧ ∀ w ∈ l, w.length ≤ 12 ∧ 3 ≤ w.length ∧ ∀ p ∈ w, -1000 ≤ p.1 ∧ p.1 ≤ 1000 ∧ -1000 ≤ p.2 ∧ p.2 ≤ 1000 := by
  unfold goodWays at h
  rw [Bool.and_eq_true, Bool.and_eq_true, List.all_eq_true] at h
  refine ⟨by simpa using h.2.2, fun w hw => ?_⟩
  have h1 := h.1 w hw
  unfold isWay at h1
  simp only [Bool.and_eq_true, decide_eq_true_eq, List.all_eq_true] at h1
  exact ⟨h1.1.2, h1.1.1, fun p hp => goodPt_iff.1 (h1.2 p hp)⟩
end Go.Proofs.YtnhibkgoinnmcaaDoor.Ev
