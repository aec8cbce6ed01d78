/- Ways: lists of some points. Twice their area, moved, the same. -/
import Derived.Test.YtcmihlhmeonmfaaCPuRing
import Derived.Test.YtcmihlhmeonmfaaCPuPts
namespace Go.Proofs.Ytcmihlhmeonmfaa.Ev
open Go
set_option linter.unusedVariables false
set_option linter.unusedSimpArgs false
set_option linter.unusedSectionVars false

def isWay (l : List P2) : Bool := (decide (3 ≤ l.length) && decide (l.length ≤ 12)) && l.all goodPt
theorem isWay_iff {l : List P2} : isWay l = true ↔ (3 ≤ l.length ∧ l.length ≤ 12) ∧ ∀ p ∈ l, goodPt p = true := by
  simp [isWay, List.all_eq_true, and_assoc]
theorem within_len (l : List P2) : within (l.length : Int) 3 12 = (decide (3 ≤ l.length) && decide (l.length ≤ 12)) := by
  unfold within
  congr 1 <;> rw [decide_eq_decide] <;> omega
theorem i_isWay {l : List P2} (h : Short l) : F_i_isWay l = some (isWay l) := by
  unfold F_i_isWay isWay
  simp only [i_within, Option.bind_some, i_arePts h, within_len]
  cases (decide (3 ≤ l.length) && decide (l.length ≤ 12)) <;> rfl
theorem s_l8Way {l : List P2} (h : Short l) : F_s_l8Way l = some (isWay l) := by
  unfold F_s_l8Way isWay
  simp only [s_l1In, Option.bind_some, s_l8Pts h, within_len]
  cases (decide (3 ≤ l.length) && decide (l.length ≤ 12)) <;> rfl

theorem i_after {l : List P2} {k : Nat} (h : k < l.length) (hs : Short l) : F_i_after l (k : Int) = some (((k + 1) % l.length : Nat) : Int) := by
  unfold F_i_after
  unfold Short at hs
  have : ((l.length : Int) == 0) = false := by simp; intro h2; rw [h2] at h; simp at h
  simp only [this, cond_false]
  rw [wrap1 (by omega), Int.tmod_eq_emod_of_nonneg (by omega)]
  simp

theorem side_bound {p q : P2} (hp : goodPt p = true) (hq : goodPt q = true) : (-1000000 ≤ p.1 * q.2 ∧ p.1 * q.2 ≤ 1000000) ∧ (-1000000 ≤ q.1 * p.2 ∧ q.1 * p.2 ≤ 1000000) := by
  rw [goodPt_iff] at hp hq
  have h1 := mul_bound (x := p.1) (y := q.2) (B := 1000) (C := 1000) (by omega) (by omega)
  have h2 := mul_bound (x := q.1) (y := p.2) (B := 1000) (C := 1000) (by omega) (by omega)
  omega

theorem area_take {l : List P2} (hg : ∀ p ∈ l, goodPt p = true) (hl : l.length ≤ 1000) (k : Nat) : -2000000000 ≤ tot (fun p : P2 × P2 => p.1.1 * p.2.2 - p.2.1 * p.1.2) ((ring l).take k) ∧ tot (fun p : P2 × P2 => p.1.1 * p.2.2 - p.2.1 * p.1.2) ((ring l).take k) ≤ 2000000000 := by
  have := tot_take_bound (f := fun p : P2 × P2 => p.1.1 * p.2.2 - p.2.1 * p.1.2) (B := 2000000) (by omega) (l := ring l) (fun a ha => by
    have := ring_mem ha
    have := side_bound (hg _ this.1) (hg _ this.2)
    omega) k
  rw [ring_len] at this
  omega

theorem i_areaTwice {l : List P2} (hg : ∀ p ∈ l, goodPt p = true) (hl : l.length ≤ 1000) : F_i_areaTwice l = some (area2 l) ∧ -2000000000 ≤ area2 l ∧ area2 l ≤ 2000000000 := by
  unfold F_i_areaTwice
  have hlen : (ring l).length = l.length := ring_len l
  have hall : (ring l).take (ring l).length = ring l := List.take_length
  obtain ⟨h1, h2⟩ := fold_loop (l := ring l) (body := fun (s : ((List (Int × Int)) × (Int × ((List (Int × Int)) × (Int × Int))))) => B_i_areaTwice_0 s.1 s.2.1 s.2.2.1 s.2.2.2.1 s.2.2.2.2)
    (st := fun k (b : Int) => (l, (b, (l, ((l.length : Int), (k : Int)))))) (step := fun b p => b + (p.1.1 * p.2.2 - p.2.1 * p.1.2)) (fin := fun b => b) (I := fun k b => b = tot (fun p : P2 × P2 => p.1.1 * p.2.2 - p.2.1 * p.1.2) ((ring l).take k))
    (by
      rintro k b p hk rfl
      have hb := side_bound (hg _ (ring_mem (List.mem_of_getElem? hk)).1) (hg _ (ring_mem (List.mem_of_getElem? hk)).2)
      have ht := area_take hg hl k
      obtain ⟨g1, g2, g3⟩ := ring_get hk
      unfold B_i_areaTwice_0
      simp only [lt_dec g2, cond_true, getI_nat, g2, i_after g1 (show l.length < 1099511627776 by omega), g3, Option.bind_some, wrap1 (show k < 4611686018427387904 by omega)]
      rw [wrapI (n := p.1.1 * p.2.2) (by omega) (by omega), wrapI (n := p.2.1 * p.1.2) (by omega) (by omega), wrapI (n := p.1.1 * p.2.2 - p.2.1 * p.1.2) (by omega) (by omega), wrapI (by omega) (by omega)]
      exact ⟨rfl, (tot_snoc_take _ hk).symm⟩)
    (by
      rintro b rfl
      unfold B_i_areaTwice_0
      rw [hlen]
      simp only [ge_dec, cond_false]) 0 rfl
  have h0 : ((0 : Nat) : Int) = 0 := rfl
  rw [h0] at h1
  rw [h2, hall] at h1
  refine ⟨?_, ?_⟩
  · rw [h1]; rfl
  · have := area_take hg hl (ring l).length
    rw [hall] at this
    exact this

theorem i_AreaTwice {l : List P2} (h : Short l) : F_i_AreaTwice l = some (if isWay l = true then (area2 l, true) else (0, false)) := by
  unfold F_i_AreaTwice
  simp only [i_isWay h, Option.bind_some]
  cases hw : isWay l with
  | false => simp
  | true =>
    obtain ⟨⟨_, w1⟩, w2⟩ := isWay_iff.1 hw
    simp only [Bool.not_true, cond_false, (i_areaTwice w2 (by omega)).1, Option.bind_some]
    rfl

theorem l_samePts {l : List P2} (h : Short l) : F_l_samePts l l = some true := by
  unfold F_l_samePts
  unfold Short at h
  have : ((l.length : Int) != (l.length : Int)) = false := by simp
  simp only [this, cond_false]
  obtain ⟨h1, h2⟩ := fold_loop (l := l) (body := fun (s : ((List (Int × Int)) × ((List (Int × Int)) × (Int × Int)))) => B_l_samePts_0 s.1 s.2.1 s.2.2.1 s.2.2.2)
    (st := fun k (b : Unit) => (l, (l, ((l.length : Int), (k : Int))))) (step := fun b p => ()) (fin := fun b => .inl ()) (I := fun k b => True)
    (by
      rintro k b p hk _
      have hkl := getL hk
      unfold B_l_samePts_0
      simp only [lt_dec hk, cond_true, getI_nat, hk, Option.bind_some, beq_self_eq_true, Bool.and_self, Bool.not_true, cond_false, wrap1 (show k < 4611686018427387904 by omega)]
      exact ⟨trivial, trivial⟩)
    (by
      rintro b _
      unfold B_l_samePts_0
      simp only [ge_dec, cond_false]) () trivial
  rw [show ((0 : Nat) : Int) = 0 from rfl] at h1
  rw [h1]
  rfl
end Go.Proofs.Ytcmihlhmeonmfaa.Ev
