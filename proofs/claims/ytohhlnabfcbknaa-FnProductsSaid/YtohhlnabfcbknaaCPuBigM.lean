/- Long division: one place of it. -/
import Derived.Test.YtohhlnabfcbknaaCPuBigL
import Derived.Test.YtohhlnabfcbknaaCPuBigH
namespace Go.Proofs.Ytohhlnabfcbknaa.Ev
open Go
set_option linter.unusedVariables false
set_option linter.unusedSimpArgs false
set_option linter.unusedSectionVars false

theorem low_eq {j : Nat} {a b X Y : Int} (ha : 0 ≤ a ∧ a < B j) (hb : 0 ≤ b ∧ b < B j) (h : a + B j * X = b + B j * Y) : X = Y := by
  rcases Int.lt_trichotomy X Y with g | g | g
  · exfalso
    have := Int.mul_le_mul_of_nonneg_left (show X + 1 ≤ Y by omega) (Int.le_of_lt (B_pos j))
    rw [Int.mul_add] at this
    omega
  · exact g
  · exfalso
    have := Int.mul_le_mul_of_nonneg_left (show Y + 1 ≤ X by omega) (Int.le_of_lt (B_pos j))
    rw [Int.mul_add] at this
    omega

theorem dg_drop (l : List Int) (n k : Nat) : dg (l.drop n) k = dg l (n + k) := by unfold dg; simp [List.getD_eq_getElem?_getD, List.getElem?_drop]
theorem val_drop (l : List Int) (k : Nat) : val (l.drop k) = dg l k + 65536 * val (l.drop (k + 1)) := by
  rcases Nat.lt_or_ge k l.length with h | h
  · rw [List.drop_eq_getElem_cons h, dg_get (List.getElem?_eq_getElem h)]; rfl
  · rw [List.drop_eq_nil_of_le h, List.drop_eq_nil_of_le (by omega), dg_out h]; simp [val]
theorem lb_of_dg {l : List Int} (h : ∀ i, i < l.length → 0 ≤ dg l i ∧ dg l i < 65536) : LB l := fun x hx => by
  obtain ⟨i, hi, rfl⟩ := List.getElem_of_mem hx
  have := h i hi
  rwa [dg_get (List.getElem?_eq_getElem hi)] at this
theorem dg_take {l : List Int} {k i : Nat} (h : i < k) : dg (l.take k) i = dg l i := by unfold dg; simp [List.getD_eq_getElem?_getD, List.getElem?_take, h]
theorem lb_take {l : List Int} {k : Nat} (h : ∀ i, i < k → 0 ≤ dg l i ∧ dg l i < 65536) : LB (l.take k) := lb_of_dg fun i hi => by
  rw [List.length_take] at hi
  rw [dg_take (by omega)]
  exact h i (by omega)
theorem val_zero_dg : ∀ {l : List Int}, (∀ i, dg l i = 0) → val l = 0
  | [], _ => rfl
  | x :: l, h => by
    have h0 := h 0
    have h1 : val l = 0 := val_zero_dg fun i => h (i + 1)
    simp only [val, h1]
    unfold dg at h0
    simp at h0
    omega
theorem val_take_lt {l : List Int} (h : LB l) (k : Nat) : 0 ≤ val (l.take k) ∧ val (l.take k) < B k := by
  refine ⟨val_nonneg (h.take k), ?_⟩
  have := val_lt (h.take k)
  have := B_mono (show (l.take k).length ≤ k by rw [List.length_take]; omega)
  omega
theorem dg_high {l : List Int} (h : LB l) {n k : Nat} (hv : val l < B n) (hk : n ≤ k) : dg l k = 0 ∧ val (l.drop k) = 0 := by
  have h1 := val_parts l k
  have h2 := val_nonneg (h.take k)
  have h3 := val_nonneg (h.drop k)
  have h4 := B_mono hk
  have h5 : val (l.drop k) = 0 := by
    rcases Int.lt_or_le 0 (val (l.drop k)) with g | g
    · have := Int.mul_le_mul_of_nonneg_left (show 1 ≤ val (l.drop k) by omega) (Int.le_of_lt (B_pos k))
      omega
    · omega
  have h6 := val_drop l k
  have h7 := dg_lb h k
  have h8 := val_nonneg (h.drop (k + 1))
  exact ⟨by omega, h5⟩

/-- What a place of a long division stands on. -/
structure Place (u v : List Int) (j m : Nat) : Prop where
  lu : LB u
  lv : LB v
  hv : v.length = m + 2
  top : 1 ≤ dg v (m + 1)
  len : j + m + 2 < u.length
  less : val (u.drop (j + 1)) < val v

section
variable {u v : List Int} {j m : Nat} (H : Place u v j m)
include H
theorem Place.pos : 0 < val v := by
  have h1 := val_parts v (m + 1)
  have h2 := val_nonneg (H.lv.take (m + 1))
  have h3 := val_drop v (m + 1)
  have h4 := val_nonneg (H.lv.drop (m + 1 + 1))
  have h5 := H.top
  have h6 := Int.mul_le_mul_of_nonneg_left (show 1 ≤ val (v.drop (m + 1)) by omega) (Int.le_of_lt (B_pos (m + 1)))
  have h7 := B_pos (m + 1)
  omega
theorem Place.lt : val v < B (m + 2) := by have := val_lt H.lv; rwa [H.hv] at this
theorem Place.high {k : Nat} (hk : j + m + 3 ≤ k) : dg u k = 0 ∧ val (u.drop k) = 0 := by
  have h1 := dg_high (H.lu.drop (j + 1)) (n := m + 2) (k := k - (j + 1)) (by have := H.less; have := H.lt; omega) (by omega)
  rw [dg_drop, List.drop_drop, show j + 1 + (k - (j + 1)) = k by omega] at h1
  exact h1
theorem Place.rest : 0 ≤ val (u.drop j) ∧ val (u.drop j) < 65536 * val v := by
  refine ⟨val_nonneg (H.lu.drop j), ?_⟩
  have h1 := val_drop u j
  have h2 := dg_lb H.lu j
  have h3 := H.less
  omega
theorem Place.quot : 0 ≤ val (u.drop j) / val v ∧ val (u.drop j) / val v < 65536 := by
  obtain ⟨h1, h2⟩ := H.rest
  have h3 := H.pos
  exact ⟨Int.ediv_nonneg h1 (by omega), Int.ediv_lt_of_lt_mul h3 h2⟩
theorem Place.mod : 0 ≤ val (u.drop j) - val (u.drop j) / val v * val v ∧ val (u.drop j) - val (u.drop j) / val v * val v < val v := by
  have h1 := Int.emod_add_mul_ediv (val (u.drop j)) (val v)
  have h2 := Int.emod_nonneg (val (u.drop j)) (show val v ≠ 0 by have := H.pos; omega)
  have h3 := Int.emod_lt_of_pos (val (u.drop j)) H.pos
  rw [Int.mul_comm] at h1
  omega
theorem Place.guess : Guess (B m) (dg v (m + 1)) (dg v m) (val (v.take m)) (dg u (j + m + 2) * 65536 + dg u (j + m + 1)) (dg u (j + m)) (val ((u.drop j).take m)) (val v) (val (u.drop j)) (val (u.drop j) / val v) := by
  have d1 := dg_lb H.lu (j + m + 1)
  have d2 := dg_lb H.lu (j + m + 2)
  have hm := H.mod
  have hq := H.quot
  refine ⟨B_pos m, H.top, (dg_lb H.lv _).2, dg_lb H.lv _, val_take_lt H.lv m, dg_lb H.lu _, val_take_lt (H.lu.drop j) m, ?_, ?_, by omega, by omega, hq.1, hq.2, H.pos⟩
  · rw [val_parts v m, val_drop v m, val_drop v (m + 1), List.drop_eq_nil_of_le (show v.length ≤ m + 1 + 1 by rw [H.hv]; omega)]
    simp only [val]
    grind
  · rw [val_parts (u.drop j) m, List.drop_drop, val_drop u (j + m), val_drop u (j + m + 1), val_drop u (j + m + 1 + 1), (H.high (k := j + m + 1 + 1 + 1) (by omega)).2, show j + m + 1 + 1 = j + m + 2 by omega]
    grind

/-- What is left after x times v is taken off, the limb ahead of all as it comes. -/
theorem Place.after {u4 : List Int} (hl : u4.length = u.length) (hg : ∀ i, i < j + m + 2 → 0 ≤ dg u4 i ∧ dg u4 i < 65536) (hh : ∀ i, j + m + 2 < i → dg u4 i = dg u i) {x : Int} (hv : val u4 = val u - B j * (x * val v)) :
    val (u4.drop j) = val (u.drop j) - x * val v ∧ ∃ X, 0 ≤ X ∧ X < B (m + 2) ∧ val (u.drop j) - x * val v = X + B (m + 2) * dg u4 (j + m + 2) := by
  have e1 : val (u4.drop j) = val (u.drop j) - x * val v := by
    have h1 := val_parts u4 j
    have h2 := val_parts u j
    have h3 := val_take_lt H.lu j
    have h4 : LB (u4.take j) := lb_take fun i hi => hg i (by omega)
    have h5 := val_take_lt h4 j
    rw [List.take_take, Nat.min_self] at h5
    refine low_eq (j := j) h5 h3 ?_
    rw [Int.mul_sub]
    omega
  refine ⟨e1, val ((u4.drop j).take (m + 2)), ?_⟩
  have h4 : LB ((u4.drop j).take (m + 2)) := lb_take fun i hi => by rw [dg_drop]; exact hg _ (by omega)
  have h5 := val_take_lt h4 (m + 2)
  rw [List.take_take, Nat.min_self] at h5
  refine ⟨h5.1, h5.2, ?_⟩
  rw [← e1, val_parts (u4.drop j) (m + 2), List.drop_drop, val_drop u4 (j + (m + 2)), val_zero_dg (l := u4.drop (j + (m + 2) + 1)) fun i => by rw [dg_drop, hh _ (by omega)]; exact (H.high (by omega)).1]
  rw [show j + (m + 2) = j + m + 2 by omega, Int.mul_zero, Int.add_zero]

theorem Place.done {u4 : List Int} (hl : u4.length = u.length) (hg : ∀ i, i < j + m + 2 → 0 ≤ dg u4 i ∧ dg u4 i < 65536) (hh : ∀ i, j + m + 2 < i → dg u4 i = dg u i) {x : Int} (hv : val u4 = val u - B j * (x * val v))
    (hx : 0 ≤ val (u.drop j) - x * val v ∧ val (u.drop j) - x * val v < val v) : dg u4 (j + m + 2) = 0 ∧ LB u4 ∧ val (u4.drop j) < val v := by
  obtain ⟨h1, X, h2, h3, h4⟩ := H.after hl hg hh hv
  have h0 : dg u4 (j + m + 2) = 0 := by
    have := H.lt
    exact (low_eq (j := m + 2) (a := val (u.drop j) - x * val v) (b := X) (X := 0) (by omega) (by omega) (by rw [h4]; simp)).symm
  refine ⟨h0, lb_of_dg fun i hi => ?_, by omega⟩
  rcases Nat.lt_trichotomy i (j + m + 2) with g | g | g
  · exact hg i g
  · rw [g, h0]; omega
  · rw [hh i g]; exact dg_lb H.lu i

/-- The guess is right or one too great. -/
theorem Place.one {q : Int} (h1 : val (u.drop j) / val v ≤ q) (h2 : q * val v < val (u.drop j) + val v) : q = val (u.drop j) / val v ∨ q = val (u.drop j) / val v + 1 := by
  have hm := H.mod
  have hp := H.pos
  rcases Int.lt_or_le (val (u.drop j) / val v + 1) q with g | g
  · exfalso
    have := Int.mul_le_mul_of_nonneg_right (show val (u.drop j) / val v + 2 ≤ q by omega) (Int.le_of_lt hp)
    rw [Int.add_mul] at this
    omega
  · omega
end
end Go.Proofs.Ytohhlnabfcbknaa.Ev
