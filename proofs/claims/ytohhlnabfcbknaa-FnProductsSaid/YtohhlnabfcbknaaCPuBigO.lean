/- Long division: all the places of impl, and the whole of it. -/
import Derived.Test.YtohhlnabfcbknaaCPuBigN
namespace Go.Proofs.Ytohhlnabfcbknaa.Ev
open Go
set_option linter.unusedVariables false
set_option linter.unusedSimpArgs false
set_option linter.unusedSectionVars false

/-- What is told of a long division that has so many places left. -/
structure Places (u0 v : List Int) (m n : Nat) (u out : List Int) : Prop where
  len : u.length = u0.length
  lu : LB u
  le : n + (m + 2) ≤ u0.length
  less : val (u.drop n) < val v
  lo : LB out
  olen : out.length + (m + 2) = u0.length
  zero : ∀ i, i < n → dg out i = 0
  v : val u + val v * val out = val u0

theorem Places.place {u0 v u out : List Int} {m n : Nat} (h : Places u0 v m (n + 1) u out) (hv : LB v) (hvl : v.length = m + 2) (ht : 1 ≤ dg v (m + 1)) : Place u v n m :=
  ⟨h.lu, hv, hvl, ht, by have := h.le; have := h.len; omega, h.less⟩
theorem Places.next {u0 v u out u' : List Int} {m n : Nat} (h : Places u0 v m (n + 1) u out) (H : Place u v n m) (h1 : u'.length = u.length) (h2 : LB u') (h3 : val u' = val u - B n * (val (u.drop n) / val v * val v)) (h4 : val (u'.drop n) < val v) :
    Places u0 v m n u' (out.set n (val (u.drop n) / val v)) := by
  have hle := h.le
  have hol := h.olen
  refine ⟨h1.trans h.len, h2, by omega, h4, h.lo.set H.quot, by rw [List.length_set]; exact hol, fun i hi => by rw [dg_set_ne (by omega)]; exact h.zero i (by omega), ?_⟩
  have hz := h.zero n (by omega)
  rw [val_set (get_of_dg (show n < out.length by omega)), hz, h3, Int.sub_zero, Int.mul_add]
  have := h.v
  have e : val v * (B n * (val (u.drop n) / val v)) = B n * (val (u.drop n) / val v * val v) := by grind
  omega

theorem i_places {u0 v : List Int} {m : Nat} {by_ : Int} (hv : LB v) (hvl : v.length = m + 2) (ht : 1 ≤ dg v (m + 1)) (hl : u0.length ≤ 1000000) {n : Nat} {out : List Int} (h : Places u0 v m n u0 out) :
    ∃ u out', loopM (fun (s : ((List Int) × ((List Int) × ((List Int) × (Int × (Int × Int)))))) => B_i_divLimbs_1 s.1 s.2.1 s.2.2.1 s.2.2.2.1 s.2.2.2.2.1 s.2.2.2.2.2) (u0, (v, (out, (((m + 2 : Nat) : Int), (by_, (n : Int) - 1))))) = some (u, (out', (((m + 2 : Nat) : Int), by_))) ∧ Places u0 v m 0 u out' := by
  obtain ⟨⟨u, out'⟩, h1, h2⟩ := down_loop (body := fun (s : ((List Int) × ((List Int) × ((List Int) × (Int × (Int × Int)))))) => B_i_divLimbs_1 s.1 s.2.1 s.2.2.1 s.2.2.2.1 s.2.2.2.2.1 s.2.2.2.2.2)
    (st := fun n (b : List Int × List Int) => (b.1, (v, (b.2, (((m + 2 : Nat) : Int), (by_, (n : Int) - 1)))))) (fin := fun b => (b.1, (b.2, (((m + 2 : Nat) : Int), by_)))) (I := fun n b => Places u0 v m n b.1 b.2)
    (by
      rintro n ⟨u, out⟩ hI
      simp only at hI
      have H := hI.place hv hvl ht
      have hle := hI.le
      have hol := hI.olen
      have hul := hI.len
      obtain ⟨u', g1, g2, g3, g4, g5⟩ := i_place (out := out) (by_ := by_) H (by omega) (by omega)
      refine ⟨(u', out.set n (val (u.drop n) / val v)), ?_, hI.next H g2 g3 g4 g5⟩
      simp only
      rw [show ((n + 1 : Nat) : Int) - 1 = (n : Int) by omega, g1])
    (by
      rintro ⟨u, out⟩ _
      unfold B_i_divLimbs_1
      dsimp only
      rw [decide_eq_false (by omega)]
      rfl) n (u0, out) h
  exact ⟨u, out', h1, h2⟩

theorem Places.start {u0 v : List Int} {m n : Nat} (hu : LB u0) (hv : LB v) (hvl : v.length = m + 2) (ht : 1 ≤ dg v (m + 1)) (hn : u0.length = n + (m + 2)) (h0 : dg u0 (n + (m + 1)) = 0) : Places u0 v m n u0 (List.replicate n 0) := by
  refine ⟨rfl, hu, by omega, ?_, LB.zeros n, by simp; omega, fun i hi => by unfold dg; rw [List.getD_eq_getElem?_getD, List.getElem?_replicate]; split <;> rfl, by rw [val_zeros]; omega⟩
  have h1 := val_parts (u0.drop n) (m + 1)
  have h2 := val_take_lt (hu.drop n) (m + 1)
  rw [List.drop_drop, val_drop u0 (n + (m + 1)), h0, List.drop_eq_nil_of_le (show u0.length ≤ n + (m + 1) + 1 by omega)] at h1
  simp only [val] at h1
  have h3 := val_parts v (m + 1)
  have h4 := val_nonneg (hv.take (m + 1))
  have h5 := val_drop v (m + 1)
  have h6 := val_nonneg (hv.drop (m + 1 + 1))
  have h7 := Int.mul_le_mul_of_nonneg_left (show 1 ≤ val (v.drop (m + 1)) by omega) (Int.le_of_lt (B_pos (m + 1)))
  omega

theorem Places.end {u0 v u out : List Int} {m : Nat} (h : Places u0 v m 0 u out) (hv : LB v) : val out = val u0 / val v ∧ val u = val u0 % val v := by
  have h1 := h.less
  rw [List.drop_zero] at h1
  exact divmod_of (by rw [Int.mul_comm]; have := h.v; omega) (val_nonneg h.lu) h1

/-- The top limb of a number. -/
theorem lim_top {n : Nat} (h : n ≠ 0) : 1 ≤ dg (lim n) ((lim n).length - 1) ∧ dg (lim n) ((lim n).length - 1) < 65536 ∧ B ((lim n).length - 1) * dg (lim n) ((lim n).length - 1) ≤ n ∧ (n : Int) < B ((lim n).length - 1) * (dg (lim n) ((lim n).length - 1) + 1) := by
  have hne : (lim n).length ≠ 0 := fun hh => h (lim_nil.1 (List.eq_nil_of_length_eq_zero hh))
  have h1 := val_parts (lim n) ((lim n).length - 1)
  have h2 := val_take_lt (lim_lb n) ((lim n).length - 1)
  rw [val_drop, List.drop_eq_nil_of_le (show (lim n).length ≤ (lim n).length - 1 + 1 by omega), lim_val] at h1
  simp only [val, Int.mul_zero, Int.add_zero] at h1
  have h3 := dg_lb (lim_lb n) ((lim n).length - 1)
  refine ⟨?_, h3.2, by omega, by rw [Int.mul_add]; omega⟩
  rcases Int.lt_or_le 0 (dg (lim n) ((lim n).length - 1)) with g | g
  · omega
  · exfalso
    have g0 : dg (lim n) ((lim n).length - 1) = 0 := by omega
    refine lim_nb n _ (List.getLast?_eq_getElem? .. ▸ get_of_dg (show (lim n).length - 1 < (lim n).length by omega)) g0
end Go.Proofs.Ytohhlnabfcbknaa.Ev
