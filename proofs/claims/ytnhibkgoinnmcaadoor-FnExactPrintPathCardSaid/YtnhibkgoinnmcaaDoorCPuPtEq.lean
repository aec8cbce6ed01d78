/- Points and ways of the law's own that are copied, measured, compared. -/
import Derived.Test.YtnhibkgoinnmcaaDoorCPuCopy
import Derived.Test.YtnhibkgoinnmcaaDoorCLawFnExactPrintPath
namespace Go.Proofs.YtnhibkgoinnmcaaDoor.Ev
open Go
set_option linter.unusedVariables false
abbrev Pq := Int × Int

theorem l_toPtS {l : List Pq} (hl : l.length ≤ 1048576) : F_l_toPtS l = some l := by
  unfold F_l_toPtS
  rw [lenI_nat (by unfold maxBytes; omega) (by unfold maxBytes; omega), obs]
  have h := put_loop (body := fun (s : (List Pq × (List Pq × Int))) => B_l_toPtS_0 s.1 s.2.1 s.2.2) (g := id) (z := ((0 : Int), (0 : Int))) (l := l) (by omega) (by
    intro k a acc hk ha
    have hlt := getL hk
    unfold B_l_toPtS_0
    simp only
    rw [decide_eq_true (show (k : Int) < (l.length : Int) by omega), cT, getI_nat, hk, obs]
    unfold F_l_toPt
    rw [obs, idxI_nat (by omega), obs, show getN acc k = some (acc[k]'(by omega)) from List.getElem?_eq_getElem (by omega), obs, wrap1 (by omega)]
    rfl) (by
    intro acc
    unfold B_l_toPtS_0
    simp)
  rw [List.map_id] at h
  rw [h, obs]
theorem l_toPtSS {l : List (List Pq)} (hl : l.length ≤ 1048576) (hw : ∀ w ∈ l, w.length ≤ 1048576) : F_l_toPtSS l = some l := by
  unfold F_l_toPtSS
  rw [lenI_nat (by unfold maxBytes; omega) (by unfold maxBytes; omega), obs]
  have h := put_loop (body := fun (s : (List (List Pq) × (List (List Pq) × Int))) => B_l_toPtSS_0 s.1 s.2.1 s.2.2) (g := id) (z := ([] : List Pq)) (l := l) (by omega) (by
    intro k a acc hk ha
    have hlt := getL hk
    unfold B_l_toPtSS_0
    simp only
    rw [decide_eq_true (show (k : Int) < (l.length : Int) by omega), cT, getI_nat, hk, obs, l_toPtS (hw a (List.mem_of_getElem? hk)), obs, idxI_nat (by omega), obs, show getN acc k = some (acc[k]'(by omega)) from List.getElem?_eq_getElem (by omega), obs, wrap1 (by omega)]
    rfl) (by
    intro acc
    unfold B_l_toPtSS_0
    simp)
  rw [List.map_id] at h
  rw [h, obs]
theorem l_eqPt (a b : Pq) : F_l_eqPt a b = some (decide (a = b)) := by
  obtain ⟨a1, a2⟩ := a
  obtain ⟨b1, b2⟩ := b
  unfold F_l_eqPt
  by_cases h1 : a1 = b1 <;> by_cases h2 : a2 = b2 <;> simp [h1, h2, bne, beq_eq_false_iff_ne.2]
theorem l_eqPtS {l m : List Pq} (hl : l.length < 4611686018427387904) : F_l_eqPtS l m = some (decide (l = m)) := by
  unfold F_l_eqPtS
  by_cases hlm : m.length = l.length
  · rw [show ((l.length : Int) != (m.length : Int)) = false by simp [hlm], cF]
    obtain ⟨r, h1, h2, h3⟩ := same_loop (E := fun a b : Pq => F_l_eqPt (a.1, a.2) (b.1, b.2)) (l := l) (m := m) hl hlm (fun a _ b _ => ⟨decide (a = b), l_eqPt a b, by simp⟩)
    have e : loopM (fun (s : (List Pq × (List Pq × Int))) => B_l_eqPtS_0 s.1 s.2.1 s.2.2) (l, m, (0 : Int)) = some r := h1
    rw [e, obs]
    by_cases h : l = m
    · rw [h2 h, decide_eq_true h]; rfl
    · rw [h3 h, decide_eq_false h]; rfl
  · rw [show ((l.length : Int) != (m.length : Int)) = true by simp [bne]; omega, cT, decide_eq_false]
    rintro rfl
    exact hlm rfl
theorem l_eqPtSS {l m : List (List Pq)} (hl : l.length < 4611686018427387904) (hw : ∀ w ∈ l, w.length < 4611686018427387904) : F_l_eqPtSS l m = some (decide (l = m)) := by
  unfold F_l_eqPtSS
  by_cases hlm : m.length = l.length
  · rw [show ((l.length : Int) != (m.length : Int)) = false by simp [hlm], cF]
    obtain ⟨r, h1, h2, h3⟩ := same_loop (E := fun a b : List Pq => F_l_eqPtS a b) (l := l) (m := m) hl hlm (fun a ha b _ => ⟨decide (a = b), l_eqPtS (hw a ha), by simp⟩)
    have e : loopM (fun (s : (List (List Pq) × (List (List Pq) × Int))) => B_l_eqPtSS_0 s.1 s.2.1 s.2.2) (l, m, (0 : Int)) = some r := h1
    rw [e, obs]
    by_cases h : l = m
    · rw [h2 h, decide_eq_true h]; rfl
    · rw [h3 h, decide_eq_false h]; rfl
  · rw [show ((l.length : Int) != (m.length : Int)) = true by simp [bne]; omega, cT, decide_eq_false]
    rintro rfl
    exact hlm rfl
theorem l_szPtS {l : List Pq} (hl : l.length < 1099511627776000) {a : Int} (ha : 0 ≤ a ∧ a ≤ 1048576) : F_l_szPtS l a = some (if (l.length : Int) ≤ a then a - (l.length : Int) else -1) := by
  unfold F_l_szPtS
  rw [wrapI (by omega) (by omega)]
  by_cases h : (l.length : Int) ≤ a
  · rw [decide_eq_false (by omega), cF, if_pos h]
  · rw [decide_eq_true (by omega), cT, if_neg h]
theorem l_szPtSS {l : List (List Pq)} (hl : l.length < 1099511627776000) (hw : ∀ w ∈ l, w.length < 1099511627776000) : ∃ x : Int, F_l_szPtSS l 1048576 = some x ∧ (0 ≤ x → l.length ≤ 1048576 ∧ ∀ w ∈ l, w.length ≤ 1048576) := by
  unfold F_l_szPtSS
  rw [wrapI (by omega) (by omega)]
  by_cases h : l.length ≤ 1048576
  · rw [decide_eq_false (by omega), cF]
    obtain ⟨r, h1, h2⟩ := loop_one (f := fun (s : (List (List Pq) × (Int × Int))) => B_l_szPtSS_0 s.1 s.2.1 s.2.2) (I := fun s => ∃ (k : Nat) (a : Int), s = (l, a, (k : Int)) ∧ k ≤ l.length ∧ 0 ≤ a ∧ a ≤ 1048576 ∧ ∀ i w, i < k → l[i]? = some w → w.length ≤ 1048576)
      (R := fun r => r = .inr (-1) ∨ ∀ w ∈ l, w.length ≤ 1048576) (fun s => (((s.1.length : Nat) : Int) - s.2.2).toNat) (by
        rintro s ⟨k, a, rfl, hk, h0, h1, hs⟩
        by_cases hlt : k < l.length
        · have he : l[k]? = some l[k] := List.getElem?_eq_getElem hlt
          have hwk := hw l[k] (List.getElem_mem hlt)
          generalize l[k] = w at he hwk
          unfold B_l_szPtSS_0
          simp only
          rw [decide_eq_true (show (k : Int) < (l.length : Int) by omega), cT, getI_nat, he, obs, l_szPtS hwk ⟨h0, h1⟩, obs]
          by_cases hc : (w.length : Int) ≤ a
          · left
            rw [if_pos hc, decide_eq_false (by omega), cF, wrap1 (by omega)]
            refine ⟨_, rfl, ⟨k + 1, a - w.length, rfl, hlt, by omega, by omega, fun i x hi hx => ?_⟩, by simp only; omega⟩
            by_cases hik : i = k
            · subst hik
              rw [he] at hx
              cases hx
              omega
            · exact hs i x (by omega) hx
          · right
            rw [if_neg hc]
            exact ⟨_, rfl, .inl rfl⟩
        · right
          unfold B_l_szPtSS_0
          simp only
          rw [decide_eq_false (show ¬ (k : Int) < (l.length : Int) by omega), cF]
          refine ⟨_, rfl, .inr fun w hw' => ?_⟩
          obtain ⟨i, hi, rfl⟩ := List.getElem_of_mem hw'
          exact hs i _ (by omega) (List.getElem?_eq_getElem hi)) (l, 1048576 - (l.length : Int), 0) ⟨0, _, rfl, by omega, by omega, by omega, fun i w hi => by omega⟩
    rw [h1, obs]
    rcases h2 with rfl | h2
    · exact ⟨-1, rfl, fun h => by omega⟩
    · cases r with
      | inl x => exact ⟨x, rfl, fun _ => ⟨h, h2⟩⟩
      | inr x => exact ⟨x, rfl, fun _ => ⟨h, h2⟩⟩
  · rw [decide_eq_true (by omega), cT]
    exact ⟨-1, rfl, fun h => by omega⟩
end Go.Proofs.YtnhibkgoinnmcaaDoor.Ev
