/- The law FnExactRunsText, over its typed text. -/
import Derived.Test.YtnhibkgoinnmcaaDoorCPuRunsText
namespace Go.Proofs.YtnhibkgoinnmcaaDoor.Ev
open Go
set_option linter.unusedVariables false

theorem l_toRunS {l : List Rn} (hl : l.length ≤ 1048576) : F_l_toRunS l = some l := by
  unfold F_l_toRunS
  rw [lenI_nat (by unfold maxBytes; omega) (by unfold maxBytes; omega), obs]
  have h := put_loop (body := fun (s : (List Rn × (List Rn × Int))) => B_l_toRunS_0 s.1 s.2.1 s.2.2) (g := id) (z := ((0 : Int), (0 : Int))) (l := l) (by omega) (by
    intro k a acc hk ha
    have hlt := getL hk
    unfold B_l_toRunS_0
    simp only
    rw [decide_eq_true (show (k : Int) < (l.length : Int) by omega), cT, getI_nat, hk, obs]
    unfold F_l_toRun
    rw [obs, idxI_nat (by omega), obs, show getN acc k = some (acc[k]'(by omega)) from List.getElem?_eq_getElem (by omega), obs, wrap1 (by omega)]
    rfl) (by
    intro acc
    unfold B_l_toRunS_0
    simp)
  rw [List.map_id] at h
  rw [h, obs]
theorem l_eqRun (a b : Rn) : F_l_eqRun a b = some (decide (a = b)) := by
  obtain ⟨a1, a2⟩ := a
  obtain ⟨b1, b2⟩ := b
  unfold F_l_eqRun
  by_cases h1 : a1 = b1 <;> by_cases h2 : a2 = b2 <;> simp [h1, h2, bne, beq_eq_false_iff_ne.2]
theorem l_eqRunS {l m : List Rn} (hl : l.length < 4611686018427387904) : F_l_eqRunS l m = some (decide (l = m)) := by
  unfold F_l_eqRunS
  by_cases hlm : m.length = l.length
  · rw [show ((l.length : Int) != (m.length : Int)) = false by simp [hlm], cF]
    obtain ⟨r, h1, h2, h3⟩ := same_loop (E := fun a b : Rn => F_l_eqRun (a.1, a.2) (b.1, b.2)) (l := l) (m := m) hl hlm (fun a _ b _ => ⟨decide (a = b), l_eqRun a b, by simp⟩)
    have e : loopM (fun (s : (List Rn × (List Rn × Int))) => B_l_eqRunS_0 s.1 s.2.1 s.2.2) (l, m, (0 : Int)) = some r := h1
    rw [e, obs]
    by_cases h : l = m
    · rw [h2 h, decide_eq_true h]; rfl
    · rw [h3 h, decide_eq_false h]; rfl
  · rw [show ((l.length : Int) != (m.length : Int)) = true by simp [bne]; omega, cT, decide_eq_false]
    rintro rfl
    exact hlm rfl
theorem l_szRunS {l : List Rn} (hl : l.length < 4611686018427387904) : F_l_szRunS l 1048576 = some (if l.length ≤ 1048576 then 1048576 - (l.length : Int) else -1) := by
  unfold F_l_szRunS
  rw [wrapI (by omega) (by omega)]
  by_cases h : l.length ≤ 1048576
  · rw [decide_eq_false (by omega), cF, if_pos h]
  · rw [decide_eq_true (by omega), cT, if_neg h]

theorem pureFnExactRunsText (l : List Rn) (hb : l.length * 16 ≤ maxBytes) : F_l_FnExactRunsText l = some true := by
  have hl : l.length < 4611686018427387904 := by unfold maxBytes at hb; omega
  unfold F_l_FnExactRunsText
  rw [l_szRunS hl, obs]
  by_cases h : l.length ≤ 1048576
  · rw [if_pos h, decide_eq_false (by omega), cF, l_toRunS h, obs, s_RunsText hl, obs, obs, i_RunsText hl, obs, beq_self_eq_true, nT, cF, beq_self_eq_true, nT, cF, obs, l_eqRunS hl, decide_eq_true rfl, obs]
    rfl
  · rw [if_neg h]
    rfl
end Go.Proofs.YtnhibkgoinnmcaaDoor.Ev
