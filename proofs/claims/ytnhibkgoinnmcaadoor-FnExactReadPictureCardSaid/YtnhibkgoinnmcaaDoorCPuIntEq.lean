/- Rows of numbers that are compared, marked, looked at again. -/
import Derived.Test.YtnhibkgoinnmcaaDoorCPuCopy
import Derived.Test.YtnhibkgoinnmcaaDoorCLawFnExactReadPicture
namespace Go.Proofs.YtnhibkgoinnmcaaDoor.Ev
open Go
set_option linter.unusedVariables false
theorem l_eqIntS {l m : List Int} (hl : l.length < 4611686018427387904) : F_l_eqIntS l m = some (decide (l = m)) := by
  unfold F_l_eqIntS
  by_cases hlm : m.length = l.length
  · rw [show ((l.length : Int) != (m.length : Int)) = false by simp [hlm], cF]
    obtain ⟨r, h1, h2, h3⟩ := same_loop (E := fun a b : Int => some (a == b)) (l := l) (m := m) hl hlm (fun a _ b _ => ⟨a == b, rfl, by simp⟩)
    have e : loopM (fun (s : (List Int × (List Int × Int))) => B_l_eqIntS_0 s.1 s.2.1 s.2.2) (l, m, (0 : Int)) = some r := h1
    rw [e, obs]
    by_cases h : l = m
    · rw [h2 h, decide_eq_true h]; rfl
    · rw [h3 h, decide_eq_false h]; rfl
  · rw [show ((l.length : Int) != (m.length : Int)) = true by simp [bne]; omega, cT, decide_eq_false]
    rintro rfl
    exact hlm rfl
theorem l_markIntS {l : List Int} (hl : l.length < 1099511627776) : F_l_markIntS l 1 = some (markI 1 l.length, 1 + (l.length : Int)) := by
  unfold F_l_markIntS
  have h : loopM (fun (s : (List Int × (Int × Int))) => B_l_markIntS_0 s.1 s.2.1 s.2.2) (l, (1 : Int), (0 : Int)) = some (markI 1 l.length, 1 + (l.length : Int)) := markI_loop hl (by omega) (by omega)
  rw [h, obs]
theorem l_heldIntS {n : Nat} (hl : n < 1099511627776) : F_l_heldIntS (markI 1 n) 1 = some (1 + (n : Int)) := by
  unfold F_l_heldIntS
  have h : loopM (fun (s : (List Int × (Int × Int))) => B_l_heldIntS_0 s.1 s.2.1 s.2.2) (markI 1 n, (1 : Int), (0 : Int)) = some (.inl (1 + (n : Int))) := heldI_loop hl (by omega) (by omega)
  rw [h, obs]
  rfl
end Go.Proofs.YtnhibkgoinnmcaaDoor.Ev
