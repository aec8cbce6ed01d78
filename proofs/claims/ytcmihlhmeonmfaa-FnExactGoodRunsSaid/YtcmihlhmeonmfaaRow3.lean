/- Whatever the rows handed in, the law 'FnExactGoodRuns' answers true: the two readings of a row of runs agree, and nothing that was handed in changes. There are no further conditions. -/
import Derived.Test.YtcmihlhmeonmfaaLaw3
import Derived.Test.YtcmihlhmeonmfaaEvP
import Derived.Test.YtcmihlhmeonmfaaRows
import Derived.WalkKit
import Derived.ProofKit
import Derived.OpenShut
import Derived.ShutString
import Derived.ChangeOld
import Derived.Below
import Derived.SizedLaws
import Derived.Test.YtcmihlhmeonmfaaChecked
namespace Go.Proofs.Ytcmihlhmeonmfaa.Ev
open Go Go.RowKit Go.ChangeShapes Go.WideShapes Go.ChangeAt
set_option linter.unusedVariables false

theorem F13_eq {l : List (Int × Int)} (h : l.length ≤ 1048576) : F_13 l = some l := by
  unfold F_13
  rw [lenI_nat (by unfold maxBytes; omega) (by unfold maxBytes; omega)]
  have := copy_loop (G := fun x : Int × Int => F_72 (x.1, x.2)) (H := fun y : Int × Int => (y.1, y.2)) (g := fun x => x) (z := ((0 : Int), (0 : Int))) (l := l) (by omega) (fun a _ => ⟨a, rfl, rfl⟩)
  rw [List.map_id'] at this
  simp only [Option.bind_some]
  have e : loopM (fun s : List (Int × Int) × List (Int × Int) × Int => B_13_0 s.1 s.2.1 s.2.2) (l, List.replicate l.length ((0 : Int), (0 : Int)), (0 : Int)) = some l := this
  rw [e]
  rfl

theorem F15_eq {l : List (Int × Int)} (h : l.length ≤ 1048576) : F_15 l l = some true := by
  unfold F_15
  obtain ⟨r, h1, h2, _⟩ := same_loop (E := fun a b : Int × Int => F_74 (a.1, a.2) (b.1, b.2)) (l := l) (m := l) (by omega) rfl (fun a _ b _ => by
    obtain ⟨a1, a2⟩ := a
    obtain ⟨b1, b2⟩ := b
    unfold F_74
    by_cases e1 : a1 = b1 <;> by_cases e2 : a2 = b2 <;> simp [bne, e1, e2, beq_eq_false_iff_ne.2])
  have e : loopM (fun s : List (Int × Int) × List (Int × Int) × Int => B_15_0 s.1 s.2.1 s.2.2) (l, l, (0 : Int)) = some r := h1
  rw [e, h2 rfl]
  simp

theorem within_eq (a b c : Int) : ∃ t, F_71 a b c = some t ∧ F_73 a b c = some t ∧ (t = true → b ≤ a ∧ a ≤ c) := by
  unfold F_71 F_73
  by_cases h : a ≥ b <;> simp [h]

theorem F12_eq {l : List (Int × Int)} (h : l.length ≤ 1048576) : ∃ t, F_12 l = some t ∧ F_14 l = some t := by
  have key := loop_two (f := fun s : List (Int × Int) × Int × List (Int × Int) × Int × Int => B_12_0 s.1 s.2.1 s.2.2.1 s.2.2.2.1 s.2.2.2.2) (g := fun s : List (Int × Int) × Int × List (Int × Int) × Int × Int => B_14_0 s.1 s.2.1 s.2.2.1 s.2.2.2.1 s.2.2.2.2)
    (I := fun s t => ∃ (k : Nat) (x : Int), s = (l, 100 - x, l, (l.length : Int), (k : Int)) ∧ t = (l, x, l, (l.length : Int), (k : Int)) ∧ k ≤ l.length ∧ 0 ≤ x ∧ x ≤ 100) (R := fun r r' => r = r')
    (fun s => (s.2.2.2.1 - s.2.2.2.2).toNat) (by
      rintro s t ⟨k, x, rfl, rfl, hk, h0, h1⟩
      unfold B_12_0 B_14_0
      by_cases hlt : k < l.length
      · have hd : decide ((k : Int) < (l.length : Int)) = true := by simpa using hlt
        have e1 : l[k]? = some l[k] := List.getElem?_eq_getElem hlt
        generalize l[k] = a at e1
        obtain ⟨t1, p1, p2, _⟩ := within_eq a.1 0 255
        obtain ⟨t2, p3, p4, p5⟩ := within_eq a.2 1 (100 - x)
        simp only [hd, cond_true, getI_nat, e1, Option.bind_some, p1, p2]
        rw [show IntKind.wrap .i64 (100 - x) = 100 - x from wrapI (by omega) (by omega)]
        simp only [p3, p4, Option.bind_some]
        cases t1 with
        | false => right; exact ⟨_, _, rfl, rfl, rfl⟩
        | true =>
          cases t2 with
          | false => right; exact ⟨_, _, rfl, rfl, rfl⟩
          | true =>
            obtain ⟨q1, q2⟩ := p5 rfl
            have w1 : IntKind.wrap .i64 (100 - x - a.2) = 100 - (x + a.2) := by rw [wrapI (by omega) (by omega)]; omega
            have w2 : IntKind.wrap .i64 (x + a.2) = x + a.2 := wrapI (by omega) (by omega)
            have w3 : IntKind.wrap .i64 ((k : Int) + 1) = ((k + 1 : Nat) : Int) := by rw [wrapI (by omega) (by omega)]; omega
            have go : ∃ s' t', (some (Sum.inl (l, IntKind.wrap .i64 (100 - x - a.2), l, (l.length : Int), IntKind.wrap .i64 ((k : Int) + 1))) : Option ((List (Int × Int) × Int × List (Int × Int) × Int × Int) ⊕ (Unit ⊕ Bool))) = some (.inl s') ∧
                (some (Sum.inl (l, IntKind.wrap .i64 (x + a.2), l, (l.length : Int), IntKind.wrap .i64 ((k : Int) + 1))) : Option ((List (Int × Int) × Int × List (Int × Int) × Int × Int) ⊕ (Unit ⊕ Bool))) = some (.inl t') ∧
                (∃ (k : Nat) (x : Int), s' = (l, 100 - x, l, (l.length : Int), (k : Int)) ∧ t' = (l, x, l, (l.length : Int), (k : Int)) ∧ k ≤ l.length ∧ 0 ≤ x ∧ x ≤ 100) ∧ (s'.2.2.2.1 - s'.2.2.2.2).toNat < ((l.length : Int) - (k : Int)).toNat := by
              rw [w1, w2, w3]
              exact ⟨_, _, rfl, rfl, ⟨k + 1, x + a.2, rfl, rfl, hlt, by omega, by omega⟩, by simp only; omega⟩
            by_cases hk0 : k = 0
            · subst hk0
              left
              exact go
            · have hd0 : decide ((k : Int) > 0) = true := by simp; omega
              have e2 : l[k - 1]? = some (l[k - 1]'(by omega)) := List.getElem?_eq_getElem (by omega)
              generalize (l[k - 1]'(by omega)) = c at e2
              have w4 : IntKind.wrap .i64 ((k : Int) - 1) = ((k - 1 : Nat) : Int) := by rw [wrapI (by omega) (by omega)]; omega
              rw [w4, hd0]
              simp only [getI_nat, e2, Option.bind_some, cond_true]
              by_cases hc : a.1 = c.1
              · right
                refine ⟨.inr false, .inr false, ?_, ?_, rfl⟩ <;> simp [hc]
              · left
                have z1 : (c.1 == a.1) = false := by simp; omega
                have z2 : (a.1 == c.1) = false := by simp; omega
                rw [z1, z2]
                exact go
      · have hd : decide ((k : Int) < (l.length : Int)) = false := by simpa using hlt
        right
        simp only [hd, cond_false]
        exact ⟨_, _, rfl, rfl, rfl⟩)
    (l, 100, l, (l.length : Int), 0) (l, 0, l, (l.length : Int), 0) ⟨0, 0, rfl, rfl, by omega, by omega, by omega⟩
  obtain ⟨r, r', h1, h2, rfl⟩ := key
  refine ⟨Sum.elim (fun _ => true) (fun b => b) r, ?_, ?_⟩
  · unfold F_12
    rw [h1]
    cases r <;> rfl
  · unfold F_14
    rw [h2]
    cases r <;> rfl

theorem pure3 (l : List (Int × Int)) (hb : l.length * 16 ≤ maxBytes) : F_3 l = some true := by
  unfold F_3
  by_cases hl : l.length ≤ 1048576
  · have e11 : F_11 l 1048576 = some (1048576 - (l.length : Int)) := by
      unfold F_11
      rw [wrapI (by omega) (by omega)]
      have : decide (1048576 - (l.length : Int) < 0) = false := by simp; omega
      rw [this]; rfl
    have : decide (1048576 - (l.length : Int) < 0) = false := by simp; omega
    obtain ⟨t, h1, h2⟩ := F12_eq hl
    simp only [e11, Option.bind_some, this, cond_false, F13_eq hl, h1, h2, F15_eq hl]
    cases t <;> rfl
  · have hb' : l.length * 16 ≤ 140737488355328 := by unfold maxBytes at hb; omega
    have e11 : F_11 l 1048576 = some (-1) := by
      unfold F_11
      rw [wrapI (by omega) (by omega)]
      have : decide (1048576 - (l.length : Int) < 0) = true := by simp; omega
      rw [this]; rfl
    rw [e11]
    rfl

def shs3 : List Sh := [.sl 16 (.pair (.int .i64) (.int .i64))]
theorem fits3 : FitsL Try.prog [22] shs3 := by
  refine ⟨?_, trivial⟩
  refine .sl Try.underlying22 (by kernel_rfl) (by kernel_rfl) ?_
  refine .st Try.underlying88 (by kernel_rfl) ?_
  exact .cons rfl (by kernel_rfl) (.int (by kernel_rfl)) (.one rfl (by kernel_rfl) (.int (by kernel_rfl)))

theorem own3 : ownKnob Try.prog.godebug = none := by kernel_rfl
theorem laid3 : laidOutB Try.prog = true := by kernel_rfl

set_option maxRecDepth 100000 in
theorem lifted3 (os : Os) (started : os.Started) (H : Type) (enc : TypeId × Value → H) :
    ReturnsInHanded {} Try.checked os 3 .any (Rows.fnExactGoodRunsSpec.pre6 enc Try.prog Try.f3 Rows.fnExactGoodRunsRow.domain false) (Rows.fnExactGoodRunsSpec.post enc Try.prog Try.f3 false true false false) := by
  refine returnsInHanded_of_change_sized (C := Try.checked) own3 started (by kernel_rfl) Try.func3 (ChangeSpec.witness6 (enc := enc) (C := Try.checked) false ⟨#[], #[.slice none 0 0], []⟩ 8 (by kernel_rfl) (by kernel_rfl) (by kernel_rfl) (by kernel_rfl)) ?_
  intro W base args ds gs before hval hW hcnd hsz _
  exact law_contract (P := Try.prog) (cf := cf0) (ext := noExt) (F := fun x => F_3 x) (shs := shs3) (by kernel_rfl) (fun _ _ _ _ _ h => h.elim) OK3 (fun d hd => pure3 d hd.1.2) rfl rfl rfl (by kernel_rfl) fits3 laid3 (fun t ht => by cases List.mem_singleton.1 ht; exact ⟨by kernel_rfl, of_decide_eq_true (by kernel_rfl)⟩) rfl
    (fun ds hl => by
      match ds, hl with
      | [d], _ => rfl) hval hW hsz

theorem over3 : Rows.fnExactGoodRunsRow.holds Try.pinned (OpenSpec.ofChange Rows.fnExactGoodRunsSpec) :=
  OpenClaim.holds_of_wide 3 Try.f3 rfl rfl rfl rfl rfl rfl rfl ⟨rfl, rfl, rfl, rfl, rfl⟩ rfl rfl rfl rfl rfl (by kernel_rfl) Try.func3 (by kernel_rfl)
    (of_decide_eq_true (by kernel_rfl)) (by unfold Func.isWrapper; first | (rw [if_pos (by decide +kernel)]; kernel_rfl) | (rw [if_neg (by decide +kernel)]; exact ⟨rfl, rfl⟩))
    (fun os started H enc _ => lifted3 os started H enc)
end Go.Proofs.Ytcmihlhmeonmfaa.Ev
namespace Go.Proofs.Ytcmihlhmeonmfaa
theorem fnExactGoodRuns_holds : Rows.FnExactGoodRunsSaid := Ev.over3
#print axioms fnExactGoodRuns_holds
end Go.Proofs.Ytcmihlhmeonmfaa
