/- Whatever the list of numbers handed in, the law 'FnExactRunsOf' answers true: the two ways of reading runs out of a row agree, neither changes what it is handed, and what they hand back is not shared. There are no further conditions. -/
import Derived.Test.YtcmihlhmeonmfaaLaw5
import Derived.Test.YtcmihlhmeonmfaaEvP
import Derived.Test.YtcmihlhmeonmfaaRows
import Derived.WalkKit
import Derived.ProofKit
import Derived.OpenShut
import Derived.ShutString
import Derived.ChangeOld
import Derived.Below
import Derived.SizedLaws
import Derived.Test.YtcmihlhmeonmfaaChecked
namespace Go.Proofs.Ytcmihlhmeonmfaa.Ev
open Go Go.RowKit Go.ChangeShapes Go.WideShapes Go.ChangeAt
set_option linter.unusedVariables false
set_option linter.unusedSimpArgs false

theorem F22_eq {l : List Int} (h : l.length ≤ 1048576) : F_22 l = some l := by
  unfold F_22
  rw [lenI_nat (by unfold maxBytes; omega) (by unfold maxBytes; omega)]
  have := copy_loop (G := fun x : Int => some x) (H := fun y : Int => y) (g := fun x => x) (z := (0 : Int)) (l := l) (by omega) (fun a _ => ⟨a, rfl, rfl⟩)
  rw [List.map_id'] at this
  simp only [Option.bind_some]
  have e : loopM (fun s : List Int × List Int × Int => B_22_0 s.1 s.2.1 s.2.2) (l, List.replicate l.length (0 : Int), (0 : Int)) = some l := this
  rw [e]
  rfl

theorem F15_eq {l : List (Int × Int)} (h : l.length ≤ 1048576) : F_15 l l = some true := by
  unfold F_15
  obtain ⟨r, h1, h2, _⟩ := same_loop (E := fun a b : Int × Int => F_74 (a.1, a.2) (b.1, b.2)) (l := l) (m := l) (by omega) rfl (fun a _ b _ => by
    obtain ⟨a1, a2⟩ := a
    obtain ⟨b1, b2⟩ := b
    unfold F_74
    by_cases e1 : a1 = b1 <;> by_cases e2 : a2 = b2 <;> simp [bne, e1, e2, beq_eq_false_iff_ne.2])
  have e : loopM (fun s : List (Int × Int) × List (Int × Int) × Int => B_15_0 s.1 s.2.1 s.2.2) (l, l, (0 : Int)) = some r := h1
  rw [e, h2 rfl]
  simp

theorem F24_eq {l : List Int} (h : l.length ≤ 1048576) : F_24 l l = some true := by
  unfold F_24
  obtain ⟨r, h1, h2, _⟩ := same_loop (E := fun a b : Int => some (a == b)) (l := l) (m := l) (by omega) rfl (fun a _ b _ => ⟨a == b, rfl, by simp⟩)
  have e : loopM (fun s : List Int × List Int × Int => B_24_0 s.1 s.2.1 s.2.2) (l, l, (0 : Int)) = some r := h1
  rw [e, h2 rfl]
  simp

def okB (a : Int) : Bool := decide (0 ≤ a ∧ a ≤ 255)
theorem within_eq (a b c : Int) : F_71 a b c = some (decide (b ≤ a ∧ a ≤ c)) ∧ F_73 a b c = some (decide (b ≤ a ∧ a ≤ c)) := by
  unfold F_71 F_73
  by_cases h : a ≥ b <;> simp [h]

theorem F82_eq {l : List Int} (hl : l.length ≤ 1048576) : F_82 l = some (l.all okB && decide (l.length ≤ 100)) ∧ F_84 l = some (l.all okB) := by
  have b1 := all_loop (body := fun s : List Int × List Int × Int × Int => B_82_0 s.1 s.2.1 s.2.2.1 s.2.2.2) (l := l) (st := fun k => (l, l, (l.length : Int), (k : Int))) (p := okB) (fin := Sum.inl l) (bad := fun _ => Sum.inr false)
    (fun k a ha hp => by
      have hlt := (List.getElem?_eq_some_iff.1 ha).1
      have hd : decide ((k : Int) < (l.length : Int)) = true := by simpa using hlt
      have hp' : decide (0 ≤ a ∧ a ≤ 255) = true := hp
      simp only [B_82_0, hd, cond_true, getI_nat, ha, Option.bind_some, (within_eq a 0 255).1, hp', wrap1 (show k < 4611686018427387904 by omega)]
      rfl)
    (fun k a ha hp => by
      have hlt := (List.getElem?_eq_some_iff.1 ha).1
      have hd : decide ((k : Int) < (l.length : Int)) = true := by simpa using hlt
      have hp' : decide (0 ≤ a ∧ a ≤ 255) = false := hp
      simp only [B_82_0, hd, cond_true, getI_nat, ha, Option.bind_some, (within_eq a 0 255).1, hp']
      rfl)
    (by simp [B_82_0])
  have b2 := all_loop (body := fun s : List Int × Int × Int => B_132_0 s.1 s.2.1 s.2.2) (l := l) (st := fun k => (l, (l.length : Int), (k : Int))) (p := okB) (fin := Sum.inl ()) (bad := fun k => Sum.inr (k : Int))
    (fun k a ha hp => by
      have hlt := (List.getElem?_eq_some_iff.1 ha).1
      have hd : decide ((k : Int) < (l.length : Int)) = true := by simpa using hlt
      have hp' : decide (0 ≤ a ∧ a ≤ 255) = true := hp
      simp only [B_132_0, F_121, hd, cond_true, getI_nat, ha, Option.bind_some, (within_eq a 0 255).2, hp', wrap1 (show k < 4611686018427387904 by omega)]
      rfl)
    (fun k a ha hp => by
      have hlt := (List.getElem?_eq_some_iff.1 ha).1
      have hd : decide ((k : Int) < (l.length : Int)) = true := by simpa using hlt
      have hp' : decide (0 ≤ a ∧ a ≤ 255) = false := hp
      simp only [B_132_0, F_121, hd, cond_true, getI_nat, ha, Option.bind_some, (within_eq a 0 255).2, hp']
      rfl)
    (by simp [B_132_0])
  have z : ((0 : Nat) : Int) = 0 := rfl
  rw [z] at b1 b2
  cases hp : l.all okB with
  | true =>
    refine ⟨?_, ?_⟩
    · unfold F_82
      rw [b1.1 hp]
      simp only [Option.bind_some, Sum.elim_inl, Bool.true_and]
      congr 1
      simp; omega
    · unfold F_84 F_120 F_132
      rw [b2.1 hp]
      rfl
  | false =>
    obtain ⟨k, _, e1⟩ := b1.2 hp
    obtain ⟨j, _, e2⟩ := b2.2 hp
    refine ⟨?_, ?_⟩
    · unfold F_82
      rw [e1]
      rfl
    · unfold F_84 F_120 F_132
      rw [e2]
      have : decide ((j : Int) ≥ 0) = true := by simp
      simp [this]

theorem F83_eq {l : List Int} (hl : l.length ≤ 100) : ∃ r, F_83 l = some r ∧ F_85 l = some r ∧ r.length ≤ 100 := by
  obtain ⟨r, r', h1, h2, h3, h4⟩ := loop_two (f := fun s : List (Int × Int) × List Int × Int × Int => B_83_0 s.1 s.2.1 s.2.2.1 s.2.2.2) (g := fun s : List (Int × Int) × List Int × Int × Int => B_85_0 s.1 s.2.1 s.2.2.1 s.2.2.2)
    (I := fun s t => ∃ (k : Nat) (acc : List (Int × Int)), s = (acc, l, (l.length : Int), (k : Int)) ∧ t = s ∧ k ≤ l.length ∧ acc.length ≤ k) (R := fun r r' => r = r' ∧ r.length ≤ 100)
    (fun s => (s.2.2.1 - s.2.2.2).toNat) (by
      rintro s t ⟨k, acc, rfl, rfl, hk, hacc⟩
      have hb : B_83_0 acc l (l.length : Int) (k : Int) = B_85_0 acc l (l.length : Int) (k : Int) := by
        unfold B_83_0 B_85_0
        rw [wrapI (by omega) (by omega)]
        have : decide ((acc.length : Int) > 0) = decide ((acc.length : Int) - 1 ≥ 0) := by
          rw [decide_eq_decide]; omega
        rw [this]
      simp only [hb]
      have fin : (∃ s', B_85_0 acc l (l.length : Int) (k : Int) = some (.inl s') ∧ (∃ (k : Nat) (acc : List (Int × Int)), s' = (acc, l, (l.length : Int), (k : Int)) ∧ k ≤ l.length ∧ acc.length ≤ k) ∧ (s'.2.2.1 - s'.2.2.2).toNat < ((l.length : Int) - (k : Int)).toNat) ∨ ∃ r, B_85_0 acc l (l.length : Int) (k : Int) = some (.inr r) ∧ r.length ≤ 100 := by
        unfold B_85_0
        by_cases hlt : k < l.length
        · left
          have hd : decide ((k : Int) < (l.length : Int)) = true := by simpa using hlt
          have e1 : l[k]? = some l[k] := List.getElem?_eq_getElem hlt
          generalize l[k] = a at e1
          have ea : appL 16 2 acc [(a, (1 : Int))] = some (acc ++ [(a, 1)]) := appL_is (by unfold maxBytes; simp; omega) (by unfold maxBytes; simp; omega)
          simp only [hd, cond_true, getI_nat, e1, Option.bind_some, wrap1 (show k < 4611686018427387904 by omega), ea]
          rw [show IntKind.wrap .i64 ((acc.length : Int) - 1) = (acc.length : Int) - 1 from wrapI (by omega) (by omega)]
          have app : ∃ s', (some (Sum.inl (acc ++ [(a, (1 : Int))], l, (l.length : Int), ((k + 1 : Nat) : Int))) : Option ((List (Int × Int) × List Int × Int × Int) ⊕ List (Int × Int))) = some (.inl s') ∧ (∃ (k : Nat) (acc : List (Int × Int)), s' = (acc, l, (l.length : Int), (k : Int)) ∧ k ≤ l.length ∧ acc.length ≤ k) ∧ (s'.2.2.1 - s'.2.2.2).toNat < ((l.length : Int) - (k : Int)).toNat :=
            ⟨_, rfl, ⟨k + 1, _, rfl, hlt, by simp; omega⟩, by simp only; omega⟩
          by_cases h0 : (acc.length : Int) - 1 ≥ 0
          · have hi : (acc.length : Int) - 1 = ((acc.length - 1 : Nat) : Int) := by omega
            have e2 : getN acc (acc.length - 1) = some (acc[acc.length - 1]'(by omega)) := List.getElem?_eq_getElem (by omega)
            generalize (acc[acc.length - 1]'(by omega)) = c at e2
            have hdd : decide ((acc.length : Int) - 1 ≥ 0) = true := by simpa using h0
            simp only [hdd, cond_true]
            rw [hi]
            simp only [idxI_nat (show acc.length - 1 < acc.length by omega), Option.bind_some, e2]
            cases hc : c.1 == a with
            | false => simp only [cond_false]; exact app
            | true =>
              simp only [cond_true]
              exact ⟨_, rfl, ⟨k + 1, _, rfl, hlt, by simp; omega⟩, by simp only; omega⟩
          · have hdd : decide ((acc.length : Int) - 1 ≥ 0) = false := by simpa using h0
            simp only [hdd, cond_false]
            exact app
        · right
          have hd : decide ((k : Int) < (l.length : Int)) = false := by simpa using hlt
          exact ⟨acc, by simp only [hd, cond_false], by omega⟩
      rcases fin with ⟨s', q1, ⟨k', acc', q2, q3, q4⟩, q5⟩ | ⟨r, q1, q2⟩
      · exact .inl ⟨s', s', q1, q1, ⟨k', acc', q2, rfl, q3, q4⟩, q5⟩
      · exact .inr ⟨r, r, q1, q1, rfl, q2⟩)
    ([], l, (l.length : Int), 0) ([], l, (l.length : Int), 0) ⟨0, [], rfl, rfl, by omega, by simp⟩
  subst h3
  refine ⟨r, ?_, ?_, h4⟩
  · unfold F_83
    rw [h1]; rfl
  · unfold F_85
    rw [h2]; rfl

theorem F21_eq {l : List Int} (hl : l.length ≤ 1048576) : ∃ r b, F_21 l = some (r, b) ∧ F_23 l = some (r, b) ∧ r.length ≤ 100 := by
  obtain ⟨h1, h2⟩ := F82_eq hl
  unfold F_21 F_23
  rw [h1, h2]
  by_cases h100 : l.length ≤ 100
  · have d1 : decide (l.length ≤ 100) = true := by simpa using h100
    have d2 : decide ((l.length : Int) > 100) = false := by simp; omega
    simp only [d1, d2, Bool.and_true, cond_false, Option.bind_some]
    cases l.all okB with
    | false => exact ⟨[], false, rfl, rfl, by simp⟩
    | true =>
      obtain ⟨r, q1, q2, q3⟩ := F83_eq h100
      rw [q1, q2]
      exact ⟨r, true, rfl, rfl, q3⟩
  · have d1 : decide (l.length ≤ 100) = false := by simpa using h100
    have d2 : decide ((l.length : Int) > 100) = true := by simp; omega
    simp only [d1, d2, Bool.and_false, cond_true, Option.bind_some]
    exact ⟨[], false, rfl, rfl, by simp⟩

theorem F25_eq {l : List Int} (hl : l.length ≤ 1048576) : F_25 l 1 = some (markI 1 l.length, 1 + (l.length : Int)) := by
  unfold F_25
  have e : loopM (fun s : List Int × Int × Int => B_25_0 s.1 s.2.1 s.2.2) (l, (1 : Int), (0 : Int)) = some (markI 1 l.length, 1 + (l.length : Int)) := markI_loop (by omega) (by omega) (by omega)
  rw [e]; rfl

theorem F26_eq {l : List (Int × Int)} (hl : l.length ≤ 1048576) : F_26 l 1 = some (markP 1 l.length, 1 + 2 * (l.length : Int)) := by
  unfold F_26
  have e : loopM (fun s : List (Int × Int) × Int × Int => B_26_0 s.1 s.2.1 s.2.2) (l, (1 : Int), (0 : Int)) = some (markP 1 l.length, 1 + 2 * (l.length : Int)) := markP_loop (by omega) (by omega) (by omega)
  rw [e]; rfl

theorem F27_eq {n : Nat} (hl : n ≤ 1048576) : F_27 (markP 1 n) 1 = some (1 + 2 * (n : Int)) := by
  unfold F_27
  have e : loopM (fun s : List (Int × Int) × Int × Int => B_27_0 s.1 s.2.1 s.2.2) (markP 1 n, (1 : Int), (0 : Int)) = some (.inl (1 + 2 * (n : Int))) := heldP_loop (by omega) (by omega) (by omega)
  rw [e]; rfl

theorem pure5 (l : List Int) (hb : l.length * 8 ≤ maxBytes) : F_5 l = some true := by
  unfold F_5
  by_cases hl : l.length ≤ 1048576
  · have d1 : decide ((l.length : Int) > 1048576) = false := by simp; omega
    obtain ⟨r, b, h1, h2, h3⟩ := F21_eq hl
    have m1 : (markI 1 l.length).length = l.length := by simp [markI]
    have m2 : (markP 1 r.length).length = r.length := by simp [markP]
    have d2 : decide (1 + (l.length : Int) < 0) = false := by simp; omega
    have d3 : decide (1 + 2 * (r.length : Int) < 0) = false := by simp; omega
    simp only [d1, cond_false, cond_true, F22_eq hl, h1, h2, Option.bind_some, F15_eq (show r.length ≤ 1048576 by omega), F24_eq hl, F25_eq hl, F26_eq (show r.length ≤ 1048576 by omega), F27_eq (show r.length ≤ 1048576 by omega), m1, m2, d2, d3, beq_self_eq_true, Bool.not_true, bne_self_eq_false, decide_true]
  · have d1 : decide ((l.length : Int) > 1048576) = true := by simp; omega
    rw [d1]; rfl

def shs5 : List Sh := [.sl 8 (.int .i64)]
theorem fits5 : FitsL Try.prog [36] shs5 := by
  refine ⟨?_, trivial⟩
  exact .sl Try.underlying36 (by kernel_rfl) (by kernel_rfl) (.int (by kernel_rfl))

theorem own5 : ownKnob Try.prog.godebug = none := by kernel_rfl
theorem laid5 : laidOutB Try.prog = true := by kernel_rfl

set_option maxRecDepth 100000 in
theorem lifted5 (os : Os) (started : os.Started) (H : Type) (enc : TypeId × Value → H) :
    ReturnsInHanded {} Try.checked os 5 .any (Rows.fnExactRunsOfSpec.pre6 enc Try.prog Try.f5 Rows.fnExactRunsOfRow.domain false) (Rows.fnExactRunsOfSpec.post enc Try.prog Try.f5 false true false false) := by
  refine returnsInHanded_of_change_sized (C := Try.checked) own5 started (by kernel_rfl) Try.func5 (ChangeSpec.witness6 (enc := enc) (C := Try.checked) false ⟨#[], #[.slice none 0 0], []⟩ 8 (by kernel_rfl) (by kernel_rfl) (by kernel_rfl) (by kernel_rfl)) ?_
  intro W base args ds gs before hval hW hcnd hsz _
  exact law_contract (P := Try.prog) (cf := cf0) (ext := noExt) (F := fun x => F_5 x) (shs := shs5) (by kernel_rfl) (fun _ _ _ _ _ h => h.elim) OK5 (fun d hd => pure5 d hd.1.2) rfl rfl rfl (by kernel_rfl) fits5 laid5 (fun t ht => by cases List.mem_singleton.1 ht; exact ⟨by kernel_rfl, of_decide_eq_true (by kernel_rfl)⟩) rfl
    (fun ds hl => by
      match ds, hl with
      | [d], _ => rfl) hval hW hsz

theorem over5 : Rows.fnExactRunsOfRow.holds Try.pinned (OpenSpec.ofChange Rows.fnExactRunsOfSpec) :=
  OpenClaim.holds_of_wide 5 Try.f5 rfl rfl rfl rfl rfl rfl rfl ⟨rfl, rfl, rfl, rfl, rfl⟩ rfl rfl rfl rfl rfl (by kernel_rfl) Try.func5 (by kernel_rfl)
    (of_decide_eq_true (by kernel_rfl)) (by unfold Func.isWrapper; first | (rw [if_pos (by decide +kernel)]; kernel_rfl) | (rw [if_neg (by decide +kernel)]; exact ⟨rfl, rfl⟩))
    (fun os started H enc _ => lifted5 os started H enc)
end Go.Proofs.Ytcmihlhmeonmfaa.Ev
namespace Go.Proofs.Ytcmihlhmeonmfaa
theorem fnExactRunsOf_holds : Rows.FnExactRunsOfSaid := Ev.over5
#print axioms fnExactRunsOf_holds
end Go.Proofs.Ytcmihlhmeonmfaa
