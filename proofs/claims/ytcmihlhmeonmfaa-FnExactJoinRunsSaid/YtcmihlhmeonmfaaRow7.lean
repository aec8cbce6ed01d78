/- Whatever the rows of runs handed in, the law 'FnExactJoinRuns' answers true: the two ways of joining rows of runs agree, neither changes what it is handed, and what they hand back is not shared. There are no further conditions. -/
import Derived.Test.YtcmihlhmeonmfaaLaw7
import Derived.Test.YtcmihlhmeonmfaaEvP
import Derived.Test.YtcmihlhmeonmfaaRows
import Derived.WalkKit
import Derived.ProofKit
import Derived.OpenShut
import Derived.ShutString
import Derived.ChangeOld
import Derived.Below
import Derived.SizedLaws
import Derived.Test.YtcmihlhmeonmfaaChecked
namespace Go.Proofs.Ytcmihlhmeonmfaa.Ev
open Go Go.RowKit Go.ChangeShapes Go.WideShapes Go.ChangeAt
set_option linter.unusedVariables false
set_option linter.unusedSimpArgs false

theorem F13_eq {l : List (Int × Int)} (h : l.length ≤ 1048576) : F_13 l = some l := by
  unfold F_13
  rw [lenI_nat (by unfold maxBytes; omega) (by unfold maxBytes; omega)]
  have := copy_loop (G := fun x : Int × Int => F_72 (x.1, x.2)) (H := fun y : Int × Int => (y.1, y.2)) (g := fun x => x) (z := ((0 : Int), (0 : Int))) (l := l) (by omega) (fun a _ => ⟨a, rfl, rfl⟩)
  rw [List.map_id'] at this
  simp only [Option.bind_some]
  have e : loopM (fun s : List (Int × Int) × List (Int × Int) × Int => B_13_0 s.1 s.2.1 s.2.2) (l, List.replicate l.length ((0 : Int), (0 : Int)), (0 : Int)) = some l := this
  rw [e]
  rfl

theorem F15_eq {l : List (Int × Int)} (h : l.length ≤ 1048576) : F_15 l l = some true := by
  unfold F_15
  obtain ⟨r, h1, h2, _⟩ := same_loop (E := fun a b : Int × Int => F_74 (a.1, a.2) (b.1, b.2)) (l := l) (m := l) (by omega) rfl (fun a _ b _ => by
    obtain ⟨a1, a2⟩ := a
    obtain ⟨b1, b2⟩ := b
    unfold F_74
    by_cases e1 : a1 = b1 <;> by_cases e2 : a2 = b2 <;> simp [bne, e1, e2, beq_eq_false_iff_ne.2])
  have e : loopM (fun s : List (Int × Int) × List (Int × Int) × Int => B_15_0 s.1 s.2.1 s.2.2) (l, l, (0 : Int)) = some r := h1
  rw [e, h2 rfl]
  simp

theorem within_eq (a b c : Int) : ∃ t, F_71 a b c = some t ∧ F_73 a b c = some t ∧ (t = true → b ≤ a ∧ a ≤ c) := by
  unfold F_71 F_73
  by_cases h : a ≥ b <;> simp [h]

theorem F12_eq {l : List (Int × Int)} (h : l.length ≤ 1048576) : ∃ t, F_12 l = some t ∧ F_14 l = some t ∧ (t = true → ∀ a ∈ l, 1 ≤ a.2 ∧ a.2 ≤ 100) := by
  have key := loop_two (f := fun s : List (Int × Int) × Int × List (Int × Int) × Int × Int => B_12_0 s.1 s.2.1 s.2.2.1 s.2.2.2.1 s.2.2.2.2) (g := fun s : List (Int × Int) × Int × List (Int × Int) × Int × Int => B_14_0 s.1 s.2.1 s.2.2.1 s.2.2.2.1 s.2.2.2.2)
    (I := fun s t => ∃ (k : Nat) (x : Int), s = (l, 100 - x, l, (l.length : Int), (k : Int)) ∧ t = (l, x, l, (l.length : Int), (k : Int)) ∧ k ≤ l.length ∧ 0 ≤ x ∧ x ≤ 100 ∧ ∀ (j : Nat) (a : Int × Int), j < k → l[j]? = some a → 1 ≤ a.2 ∧ a.2 ≤ 100) (R := fun r r' => r = r' ∧ ((r = .inl () ∧ ∀ a ∈ l, 1 ≤ a.2 ∧ a.2 ≤ 100) ∨ r = .inr false))
    (fun s => (s.2.2.2.1 - s.2.2.2.2).toNat) (by
      rintro s t ⟨k, x, rfl, rfl, hk, h0, h1, hj⟩
      unfold B_12_0 B_14_0
      by_cases hlt : k < l.length
      · have hd : decide ((k : Int) < (l.length : Int)) = true := by simpa using hlt
        have e1 : l[k]? = some l[k] := List.getElem?_eq_getElem hlt
        generalize l[k] = a at e1
        obtain ⟨t1, p1, p2, _⟩ := within_eq a.1 0 255
        obtain ⟨t2, p3, p4, p5⟩ := within_eq a.2 1 (100 - x)
        simp only [hd, cond_true, getI_nat, e1, Option.bind_some, p1, p2]
        rw [show IntKind.wrap .i64 (100 - x) = 100 - x from wrapI (by omega) (by omega)]
        simp only [p3, p4, Option.bind_some]
        cases t1 with
        | false => right; exact ⟨_, _, rfl, rfl, rfl, .inr rfl⟩
        | true =>
          cases t2 with
          | false => right; exact ⟨_, _, rfl, rfl, rfl, .inr rfl⟩
          | true =>
            obtain ⟨q1, q2⟩ := p5 rfl
            have w1 : IntKind.wrap .i64 (100 - x - a.2) = 100 - (x + a.2) := by rw [wrapI (by omega) (by omega)]; omega
            have w2 : IntKind.wrap .i64 (x + a.2) = x + a.2 := wrapI (by omega) (by omega)
            have w3 : IntKind.wrap .i64 ((k : Int) + 1) = ((k + 1 : Nat) : Int) := by rw [wrapI (by omega) (by omega)]; omega
            have go : ∃ s' t', (some (Sum.inl (l, IntKind.wrap .i64 (100 - x - a.2), l, (l.length : Int), IntKind.wrap .i64 ((k : Int) + 1))) : Option ((List (Int × Int) × Int × List (Int × Int) × Int × Int) ⊕ (Unit ⊕ Bool))) = some (.inl s') ∧
                (some (Sum.inl (l, IntKind.wrap .i64 (x + a.2), l, (l.length : Int), IntKind.wrap .i64 ((k : Int) + 1))) : Option ((List (Int × Int) × Int × List (Int × Int) × Int × Int) ⊕ (Unit ⊕ Bool))) = some (.inl t') ∧
                (∃ (k : Nat) (x : Int), s' = (l, 100 - x, l, (l.length : Int), (k : Int)) ∧ t' = (l, x, l, (l.length : Int), (k : Int)) ∧ k ≤ l.length ∧ 0 ≤ x ∧ x ≤ 100 ∧ ∀ (j : Nat) (a : Int × Int), j < k → l[j]? = some a → 1 ≤ a.2 ∧ a.2 ≤ 100) ∧ (s'.2.2.2.1 - s'.2.2.2.2).toNat < ((l.length : Int) - (k : Int)).toNat := by
              rw [w1, w2, w3]
              exact ⟨_, _, rfl, rfl, ⟨k + 1, x + a.2, rfl, rfl, hlt, by omega, by omega, fun j b hj' hb => by
                by_cases hjk : j = k
                · subst hjk; rw [e1] at hb; cases hb; omega
                · exact hj j b (by omega) hb⟩, by simp only; omega⟩
            by_cases hk0 : k = 0
            · subst hk0
              left
              exact go
            · have hd0 : decide ((k : Int) > 0) = true := by simp; omega
              have e2 : l[k - 1]? = some (l[k - 1]'(by omega)) := List.getElem?_eq_getElem (by omega)
              generalize (l[k - 1]'(by omega)) = c at e2
              have w4 : IntKind.wrap .i64 ((k : Int) - 1) = ((k - 1 : Nat) : Int) := by rw [wrapI (by omega) (by omega)]; omega
              rw [w4, hd0]
              simp only [getI_nat, e2, Option.bind_some, cond_true]
              by_cases hc : a.1 = c.1
              · right
                refine ⟨.inr false, .inr false, ?_, ?_, rfl, .inr rfl⟩ <;> simp [hc]
              · left
                have z1 : (c.1 == a.1) = false := by simp; omega
                have z2 : (a.1 == c.1) = false := by simp; omega
                rw [z1, z2]
                exact go
      · have hd : decide ((k : Int) < (l.length : Int)) = false := by simpa using hlt
        right
        simp only [hd, cond_false]
        exact ⟨_, _, rfl, rfl, rfl, .inl ⟨rfl, fun a ha => by
          obtain ⟨j, hja⟩ := List.getElem?_of_mem ha
          exact hj j a (by have := (List.getElem?_eq_some_iff.1 hja).1; omega) hja⟩⟩)
    (l, 100, l, (l.length : Int), 0) (l, 0, l, (l.length : Int), 0) ⟨0, 0, rfl, rfl, by omega, by omega, by omega, fun j a hj => by omega⟩
  obtain ⟨r, r', h1, h2, rfl, h3⟩ := key
  refine ⟨Sum.elim (fun _ => true) (fun b => b) r, ?_, ?_, fun ht => ?_⟩
  · unfold F_12
    rw [h1]
    cases r <;> rfl
  · unfold F_14
    rw [h2]
    cases r <;> rfl
  · rcases h3 with ⟨_, h4⟩ | h4
    · exact h4
    · subst h4; cases ht

def okB (a : Int) : Bool := decide (0 ≤ a ∧ a ≤ 255)
theorem within_dec (a b c : Int) : F_71 a b c = some (decide (b ≤ a ∧ a ≤ c)) ∧ F_73 a b c = some (decide (b ≤ a ∧ a ≤ c)) := by
  unfold F_71 F_73
  by_cases h : a ≥ b <;> simp [h]

theorem F82_eq {l : List Int} (hl : l.length ≤ 4294967296) : F_82 l = some (l.all okB && decide (l.length ≤ 100)) ∧ F_84 l = some (l.all okB) := by
  have b1 := all_loop (body := fun s : List Int × List Int × Int × Int => B_82_0 s.1 s.2.1 s.2.2.1 s.2.2.2) (l := l) (st := fun k => (l, l, (l.length : Int), (k : Int))) (p := okB) (fin := Sum.inl l) (bad := fun _ => Sum.inr false)
    (fun k a ha hp => by
      have hlt := (List.getElem?_eq_some_iff.1 ha).1
      have hd : decide ((k : Int) < (l.length : Int)) = true := by simpa using hlt
      have hp' : decide (0 ≤ a ∧ a ≤ 255) = true := hp
      simp only [B_82_0, hd, cond_true, getI_nat, ha, Option.bind_some, (within_dec a 0 255).1, hp', wrap1 (show k < 4611686018427387904 by omega)]
      rfl)
    (fun k a ha hp => by
      have hlt := (List.getElem?_eq_some_iff.1 ha).1
      have hd : decide ((k : Int) < (l.length : Int)) = true := by simpa using hlt
      have hp' : decide (0 ≤ a ∧ a ≤ 255) = false := hp
      simp only [B_82_0, hd, cond_true, getI_nat, ha, Option.bind_some, (within_dec a 0 255).1, hp']
      rfl)
    (by simp [B_82_0])
  have b2 := all_loop (body := fun s : List Int × Int × Int => B_132_0 s.1 s.2.1 s.2.2) (l := l) (st := fun k => (l, (l.length : Int), (k : Int))) (p := okB) (fin := Sum.inl ()) (bad := fun k => Sum.inr (k : Int))
    (fun k a ha hp => by
      have hlt := (List.getElem?_eq_some_iff.1 ha).1
      have hd : decide ((k : Int) < (l.length : Int)) = true := by simpa using hlt
      have hp' : decide (0 ≤ a ∧ a ≤ 255) = true := hp
      simp only [B_132_0, F_121, hd, cond_true, getI_nat, ha, Option.bind_some, (within_dec a 0 255).2, hp', wrap1 (show k < 4611686018427387904 by omega)]
      rfl)
    (fun k a ha hp => by
      have hlt := (List.getElem?_eq_some_iff.1 ha).1
      have hd : decide ((k : Int) < (l.length : Int)) = true := by simpa using hlt
      have hp' : decide (0 ≤ a ∧ a ≤ 255) = false := hp
      simp only [B_132_0, F_121, hd, cond_true, getI_nat, ha, Option.bind_some, (within_dec a 0 255).2, hp']
      rfl)
    (by simp [B_132_0])
  have z : ((0 : Nat) : Int) = 0 := rfl
  rw [z] at b1 b2
  cases hp : l.all okB with
  | true =>
    refine ⟨?_, ?_⟩
    · unfold F_82
      rw [b1.1 hp]
      simp only [Option.bind_some, Sum.elim_inl, Bool.true_and]
      congr 1
      simp; omega
    · unfold F_84 F_120 F_132
      rw [b2.1 hp]
      rfl
  | false =>
    obtain ⟨k, _, e1⟩ := b1.2 hp
    obtain ⟨j, _, e2⟩ := b2.2 hp
    refine ⟨?_, ?_⟩
    · unfold F_82
      rw [e1]
      rfl
    · unfold F_84 F_120 F_132
      rw [e2]
      have : decide ((j : Int) ≥ 0) = true := by simp
      simp [this]

theorem F83_eq {l : List Int} (hl : l.length ≤ 100) : ∃ r, F_83 l = some r ∧ F_85 l = some r ∧ r.length ≤ 100 := by
  obtain ⟨r, r', h1, h2, h3, h4⟩ := loop_two (f := fun s : List (Int × Int) × List Int × Int × Int => B_83_0 s.1 s.2.1 s.2.2.1 s.2.2.2) (g := fun s : List (Int × Int) × List Int × Int × Int => B_85_0 s.1 s.2.1 s.2.2.1 s.2.2.2)
    (I := fun s t => ∃ (k : Nat) (acc : List (Int × Int)), s = (acc, l, (l.length : Int), (k : Int)) ∧ t = s ∧ k ≤ l.length ∧ acc.length ≤ k) (R := fun r r' => r = r' ∧ r.length ≤ 100)
    (fun s => (s.2.2.1 - s.2.2.2).toNat) (by
      rintro s t ⟨k, acc, rfl, rfl, hk, hacc⟩
      have hb : B_83_0 acc l (l.length : Int) (k : Int) = B_85_0 acc l (l.length : Int) (k : Int) := by
        unfold B_83_0 B_85_0
        rw [wrapI (by omega) (by omega)]
        have : decide ((acc.length : Int) > 0) = decide ((acc.length : Int) - 1 ≥ 0) := by
          rw [decide_eq_decide]; omega
        rw [this]
      simp only [hb]
      have fin : (∃ s', B_85_0 acc l (l.length : Int) (k : Int) = some (.inl s') ∧ (∃ (k : Nat) (acc : List (Int × Int)), s' = (acc, l, (l.length : Int), (k : Int)) ∧ k ≤ l.length ∧ acc.length ≤ k) ∧ (s'.2.2.1 - s'.2.2.2).toNat < ((l.length : Int) - (k : Int)).toNat) ∨ ∃ r, B_85_0 acc l (l.length : Int) (k : Int) = some (.inr r) ∧ r.length ≤ 100 := by
        unfold B_85_0
        by_cases hlt : k < l.length
        · left
          have hd : decide ((k : Int) < (l.length : Int)) = true := by simpa using hlt
          have e1 : l[k]? = some l[k] := List.getElem?_eq_getElem hlt
          generalize l[k] = a at e1
          have ea : appL 16 2 acc [(a, (1 : Int))] = some (acc ++ [(a, 1)]) := appL_is (by unfold maxBytes; simp; omega) (by unfold maxBytes; simp; omega)
          simp only [hd, cond_true, getI_nat, e1, Option.bind_some, wrap1 (show k < 4611686018427387904 by omega), ea]
          rw [show IntKind.wrap .i64 ((acc.length : Int) - 1) = (acc.length : Int) - 1 from wrapI (by omega) (by omega)]
          have app : ∃ s', (some (Sum.inl (acc ++ [(a, (1 : Int))], l, (l.length : Int), ((k + 1 : Nat) : Int))) : Option ((List (Int × Int) × List Int × Int × Int) ⊕ List (Int × Int))) = some (.inl s') ∧ (∃ (k : Nat) (acc : List (Int × Int)), s' = (acc, l, (l.length : Int), (k : Int)) ∧ k ≤ l.length ∧ acc.length ≤ k) ∧ (s'.2.2.1 - s'.2.2.2).toNat < ((l.length : Int) - (k : Int)).toNat :=
            ⟨_, rfl, ⟨k + 1, _, rfl, hlt, by simp; omega⟩, by simp only; omega⟩
          by_cases h0 : (acc.length : Int) - 1 ≥ 0
          · have hi : (acc.length : Int) - 1 = ((acc.length - 1 : Nat) : Int) := by omega
            have e2 : getN acc (acc.length - 1) = some (acc[acc.length - 1]'(by omega)) := List.getElem?_eq_getElem (by omega)
            generalize (acc[acc.length - 1]'(by omega)) = c at e2
            have hdd : decide ((acc.length : Int) - 1 ≥ 0) = true := by simpa using h0
            simp only [hdd, cond_true]
            rw [hi]
            simp only [idxI_nat (show acc.length - 1 < acc.length by omega), Option.bind_some, e2]
            cases hc : c.1 == a with
            | false => simp only [cond_false]; exact app
            | true =>
              simp only [cond_true]
              exact ⟨_, rfl, ⟨k + 1, _, rfl, hlt, by simp; omega⟩, by simp only; omega⟩
          · have hdd : decide ((acc.length : Int) - 1 ≥ 0) = false := by simpa using h0
            simp only [hdd, cond_false]
            exact app
        · right
          have hd : decide ((k : Int) < (l.length : Int)) = false := by simpa using hlt
          exact ⟨acc, by simp only [hd, cond_false], by omega⟩
      rcases fin with ⟨s', q1, ⟨k', acc', q2, q3, q4⟩, q5⟩ | ⟨r, q1, q2⟩
      · exact .inl ⟨s', s', q1, q1, ⟨k', acc', q2, rfl, q3, q4⟩, q5⟩
      · exact .inr ⟨r, r, q1, q1, rfl, q2⟩)
    ([], l, (l.length : Int), 0) ([], l, (l.length : Int), 0) ⟨0, [], rfl, rfl, by omega, by simp⟩
  subst h3
  refine ⟨r, ?_, ?_, h4⟩
  · unfold F_83
    rw [h1]; rfl
  · unfold F_85
    rw [h2]; rfl

theorem F21_eq {l : List Int} (hl : l.length ≤ 4294967296) : ∃ r b, F_21 l = some (r, b) ∧ F_23 l = some (r, b) ∧ r.length ≤ 100 := by
  obtain ⟨h1, h2⟩ := F82_eq hl
  unfold F_21 F_23
  rw [h1, h2]
  by_cases h100 : l.length ≤ 100
  · have d1 : decide (l.length ≤ 100) = true := by simpa using h100
    have d2 : decide ((l.length : Int) > 100) = false := by simp; omega
    simp only [d1, d2, Bool.and_true, cond_false, Option.bind_some]
    cases l.all okB with
    | false => exact ⟨[], false, rfl, rfl, by simp⟩
    | true =>
      obtain ⟨r, q1, q2, q3⟩ := F83_eq h100
      rw [q1, q2]
      exact ⟨r, true, rfl, rfl, q3⟩
  · have d1 : decide (l.length ≤ 100) = false := by simpa using h100
    have d2 : decide ((l.length : Int) > 100) = true := by simp; omega
    simp only [d1, d2, Bool.and_false, cond_true, Option.bind_some]
    exact ⟨[], false, rfl, rfl, by simp⟩

def runG (a : Int × Int) : List Int := List.replicate a.2.toNat a.1

theorem inner86 {l : List (Int × Int)} {a : Int × Int} {s4 s5 : Int} : ∀ (n : Nat) (acc : List Int), acc.length + n ≤ 1099511627776 → loopM (fun (s : ((List Int) × ((Int × Int) × (Int × ((List (Int × Int)) × (Int × Int)))))) => B_86_1 s.1 s.2.1 s.2.2.1 s.2.2.2.1 s.2.2.2.2.1 s.2.2.2.2.2) (acc, a, (n : Int), l, s4, s5) = some (acc ++ List.replicate n a.1, l, s4, s5)
  | 0, acc, h => by
    refine loop_end ?_
    show B_86_1 acc a ((0 : Nat) : Int) l s4 s5 = _
    unfold B_86_1
    simp
  | n + 1, acc, h => by
    rw [loop_go (s' := (acc ++ [a.1], a, (n : Int), l, s4, s5)), inner86 n _ (by simp; omega)]
    · simp [List.replicate_succ]
    · show B_86_1 acc a ((n + 1 : Nat) : Int) l s4 s5 = _
      unfold B_86_1
      have hd : decide (((n + 1 : Nat) : Int) > 0) = true := decide_eq_true (by omega)
      have ea : appL 8 1 acc [a.1] = some (acc ++ [a.1]) := appL_is (by unfold maxBytes; simp; omega) (by unfold maxBytes; simp; omega)
      have w : IntKind.wrap .i64 (((n + 1 : Nat) : Int) - 1) = (n : Int) := by rw [wrapI (by omega) (by omega)]; omega
      simp only [hd, cond_true, ea, Option.bind_some, w]

theorem inner87 {l : List (Int × Int)} {a : Int × Int} {s3 s4 : Int} {N : Nat} : ∀ (n i : Nat) (acc : List Int), i + n = N → N < 4611686018427387904 → acc.length + n ≤ 1099511627776 → loopM (fun (s : ((List Int) × ((Int × Int) × ((List (Int × Int)) × (Int × (Int × (Int × Int))))))) => B_87_1 s.1 s.2.1 s.2.2.1 s.2.2.2.1 s.2.2.2.2.1 s.2.2.2.2.2.1 s.2.2.2.2.2.2) (acc, a, l, s3, s4, (N : Int), (i : Int)) = some (acc ++ List.replicate n a.1, l, s3, s4)
  | 0, i, acc, hi, hN, h => by
    refine loop_end ?_
    show B_87_1 acc a l s3 s4 (N : Int) (i : Int) = _
    unfold B_87_1
    have hd : decide ((i : Int) < (N : Int)) = false := decide_eq_false (by omega)
    simp only [hd, cond_false, List.replicate_zero, List.append_nil]
  | n + 1, i, acc, hi, hN, h => by
    rw [loop_go (s' := (acc ++ [a.1], a, l, s3, s4, (N : Int), ((i + 1 : Nat) : Int))), inner87 n (i + 1) _ (by omega) hN (by simp; omega)]
    · simp [List.replicate_succ]
    · show B_87_1 acc a l s3 s4 (N : Int) (i : Int) = _
      unfold B_87_1
      have hd : decide ((i : Int) < (N : Int)) = true := decide_eq_true (by omega)
      have ea : appL 8 1 acc [a.1] = some (acc ++ [a.1]) := appL_is (by unfold maxBytes; simp; omega) (by unfold maxBytes; simp; omega)
      simp only [hd, cond_true, ea, Option.bind_some, wrap1 (show i < 4611686018427387904 by omega)]

theorem flat_loop {l : List (Int × Int)} {body : List Int × List (Int × Int) × Int × Int → Option ((List Int × List (Int × Int) × Int × Int) ⊕ List Int)} (hgo : ∀ (k : Nat) (a : Int × Int) (acc : List Int), l[k]? = some a → acc.length ≤ 100 * k → body (acc, l, (l.length : Int), (k : Int)) = some (.inl (acc ++ runG a, l, (l.length : Int), ((k + 1 : Nat) : Int))))
    (hend : ∀ acc, body (acc, l, (l.length : Int), (l.length : Int)) = some (.inr acc)) (hg : ∀ a ∈ l, (runG a).length ≤ 100) : loopM body ([], l, (l.length : Int), 0) = some (l.flatMap runG) := by
  obtain ⟨r, h1, h2⟩ := loop_one (f := body) (I := fun s => ∃ k : Nat, s = ((l.take k).flatMap runG, l, (l.length : Int), (k : Int)) ∧ k ≤ l.length ∧ ((l.take k).flatMap runG).length ≤ 100 * k) (R := fun r => r = l.flatMap runG) (fun s => (s.2.2.1 - s.2.2.2).toNat) (by
      rintro s ⟨k, rfl, hk, hlen⟩
      by_cases hlt : k < l.length
      · left
        have e1 : l[k]? = some l[k] := List.getElem?_eq_getElem hlt
        have et : (l.take (k + 1)).flatMap runG = (l.take k).flatMap runG ++ runG l[k] := by
          rw [List.take_add_one, e1, List.flatMap_append]
          show _ ++ [l[k]].flatMap runG = _
          rw [List.flatMap_cons, List.flatMap_nil, List.append_nil]
        refine ⟨_, hgo k _ _ e1 hlen, ⟨k + 1, by rw [et], hlt, ?_⟩, by simp only; omega⟩
        rw [et, List.length_append]
        have := hg _ (List.getElem_mem hlt)
        omega
      · right
        have : k = l.length := by omega
        subst this
        exact ⟨_, hend _, by rw [List.take_length]⟩)
    ([], l, (l.length : Int), 0) ⟨0, by simp, by omega, by simp⟩
  rw [h1, h2]

theorem F86_eq {l : List (Int × Int)} (hl : l.length ≤ 1048576) (hg : ∀ a ∈ l, 1 ≤ a.2 ∧ a.2 ≤ 100) : F_86 l = some (l.flatMap runG) ∧ F_87 l = some (l.flatMap runG) := by
  have hmem : ∀ (k : Nat) (a : Int × Int), l[k]? = some a → a ∈ l := fun k a ha => List.mem_of_getElem? ha
  have hlen : ∀ a ∈ l, (runG a).length ≤ 100 := fun a ha => by have := hg a ha; simp [runG]; omega
  refine ⟨?_, ?_⟩
  · have e : loopM (fun s : List Int × List (Int × Int) × Int × Int => B_86_0 s.1 s.2.1 s.2.2.1 s.2.2.2) ([], l, (l.length : Int), 0) = some (l.flatMap runG) := flat_loop (fun k a acc ha hacc => by
        have hlt := (List.getElem?_eq_some_iff.1 ha).1
        have h1 := hg a (hmem k a ha)
        have hd : decide ((k : Int) < (l.length : Int)) = true := by simpa using hlt
        have hn : a.2 = ((a.2.toNat : Nat) : Int) := by omega
        show B_86_0 acc l (l.length : Int) (k : Int) = _
        unfold B_86_0
        simp only [hd, cond_true, getI_nat, ha, Option.bind_some]
        have := inner86 (l := l) (a := (a.1, a.2)) (s4 := (l.length : Int)) (s5 := (k : Int)) a.2.toNat acc (by omega)
        rw [← hn] at this
        rw [this]
        simp only [Option.bind_some, wrap1 (show k < 4611686018427387904 by omega)]
        rfl) (fun acc => by
        show B_86_0 acc l (l.length : Int) (l.length : Int) = _
        unfold B_86_0
        simp) hlen
    unfold F_86
    rw [e]; rfl
  · have e : loopM (fun s : List Int × List (Int × Int) × Int × Int => B_87_0 s.1 s.2.1 s.2.2.1 s.2.2.2) ([], l, (l.length : Int), 0) = some (l.flatMap runG) := flat_loop (fun k a acc ha hacc => by
        have hlt := (List.getElem?_eq_some_iff.1 ha).1
        have h1 := hg a (hmem k a ha)
        have hd : decide ((k : Int) < (l.length : Int)) = true := by simpa using hlt
        have hn : a.2 = ((a.2.toNat : Nat) : Int) := by omega
        show B_87_0 acc l (l.length : Int) (k : Int) = _
        unfold B_87_0
        simp only [hd, cond_true, getI_nat, ha, Option.bind_some]
        have := inner87 (l := l) (a := (a.1, a.2)) (s3 := (l.length : Int)) (s4 := (k : Int)) (N := a.2.toNat) a.2.toNat 0 acc (by omega) (by omega) (by omega)
        rw [← hn] at this
        have z : ((0 : Nat) : Int) = 0 := rfl
        rw [z] at this
        rw [this]
        simp only [Option.bind_some, wrap1 (show k < 4611686018427387904 by omega)]
        rfl) (fun acc => by
        show B_87_0 acc l (l.length : Int) (l.length : Int) = _
        unfold B_87_0
        simp) hlen
    unfold F_87
    rw [e]; rfl

theorem flat_len : ∀ (l : List (Int × Int)), (∀ a ∈ l, 1 ≤ a.2 ∧ a.2 ≤ 100) → (l.flatMap runG).length ≤ 100 * l.length
  | [], _ => by simp
  | a :: l, h => by
    have h1 := h a (by simp)
    have h2 := flat_len l fun b hb => h b (by simp [hb])
    have : (runG a).length ≤ 100 := by simp [runG]; omega
    rw [List.flatMap_cons, List.length_append, List.length_cons]
    omega

theorem F26_eq {l : List (Int × Int)} {b : Int} (hl : l.length ≤ 1048576) (h0 : 0 ≤ b) (h1 : b ≤ 1099511627775) : F_26 l b = some (markP b l.length, b + 2 * (l.length : Int)) := by
  unfold F_26
  have e : loopM (fun s : List (Int × Int) × Int × Int => B_26_0 s.1 s.2.1 s.2.2) (l, b, (0 : Int)) = some (markP b l.length, b + 2 * (l.length : Int)) := markP_loop (by omega) (by omega) (by omega)
  rw [e]; rfl

theorem F27_eq {n : Nat} (hl : n ≤ 1048576) : F_27 (markP 1 n) 1 = some (1 + 2 * (n : Int)) := by
  unfold F_27
  have e : loopM (fun s : List (Int × Int) × Int × Int => B_27_0 s.1 s.2.1 s.2.2) (markP 1 n, (1 : Int), (0 : Int)) = some (.inl (1 + 2 * (n : Int))) := heldP_loop (by omega) (by omega) (by omega)
  rw [e]; rfl

theorem F31_eq {l m : List (Int × Int)} (hl : l.length ≤ 1048576) (hm : m.length ≤ 1048576) : ∃ r b, F_31 l m = some (r, b) ∧ F_32 l m = some (r, b) ∧ r.length ≤ 100 := by
  obtain ⟨t, h1, h2, h3⟩ := F12_eq hl
  obtain ⟨u, g1, g2, g3⟩ := F12_eq hm
  unfold F_31 F_32
  rw [h1, h2, g1, g2]
  cases t with
  | false => exact ⟨[], false, rfl, rfl, by simp⟩
  | true =>
    cases u with
    | false => exact ⟨[], false, rfl, rfl, by simp⟩
    | true =>
      obtain ⟨q1, q2⟩ := F86_eq hl (h3 rfl)
      obtain ⟨p1, p2⟩ := F86_eq hm (g3 rfl)
      have e1 := flat_len l (h3 rfl)
      have e2 := flat_len m (g3 rfl)
      have ea : appL 8 1 (l.flatMap runG) (m.flatMap runG) = some (l.flatMap runG ++ m.flatMap runG) := appL_is (by unfold maxBytes; omega) (by unfold maxBytes; omega)
      obtain ⟨r, b, f1, f2, f3⟩ := F21_eq (l := l.flatMap runG ++ m.flatMap runG) (by rw [List.length_append]; omega)
      simp only [Option.bind_some, q1, q2, p1, p2, ea, f1, f2, Bool.not_true, cond_false]
      exact ⟨r, b, rfl, rfl, f3⟩

theorem F11_eq {l : List (Int × Int)} {c : Int} (hb : l.length * 16 ≤ maxBytes) (h0 : 0 ≤ c) (h1 : c ≤ 1048576) : F_11 l c = some (if c - (l.length : Int) < 0 then -1 else c - (l.length : Int)) := by
  have hb' : l.length * 16 ≤ 140737488355328 := by unfold maxBytes at hb; omega
  unfold F_11
  rw [wrapI (by omega) (by omega)]
  by_cases h : c - (l.length : Int) < 0
  · rw [if_pos h, decide_eq_true h]; rfl
  · rw [if_neg h, decide_eq_false h]; rfl

theorem pure7 (l m : List (Int × Int)) (hb : l.length * 16 ≤ maxBytes) (hc : m.length * 16 ≤ maxBytes) : F_7 l m = some true := by
  unfold F_7
  rw [F11_eq hb (by omega) (by omega)]
  by_cases hl : (1048576 : Int) - (l.length : Int) < 0
  · rw [if_pos hl]; rfl
  · rw [if_neg hl]
    have d0 : decide ((1048576 : Int) - (l.length : Int) < 0) = false := decide_eq_false hl
    simp only [Option.bind_some, d0, cond_false]
    rw [F11_eq hc (by omega) (by omega)]
    by_cases hm : (1048576 : Int) - (l.length : Int) - (m.length : Int) < 0
    · rw [if_pos hm]; rfl
    · rw [if_neg hm]
      have d1 : decide ((1048576 : Int) - (l.length : Int) - (m.length : Int) < 0) = false := decide_eq_false hm
      have hl' : l.length ≤ 1048576 := by omega
      have hm' : m.length ≤ 1048576 := by omega
      obtain ⟨r, b, h1, h2, h3⟩ := F31_eq hl' hm'
      have hr : r.length ≤ 1048576 := by omega
      have m1 : ∀ (b : Int) (n : Nat), (markP b n).length = n := by intro b n; simp [markP]
      have d2 : decide (1 + 2 * (r.length : Int) < 0) = false := decide_eq_false (by omega)
      have d3 : decide (1 + 2 * (l.length : Int) + 2 * (m.length : Int) < 0) = false := decide_eq_false (by omega)
      simp only [d1, cond_false, cond_true, F13_eq hl', F13_eq hm', h1, h2, Option.bind_some, F15_eq hr, F15_eq hl', F15_eq hm', F26_eq (b := 1) hl' (by omega) (by omega), F26_eq (b := 1) hr (by omega) (by omega), F26_eq (b := 1 + 2 * (l.length : Int)) hm' (by omega) (by omega), F27_eq hr, m1, d2, d3, beq_self_eq_true, Bool.not_true, bne_self_eq_false, decide_true]

def shs7 : List Sh := [.sl 16 (.pair (.int .i64) (.int .i64)), .sl 16 (.pair (.int .i64) (.int .i64))]
theorem fits7a : Fits Try.prog 22 (.sl 16 (.pair (.int .i64) (.int .i64))) := by
  refine .sl Try.underlying22 (by kernel_rfl) (by kernel_rfl) ?_
  refine .st Try.underlying88 (by kernel_rfl) ?_
  exact .cons rfl (by kernel_rfl) (.int (by kernel_rfl)) (.one rfl (by kernel_rfl) (.int (by kernel_rfl)))
theorem read22 : Try.prog.readableRec 22 = true ∧ 22 < Try.prog.types.size := ⟨by kernel_rfl, of_decide_eq_true (by kernel_rfl)⟩
theorem read7 : ∀ t ∈ [22, 22], Try.prog.readableRec t = true ∧ t < Try.prog.types.size := by
  intro t ht
  have : t = 22 := by simpa using ht
  subst this
  exact read22
theorem fits7 : FitsL Try.prog [22, 22] shs7 := ⟨fits7a, fits7a, trivial⟩

theorem own7 : ownKnob Try.prog.godebug = none := by kernel_rfl
theorem laid7 : laidOutB Try.prog = true := by kernel_rfl

set_option maxRecDepth 100000 in
theorem lifted7 (os : Os) (started : os.Started) (H : Type) (enc : TypeId × Value → H) :
    ReturnsInHanded {} Try.checked os 7 .any (Rows.fnExactJoinRunsSpec.pre6 enc Try.prog Try.f7 Rows.fnExactJoinRunsRow.domain false) (Rows.fnExactJoinRunsSpec.post enc Try.prog Try.f7 false true false false) := by
  refine returnsInHanded_of_change_sized (C := Try.checked) own7 started (by kernel_rfl) Try.func7 (ChangeSpec.witness6 (enc := enc) (C := Try.checked) false ⟨#[], #[.slice none 0 0, .slice none 0 0], []⟩ 8 (by kernel_rfl) (by kernel_rfl) (by kernel_rfl) (by kernel_rfl)) ?_
  intro W base args ds gs before hval hW hcnd hsz _
  exact law_contract (P := Try.prog) (cf := cf0) (ext := noExt) (F := fun x => F_7 x.1 x.2) (shs := shs7) (by kernel_rfl) (fun _ _ _ _ _ h => h.elim) OK7 (fun d hd => pure7 d.1 d.2 hd.1.2 hd.2.1.2) rfl rfl rfl (by kernel_rfl) fits7 laid7 read7 rfl
    (fun ds hl => by
      match ds, hl with
      | [d, d'], _ => rfl) hval hW hsz

theorem over7 : Rows.fnExactJoinRunsRow.holds Try.pinned (OpenSpec.ofChange Rows.fnExactJoinRunsSpec) :=
  OpenClaim.holds_of_wide 7 Try.f7 rfl rfl rfl rfl rfl rfl rfl ⟨rfl, rfl, rfl, rfl, rfl⟩ rfl rfl rfl rfl rfl (by kernel_rfl) Try.func7 (by kernel_rfl)
    (of_decide_eq_true (by kernel_rfl)) (by unfold Func.isWrapper; first | (rw [if_pos (by decide +kernel)]; kernel_rfl) | (rw [if_neg (by decide +kernel)]; exact ⟨rfl, rfl⟩))
    (fun os started H enc _ => lifted7 os started H enc)
end Go.Proofs.Ytcmihlhmeonmfaa.Ev
namespace Go.Proofs.Ytcmihlhmeonmfaa
theorem fnExactJoinRuns_holds : Rows.FnExactJoinRunsSaid := Ev.over7
#print axioms fnExactJoinRuns_holds
end Go.Proofs.Ytcmihlhmeonmfaa
