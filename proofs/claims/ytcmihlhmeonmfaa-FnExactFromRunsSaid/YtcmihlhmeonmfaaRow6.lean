/- Whatever the rows of runs handed in, the law 'FnExactFromRuns' answers true: the two ways of laying runs out agree, neither changes what it is handed, and what they hand back is not shared. There are no further conditions. -/
import Derived.Test.YtcmihlhmeonmfaaLaw6
import Derived.Test.YtcmihlhmeonmfaaEvP
import Derived.Test.YtcmihlhmeonmfaaRows
import Derived.WalkKit
import Derived.ProofKit
import Derived.OpenShut
import Derived.ShutString
import Derived.ChangeOld
import Derived.Below
import Derived.SizedLaws
import Derived.Test.YtcmihlhmeonmfaaChecked
namespace Go.Proofs.Ytcmihlhmeonmfaa.Ev
open Go Go.RowKit Go.ChangeShapes Go.WideShapes Go.ChangeAt
set_option linter.unusedVariables false
set_option linter.unusedSimpArgs false

theorem F13_eq {l : List (Int × Int)} (h : l.length ≤ 1048576) : F_13 l = some l := by
  unfold F_13
  rw [lenI_nat (by unfold maxBytes; omega) (by unfold maxBytes; omega)]
  have := copy_loop (G := fun x : Int × Int => F_72 (x.1, x.2)) (H := fun y : Int × Int => (y.1, y.2)) (g := fun x => x) (z := ((0 : Int), (0 : Int))) (l := l) (by omega) (fun a _ => ⟨a, rfl, rfl⟩)
  rw [List.map_id'] at this
  simp only [Option.bind_some]
  have e : loopM (fun s : List (Int × Int) × List (Int × Int) × Int => B_13_0 s.1 s.2.1 s.2.2) (l, List.replicate l.length ((0 : Int), (0 : Int)), (0 : Int)) = some l := this
  rw [e]
  rfl

theorem F15_eq {l : List (Int × Int)} (h : l.length ≤ 1048576) : F_15 l l = some true := by
  unfold F_15
  obtain ⟨r, h1, h2, _⟩ := same_loop (E := fun a b : Int × Int => F_74 (a.1, a.2) (b.1, b.2)) (l := l) (m := l) (by omega) rfl (fun a _ b _ => by
    obtain ⟨a1, a2⟩ := a
    obtain ⟨b1, b2⟩ := b
    unfold F_74
    by_cases e1 : a1 = b1 <;> by_cases e2 : a2 = b2 <;> simp [bne, e1, e2, beq_eq_false_iff_ne.2])
  have e : loopM (fun s : List (Int × Int) × List (Int × Int) × Int => B_15_0 s.1 s.2.1 s.2.2) (l, l, (0 : Int)) = some r := h1
  rw [e, h2 rfl]
  simp

theorem within_eq (a b c : Int) : ∃ t, F_71 a b c = some t ∧ F_73 a b c = some t ∧ (t = true → b ≤ a ∧ a ≤ c) := by
  unfold F_71 F_73
  by_cases h : a ≥ b <;> simp [h]

theorem F12_eq {l : List (Int × Int)} (h : l.length ≤ 1048576) : ∃ t, F_12 l = some t ∧ F_14 l = some t ∧ (t = true → ∀ a ∈ l, 1 ≤ a.2 ∧ a.2 ≤ 100) := by
  have key := loop_two (f := fun s : List (Int × Int) × Int × List (Int × Int) × Int × Int => B_12_0 s.1 s.2.1 s.2.2.1 s.2.2.2.1 s.2.2.2.2) (g := fun s : List (Int × Int) × Int × List (Int × Int) × Int × Int => B_14_0 s.1 s.2.1 s.2.2.1 s.2.2.2.1 s.2.2.2.2)
    (I := fun s t => ∃ (k : Nat) (x : Int), s = (l, 100 - x, l, (l.length : Int), (k : Int)) ∧ t = (l, x, l, (l.length : Int), (k : Int)) ∧ k ≤ l.length ∧ 0 ≤ x ∧ x ≤ 100 ∧ ∀ (j : Nat) (a : Int × Int), j < k → l[j]? = some a → 1 ≤ a.2 ∧ a.2 ≤ 100) (R := fun r r' => r = r' ∧ ((r = .inl () ∧ ∀ a ∈ l, 1 ≤ a.2 ∧ a.2 ≤ 100) ∨ r = .inr false))
    (fun s => (s.2.2.2.1 - s.2.2.2.2).toNat) (by
      rintro s t ⟨k, x, rfl, rfl, hk, h0, h1, hj⟩
      unfold B_12_0 B_14_0
      by_cases hlt : k < l.length
      · have hd : decide ((k : Int) < (l.length : Int)) = true := by simpa using hlt
        have e1 : l[k]? = some l[k] := List.getElem?_eq_getElem hlt
        generalize l[k] = a at e1
        obtain ⟨t1, p1, p2, _⟩ := within_eq a.1 0 255
        obtain ⟨t2, p3, p4, p5⟩ := within_eq a.2 1 (100 - x)
        simp only [hd, cond_true, getI_nat, e1, Option.bind_some, p1, p2]
        rw [show IntKind.wrap .i64 (100 - x) = 100 - x from wrapI (by omega) (by omega)]
        simp only [p3, p4, Option.bind_some]
        cases t1 with
        | false => right; exact ⟨_, _, rfl, rfl, rfl, .inr rfl⟩
        | true =>
          cases t2 with
          | false => right; exact ⟨_, _, rfl, rfl, rfl, .inr rfl⟩
          | true =>
            obtain ⟨q1, q2⟩ := p5 rfl
            have w1 : IntKind.wrap .i64 (100 - x - a.2) = 100 - (x + a.2) := by rw [wrapI (by omega) (by omega)]; omega
            have w2 : IntKind.wrap .i64 (x + a.2) = x + a.2 := wrapI (by omega) (by omega)
            have w3 : IntKind.wrap .i64 ((k : Int) + 1) = ((k + 1 : Nat) : Int) := by rw [wrapI (by omega) (by omega)]; omega
            have go : ∃ s' t', (some (Sum.inl (l, IntKind.wrap .i64 (100 - x - a.2), l, (l.length : Int), IntKind.wrap .i64 ((k : Int) + 1))) : Option ((List (Int × Int) × Int × List (Int × Int) × Int × Int) ⊕ (Unit ⊕ Bool))) = some (.inl s') ∧
                (some (Sum.inl (l, IntKind.wrap .i64 (x + a.2), l, (l.length : Int), IntKind.wrap .i64 ((k : Int) + 1))) : Option ((List (Int × Int) × Int × List (Int × Int) × Int × Int) ⊕ (Unit ⊕ Bool))) = some (.inl t') ∧
                (∃ (k : Nat) (x : Int), s' = (l, 100 - x, l, (l.length : Int), (k : Int)) ∧ t' = (l, x, l, (l.length : Int), (k : Int)) ∧ k ≤ l.length ∧ 0 ≤ x ∧ x ≤ 100 ∧ ∀ (j : Nat) (a : Int × Int), j < k → l[j]? = some a → 1 ≤ a.2 ∧ a.2 ≤ 100) ∧ (s'.2.2.2.1 - s'.2.2.2.2).toNat < ((l.length : Int) - (k : Int)).toNat := by
              rw [w1, w2, w3]
              exact ⟨_, _, rfl, rfl, ⟨k + 1, x + a.2, rfl, rfl, hlt, by omega, by omega, fun j b hj' hb => by
                by_cases hjk : j = k
                · subst hjk; rw [e1] at hb; cases hb; omega
                · exact hj j b (by omega) hb⟩, by simp only; omega⟩
            by_cases hk0 : k = 0
            · subst hk0
              left
              exact go
            · have hd0 : decide ((k : Int) > 0) = true := by simp; omega
              have e2 : l[k - 1]? = some (l[k - 1]'(by omega)) := List.getElem?_eq_getElem (by omega)
              generalize (l[k - 1]'(by omega)) = c at e2
              have w4 : IntKind.wrap .i64 ((k : Int) - 1) = ((k - 1 : Nat) : Int) := by rw [wrapI (by omega) (by omega)]; omega
              rw [w4, hd0]
              simp only [getI_nat, e2, Option.bind_some, cond_true]
              by_cases hc : a.1 = c.1
              · right
                refine ⟨.inr false, .inr false, ?_, ?_, rfl, .inr rfl⟩ <;> simp [hc]
              · left
                have z1 : (c.1 == a.1) = false := by simp; omega
                have z2 : (a.1 == c.1) = false := by simp; omega
                rw [z1, z2]
                exact go
      · have hd : decide ((k : Int) < (l.length : Int)) = false := by simpa using hlt
        right
        simp only [hd, cond_false]
        exact ⟨_, _, rfl, rfl, rfl, .inl ⟨rfl, fun a ha => by
          obtain ⟨j, hja⟩ := List.getElem?_of_mem ha
          exact hj j a (by have := (List.getElem?_eq_some_iff.1 hja).1; omega) hja⟩⟩)
    (l, 100, l, (l.length : Int), 0) (l, 0, l, (l.length : Int), 0) ⟨0, 0, rfl, rfl, by omega, by omega, by omega, fun j a hj => by omega⟩
  obtain ⟨r, r', h1, h2, rfl, h3⟩ := key
  refine ⟨Sum.elim (fun _ => true) (fun b => b) r, ?_, ?_, fun ht => ?_⟩
  · unfold F_12
    rw [h1]
    cases r <;> rfl
  · unfold F_14
    rw [h2]
    cases r <;> rfl
  · rcases h3 with ⟨_, h4⟩ | h4
    · exact h4
    · subst h4; cases ht

theorem F24_eq {l : List Int} (h : l.length ≤ 104857600) : F_24 l l = some true := by
  unfold F_24
  obtain ⟨r, h1, h2, _⟩ := same_loop (E := fun a b : Int => some (a == b)) (l := l) (m := l) (by omega) rfl (fun a _ b _ => ⟨a == b, rfl, by simp⟩)
  have e : loopM (fun s : List Int × List Int × Int => B_24_0 s.1 s.2.1 s.2.2) (l, l, (0 : Int)) = some r := h1
  rw [e, h2 rfl]
  simp

theorem F25_eq {l : List Int} (hl : l.length ≤ 104857600) : F_25 l 1 = some (markI 1 l.length, 1 + (l.length : Int)) := by
  unfold F_25
  have e : loopM (fun s : List Int × Int × Int => B_25_0 s.1 s.2.1 s.2.2) (l, (1 : Int), (0 : Int)) = some (markI 1 l.length, 1 + (l.length : Int)) := markI_loop (by omega) (by omega) (by omega)
  rw [e]; rfl

theorem F26_eq {l : List (Int × Int)} (hl : l.length ≤ 1048576) : F_26 l 1 = some (markP 1 l.length, 1 + 2 * (l.length : Int)) := by
  unfold F_26
  have e : loopM (fun s : List (Int × Int) × Int × Int => B_26_0 s.1 s.2.1 s.2.2) (l, (1 : Int), (0 : Int)) = some (markP 1 l.length, 1 + 2 * (l.length : Int)) := markP_loop (by omega) (by omega) (by omega)
  rw [e]; rfl

def runG (a : Int × Int) : List Int := List.replicate a.2.toNat a.1

theorem inner86 {l : List (Int × Int)} {a : Int × Int} {s4 s5 : Int} : ∀ (n : Nat) (acc : List Int), acc.length + n ≤ 1099511627776 → loopM (fun (s : ((List Int) × ((Int × Int) × (Int × ((List (Int × Int)) × (Int × Int)))))) => B_86_1 s.1 s.2.1 s.2.2.1 s.2.2.2.1 s.2.2.2.2.1 s.2.2.2.2.2) (acc, a, (n : Int), l, s4, s5) = some (acc ++ List.replicate n a.1, l, s4, s5)
  | 0, acc, h => by
    refine loop_end ?_
    show B_86_1 acc a ((0 : Nat) : Int) l s4 s5 = _
    unfold B_86_1
    simp
  | n + 1, acc, h => by
    rw [loop_go (s' := (acc ++ [a.1], a, (n : Int), l, s4, s5)), inner86 n _ (by simp; omega)]
    · simp [List.replicate_succ]
    · show B_86_1 acc a ((n + 1 : Nat) : Int) l s4 s5 = _
      unfold B_86_1
      have hd : decide (((n + 1 : Nat) : Int) > 0) = true := decide_eq_true (by omega)
      have ea : appL 8 1 acc [a.1] = some (acc ++ [a.1]) := appL_is (by unfold maxBytes; simp; omega) (by unfold maxBytes; simp; omega)
      have w : IntKind.wrap .i64 (((n + 1 : Nat) : Int) - 1) = (n : Int) := by rw [wrapI (by omega) (by omega)]; omega
      simp only [hd, cond_true, ea, Option.bind_some, w]

theorem inner87 {l : List (Int × Int)} {a : Int × Int} {s3 s4 : Int} {N : Nat} : ∀ (n i : Nat) (acc : List Int), i + n = N → N < 4611686018427387904 → acc.length + n ≤ 1099511627776 → loopM (fun (s : ((List Int) × ((Int × Int) × ((List (Int × Int)) × (Int × (Int × (Int × Int))))))) => B_87_1 s.1 s.2.1 s.2.2.1 s.2.2.2.1 s.2.2.2.2.1 s.2.2.2.2.2.1 s.2.2.2.2.2.2) (acc, a, l, s3, s4, (N : Int), (i : Int)) = some (acc ++ List.replicate n a.1, l, s3, s4)
  | 0, i, acc, hi, hN, h => by
    refine loop_end ?_
    show B_87_1 acc a l s3 s4 (N : Int) (i : Int) = _
    unfold B_87_1
    have hd : decide ((i : Int) < (N : Int)) = false := decide_eq_false (by omega)
    simp only [hd, cond_false, List.replicate_zero, List.append_nil]
  | n + 1, i, acc, hi, hN, h => by
    rw [loop_go (s' := (acc ++ [a.1], a, l, s3, s4, (N : Int), ((i + 1 : Nat) : Int))), inner87 n (i + 1) _ (by omega) hN (by simp; omega)]
    · simp [List.replicate_succ]
    · show B_87_1 acc a l s3 s4 (N : Int) (i : Int) = _
      unfold B_87_1
      have hd : decide ((i : Int) < (N : Int)) = true := decide_eq_true (by omega)
      have ea : appL 8 1 acc [a.1] = some (acc ++ [a.1]) := appL_is (by unfold maxBytes; simp; omega) (by unfold maxBytes; simp; omega)
      simp only [hd, cond_true, ea, Option.bind_some, wrap1 (show i < 4611686018427387904 by omega)]

theorem flat_loop {l : List (Int × Int)} {body : List Int × List (Int × Int) × Int × Int → Option ((List Int × List (Int × Int) × Int × Int) ⊕ List Int)} (hgo : ∀ (k : Nat) (a : Int × Int) (acc : List Int), l[k]? = some a → acc.length ≤ 100 * k → body (acc, l, (l.length : Int), (k : Int)) = some (.inl (acc ++ runG a, l, (l.length : Int), ((k + 1 : Nat) : Int))))
    (hend : ∀ acc, body (acc, l, (l.length : Int), (l.length : Int)) = some (.inr acc)) (hg : ∀ a ∈ l, (runG a).length ≤ 100) : loopM body ([], l, (l.length : Int), 0) = some (l.flatMap runG) := by
  obtain ⟨r, h1, h2⟩ := loop_one (f := body) (I := fun s => ∃ k : Nat, s = ((l.take k).flatMap runG, l, (l.length : Int), (k : Int)) ∧ k ≤ l.length ∧ ((l.take k).flatMap runG).length ≤ 100 * k) (R := fun r => r = l.flatMap runG) (fun s => (s.2.2.1 - s.2.2.2).toNat) (by
      rintro s ⟨k, rfl, hk, hlen⟩
      by_cases hlt : k < l.length
      · left
        have e1 : l[k]? = some l[k] := List.getElem?_eq_getElem hlt
        have et : (l.take (k + 1)).flatMap runG = (l.take k).flatMap runG ++ runG l[k] := by
          rw [List.take_add_one, e1, List.flatMap_append]
          show _ ++ [l[k]].flatMap runG = _
          rw [List.flatMap_cons, List.flatMap_nil, List.append_nil]
        refine ⟨_, hgo k _ _ e1 hlen, ⟨k + 1, by rw [et], hlt, ?_⟩, by simp only; omega⟩
        rw [et, List.length_append]
        have := hg _ (List.getElem_mem hlt)
        omega
      · right
        have : k = l.length := by omega
        subst this
        exact ⟨_, hend _, by rw [List.take_length]⟩)
    ([], l, (l.length : Int), 0) ⟨0, by simp, by omega, by simp⟩
  rw [h1, h2]

theorem F86_eq {l : List (Int × Int)} (hl : l.length ≤ 1048576) (hg : ∀ a ∈ l, 1 ≤ a.2 ∧ a.2 ≤ 100) : F_86 l = some (l.flatMap runG) ∧ F_87 l = some (l.flatMap runG) := by
  have hmem : ∀ (k : Nat) (a : Int × Int), l[k]? = some a → a ∈ l := fun k a ha => List.mem_of_getElem? ha
  have hlen : ∀ a ∈ l, (runG a).length ≤ 100 := fun a ha => by have := hg a ha; simp [runG]; omega
  refine ⟨?_, ?_⟩
  · have e : loopM (fun s : List Int × List (Int × Int) × Int × Int => B_86_0 s.1 s.2.1 s.2.2.1 s.2.2.2) ([], l, (l.length : Int), 0) = some (l.flatMap runG) := flat_loop (fun k a acc ha hacc => by
        have hlt := (List.getElem?_eq_some_iff.1 ha).1
        have h1 := hg a (hmem k a ha)
        have hd : decide ((k : Int) < (l.length : Int)) = true := by simpa using hlt
        have hn : a.2 = ((a.2.toNat : Nat) : Int) := by omega
        show B_86_0 acc l (l.length : Int) (k : Int) = _
        unfold B_86_0
        simp only [hd, cond_true, getI_nat, ha, Option.bind_some]
        have := inner86 (l := l) (a := (a.1, a.2)) (s4 := (l.length : Int)) (s5 := (k : Int)) a.2.toNat acc (by omega)
        rw [← hn] at this
        rw [this]
        simp only [Option.bind_some, wrap1 (show k < 4611686018427387904 by omega)]
        rfl) (fun acc => by
        show B_86_0 acc l (l.length : Int) (l.length : Int) = _
        unfold B_86_0
        simp) hlen
    unfold F_86
    rw [e]; rfl
  · have e : loopM (fun s : List Int × List (Int × Int) × Int × Int => B_87_0 s.1 s.2.1 s.2.2.1 s.2.2.2) ([], l, (l.length : Int), 0) = some (l.flatMap runG) := flat_loop (fun k a acc ha hacc => by
        have hlt := (List.getElem?_eq_some_iff.1 ha).1
        have h1 := hg a (hmem k a ha)
        have hd : decide ((k : Int) < (l.length : Int)) = true := by simpa using hlt
        have hn : a.2 = ((a.2.toNat : Nat) : Int) := by omega
        show B_87_0 acc l (l.length : Int) (k : Int) = _
        unfold B_87_0
        simp only [hd, cond_true, getI_nat, ha, Option.bind_some]
        have := inner87 (l := l) (a := (a.1, a.2)) (s3 := (l.length : Int)) (s4 := (k : Int)) (N := a.2.toNat) a.2.toNat 0 acc (by omega) (by omega) (by omega)
        rw [← hn] at this
        have z : ((0 : Nat) : Int) = 0 := rfl
        rw [z] at this
        rw [this]
        simp only [Option.bind_some, wrap1 (show k < 4611686018427387904 by omega)]
        rfl) (fun acc => by
        show B_87_0 acc l (l.length : Int) (l.length : Int) = _
        unfold B_87_0
        simp) hlen
    unfold F_87
    rw [e]; rfl

theorem flat_len : ∀ (l : List (Int × Int)), (∀ a ∈ l, 1 ≤ a.2 ∧ a.2 ≤ 100) → (l.flatMap runG).length ≤ 100 * l.length
  | [], _ => by simp
  | a :: l, h => by
    have h1 := h a (by simp)
    have h2 := flat_len l fun b hb => h b (by simp [hb])
    have : (runG a).length ≤ 100 := by simp [runG]; omega
    rw [List.flatMap_cons, List.length_append, List.length_cons]
    omega

theorem F28_eq {l : List (Int × Int)} (hl : l.length ≤ 1048576) : ∃ r b, F_28 l = some (r, b) ∧ F_29 l = some (r, b) ∧ r.length ≤ 104857600 := by
  obtain ⟨t, h1, h2, h3⟩ := F12_eq hl
  unfold F_28 F_29
  rw [h1, h2]
  cases t with
  | false => exact ⟨[], false, rfl, rfl, by simp⟩
  | true =>
    obtain ⟨q1, q2⟩ := F86_eq hl (h3 rfl)
    have := flat_len l (h3 rfl)
    simp only [Option.bind_some, q1, q2]
    exact ⟨_, true, rfl, rfl, by omega⟩

theorem F30_eq {n : Nat} (hl : n ≤ 104857600) : F_30 (markI 1 n) 1 = some (1 + (n : Int)) := by
  unfold F_30
  have e : loopM (fun s : List Int × Int × Int => B_30_0 s.1 s.2.1 s.2.2) (markI 1 n, (1 : Int), (0 : Int)) = some (.inl (1 + (n : Int))) := heldI_loop (by omega) (by omega) (by omega)
  rw [e]; rfl

theorem pure6 (l : List (Int × Int)) (hb : l.length * 16 ≤ maxBytes) : F_6 l = some true := by
  unfold F_6
  have hb' : l.length * 16 ≤ 140737488355328 := by unfold maxBytes at hb; omega
  by_cases hl : l.length ≤ 1048576
  · have e11 : F_11 l 1048576 = some (1048576 - (l.length : Int)) := by
      unfold F_11
      rw [wrapI (by omega) (by omega)]
      have : decide (1048576 - (l.length : Int) < 0) = false := by simp; omega
      rw [this]; rfl
    have d1 : decide (1048576 - (l.length : Int) < 0) = false := by simp; omega
    obtain ⟨r, b, h1, h2, h3⟩ := F28_eq hl
    have m1 : (markI 1 r.length).length = r.length := by simp [markI]
    have m2 : (markP 1 l.length).length = l.length := by simp [markP]
    have d2 : decide (1 + (r.length : Int) < 0) = false := by simp; omega
    have d3 : decide (1 + 2 * (l.length : Int) < 0) = false := by simp; omega
    simp only [e11, d1, cond_false, cond_true, F13_eq hl, h1, h2, Option.bind_some, F15_eq hl, F24_eq h3, F25_eq h3, F26_eq hl, F30_eq h3, m1, m2, d2, d3, beq_self_eq_true, Bool.not_true, bne_self_eq_false, decide_true]
  · have e11 : F_11 l 1048576 = some (-1) := by
      unfold F_11
      rw [wrapI (by omega) (by omega)]
      have : decide (1048576 - (l.length : Int) < 0) = true := by simp; omega
      rw [this]; rfl
    rw [e11]
    rfl

def shs6 : List Sh := [.sl 16 (.pair (.int .i64) (.int .i64))]
theorem fits6 : FitsL Try.prog [22] shs6 := by
  refine ⟨?_, trivial⟩
  refine .sl Try.underlying22 (by kernel_rfl) (by kernel_rfl) ?_
  refine .st Try.underlying88 (by kernel_rfl) ?_
  exact .cons rfl (by kernel_rfl) (.int (by kernel_rfl)) (.one rfl (by kernel_rfl) (.int (by kernel_rfl)))

theorem own6 : ownKnob Try.prog.godebug = none := by kernel_rfl
theorem laid6 : laidOutB Try.prog = true := by kernel_rfl

set_option maxRecDepth 100000 in
theorem lifted6 (os : Os) (started : os.Started) (H : Type) (enc : TypeId × Value → H) :
    ReturnsInHanded {} Try.checked os 6 .any (Rows.fnExactFromRunsSpec.pre6 enc Try.prog Try.f6 Rows.fnExactFromRunsRow.domain false) (Rows.fnExactFromRunsSpec.post enc Try.prog Try.f6 false true false false) := by
  refine returnsInHanded_of_change_sized (C := Try.checked) own6 started (by kernel_rfl) Try.func6 (ChangeSpec.witness6 (enc := enc) (C := Try.checked) false ⟨#[], #[.slice none 0 0], []⟩ 8 (by kernel_rfl) (by kernel_rfl) (by kernel_rfl) (by kernel_rfl)) ?_
  intro W base args ds gs before hval hW hcnd hsz _
  exact law_contract (P := Try.prog) (cf := cf0) (ext := noExt) (F := fun x => F_6 x) (shs := shs6) (by kernel_rfl) (fun _ _ _ _ _ h => h.elim) OK6 (fun d hd => pure6 d hd.1.2) rfl rfl rfl (by kernel_rfl) fits6 laid6 (fun t ht => by cases List.mem_singleton.1 ht; exact ⟨by kernel_rfl, of_decide_eq_true (by kernel_rfl)⟩) rfl
    (fun ds hl => by
      match ds, hl with
      | [d], _ => rfl) hval hW hsz

theorem over6 : Rows.fnExactFromRunsRow.holds Try.pinned (OpenSpec.ofChange Rows.fnExactFromRunsSpec) :=
  OpenClaim.holds_of_wide 6 Try.f6 rfl rfl rfl rfl rfl rfl rfl ⟨rfl, rfl, rfl, rfl, rfl⟩ rfl rfl rfl rfl rfl (by kernel_rfl) Try.func6 (by kernel_rfl)
    (of_decide_eq_true (by kernel_rfl)) (by unfold Func.isWrapper; first | (rw [if_pos (by decide +kernel)]; kernel_rfl) | (rw [if_neg (by decide +kernel)]; exact ⟨rfl, rfl⟩))
    (fun os started H enc _ => lifted6 os started H enc)
end Go.Proofs.Ytcmihlhmeonmfaa.Ev
namespace Go.Proofs.Ytcmihlhmeonmfaa
theorem fnExactFromRuns_holds : Rows.FnExactFromRunsSaid := Ev.over6
#print axioms fnExactFromRuns_holds
end Go.Proofs.Ytcmihlhmeonmfaa
