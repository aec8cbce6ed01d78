/- Rows of runs: when they are good, and their text. -/
import Derived.Test.YtnhibkgoinnmcaaDoorCPuCopy
import Derived.Test.YtnhibkgoinnmcaaDoorCLawFnExactReadRuns
import Derived.Lib.ItoaNum
import Derived.Lib.ItoaLen
import Derived.Lib.Join
namespace Go.Proofs.YtnhibkgoinnmcaaDoor.Ev
open Go
set_option linter.unusedVariables false
set_option linter.unusedSimpArgs false
set_option linter.unusedSectionVars false
abbrev Rn := Int × Int

/-! ### good runs -/
def gStep (b : Int × Option Int) (r : Rn) : (Unit ⊕ Bool) ⊕ (Int × Option Int) := if 0 ≤ r.1 ∧ r.1 ≤ 255 ∧ 1 ≤ r.2 ∧ r.2 ≤ b.1 ∧ b.2 ≠ some r.1 then .inr (b.1 - r.2, some r.1) else .inl (.inr false)
def goodR (l : List Rn) : Bool := match foldX gStep (100, none) l with | .inl _ => false | .inr _ => true

theorem gStep_facts : ∀ (l : List Rn) (b b' : Int × Option Int), 0 ≤ b.1 → foldX gStep b l = .inr b' → (∀ r ∈ l, 0 ≤ r.1 ∧ r.1 ≤ 255 ∧ 1 ≤ r.2 ∧ r.2 ≤ b.1) ∧ (l.length : Int) ≤ b.1
  | [], b, b', h0, _ => ⟨fun r hr => absurd hr List.not_mem_nil, by simpa using h0⟩
  | r :: l, b, b', h0, h => by
    unfold foldX gStep at h
    split at h
    · cases h
    · rename_i b1 h1
      split at h1
      · rename_i hc
        cases h1
        obtain ⟨h2, h3⟩ := gStep_facts l _ b' (by simp only; omega) h
        refine ⟨fun x hx => ?_, by simp only [List.length_cons] at h3 ⊢; omega⟩
        rcases List.mem_cons.1 hx with rfl | hx
        · omega
        · have := h2 x hx
          simp only at this
          omega
      · cases h1

theorem goodR_facts {l : List Rn} (h : goodR l = true) : (∀ r ∈ l, 0 ≤ r.1 ∧ r.1 ≤ 255 ∧ 1 ≤ r.2 ∧ r.2 ≤ 100) ∧ l.length ≤ 100 := by
  unfold goodR at h
  split at h
  · cases h
  · rename_i b' hb
    obtain ⟨h1, h2⟩ := gStep_facts l (100, none) b' (by simp) hb
    exact ⟨h1, by simp only at h2; omega⟩

def prevR (l : List Rn) (k : Nat) : Option Int := if k = 0 then none else (l[k - 1]?).map (·.1)

theorem s_In {a b c : Int} : F_s_l1In a b c = some (decide (b ≤ a ∧ a ≤ c)) := by
  unfold F_s_l1In
  by_cases h : a ≥ b
  · rw [decide_eq_true h, cT]; congr 1; simp; omega
  · rw [decide_eq_false h, cF]; congr 1; simp; omega
theorem i_In {a b c : Int} : F_i_within a b c = some (decide (b ≤ a ∧ a ≤ c)) := by
  unfold F_i_within
  by_cases h : a ≥ b
  · rw [decide_eq_true h, cT]; congr 1; simp; omega
  · rw [decide_eq_false h, cF]; congr 1; simp; omega

theorem s_GoodRuns {l : List Rn} (hl : l.length < 4611686018427387904) : F_s_GoodRuns l = some (goodR l) := by
  unfold F_s_GoodRuns
  obtain ⟨h, _⟩ := try_loop (body := fun (s : (List Rn × (Int × (List Rn × (Int × Int))))) => B_s_GoodRuns_0 s.1 s.2.1 s.2.2.1 s.2.2.2.1 s.2.2.2.2) (l := l)
    (fun k (b : Int × Option Int) => (l, b.1, l, (l.length : Int), (k : Int))) gStep (fun _ => .inl ()) (fun k b => b.2 = prevR l k ∧ 0 ≤ b.1 ∧ b.1 ≤ 100) (by
      rintro k ⟨left, p⟩ r hk ⟨hp, h0, h1⟩
      have hlt := getL hk
      simp only at hp h0 h1
      unfold B_s_GoodRuns_0
      simp only
      rw [decide_eq_true (show (k : Int) < (l.length : Int) by omega), cT, getI_nat, hk, obs, s_In, obs, s_In]
      by_cases c1 : 0 ≤ r.1 ∧ r.1 ≤ 255
      · rw [decide_eq_true c1, nT, cF, obs]
        by_cases c2 : 1 ≤ r.2 ∧ r.2 ≤ left
        · rw [decide_eq_true c2, nT, cF, wrapI (n := left - r.2) (by omega) (by omega), wrap1 (by omega)]
          by_cases hk0 : k = 0
          · subst hk0
            left
            refine ⟨(left - r.2, some r.1), ?_, rfl, ?_, by simp only; omega, by simp only; omega⟩
            · unfold gStep
              rw [if_pos]
              refine ⟨c1.1, c1.2, c2.1, c2.2, ?_⟩
              rw [hp]; simp [prevR]
            · simp [prevR, hk]
          · obtain ⟨c, hc⟩ : ∃ c, l[k - 1]? = some c := ⟨_, List.getElem?_eq_getElem (by omega)⟩
            have hpc : p = some c.1 := by rw [hp]; simp [prevR, hk0, hc]
            rw [decide_eq_true (by omega), cT, wrapI (by omega) (by omega), show (k : Int) - 1 = ((k - 1 : Nat) : Int) by omega, getI_nat, hc, obs]
            by_cases c3 : c.1 = r.1
            · right
              refine ⟨.inr false, ?_, ?_⟩
              · unfold gStep
                rw [if_neg]
                rintro ⟨_, _, _, _, h⟩
                exact h (by simp only [hpc, c3])
              · rw [show (c.1 == r.1) = true by simpa using c3]; rfl
            · left
              refine ⟨(left - r.2, some r.1), ?_, ?_, ?_, by simp only; omega, by simp only; omega⟩
              · unfold gStep
                rw [if_pos]
                refine ⟨c1.1, c1.2, c2.1, c2.2, ?_⟩
                simp only [hpc]
                intro h
                exact c3 (Option.some.inj h)
              · rw [show (c.1 == r.1) = false by simpa using c3]; rfl
              · simp [prevR, hk]
        · right
          refine ⟨.inr false, ?_, ?_⟩
          · unfold gStep
            rw [if_neg]
            rintro ⟨_, _, h2, h3, _⟩
            exact c2 ⟨h2, h3⟩
          · rw [decide_eq_false c2]; rfl
      · right
        refine ⟨.inr false, ?_, ?_⟩
        · unfold gStep
          rw [if_neg]
          rintro ⟨h2, h3, _⟩
          exact c1 ⟨h2, h3⟩
        · rw [decide_eq_false c1]; rfl) (by
      rintro ⟨left, p⟩ _
      unfold B_s_GoodRuns_0
      simp) (100, none) ⟨rfl, by simp, by simp⟩
  have h' : loopM (fun (s : (List Rn × (Int × (List Rn × (Int × Int))))) => B_s_GoodRuns_0 s.1 s.2.1 s.2.2.1 s.2.2.2.1 s.2.2.2.2) (l, (100 : Int), l, (l.length : Int), (0 : Int)) = _ := h
  rw [h', obs]
  unfold goodR
  have hx : ∀ (l : List Rn) b r, foldX gStep b l = .inl r → r = .inr false := by
    intro l
    induction l with
    | nil => intro b r h; cases h
    | cons a l ih =>
      intro b r h
      unfold foldX gStep at h
      split at h
      · rename_i h1
        split at h1
        · cases h1
        · cases h1; cases h; rfl
      · exact ih _ _ h
  cases hz : foldX gStep (100, none) l with
  | inl r => rw [hx _ _ _ hz]; rfl
  | inr b => rfl

theorem i_GoodRuns {l : List Rn} (hl : l.length < 4611686018427387904) : F_i_GoodRuns l = some (goodR l) := by
  unfold F_i_GoodRuns
  obtain ⟨h, _⟩ := try_loop (body := fun (s : (List Rn × (Int × (List Rn × (Int × Int))))) => B_i_GoodRuns_0 s.1 s.2.1 s.2.2.1 s.2.2.2.1 s.2.2.2.2) (l := l)
    (fun k (b : Int × Option Int) => (l, 100 - b.1, l, (l.length : Int), (k : Int))) gStep (fun _ => .inl ()) (fun k b => b.2 = prevR l k ∧ 0 ≤ b.1 ∧ b.1 ≤ 100) (by
      rintro k ⟨left, p⟩ r hk ⟨hp, h0, h1⟩
      have hlt := getL hk
      simp only at hp h0 h1
      unfold B_i_GoodRuns_0
      simp only
      rw [decide_eq_true (show (k : Int) < (l.length : Int) by omega), cT, getI_nat, hk, obs, i_In, obs, wrapI (n := 100 - (100 - left)) (by omega) (by omega), show 100 - (100 - left) = left by omega, i_In]
      by_cases c1 : 0 ≤ r.1 ∧ r.1 ≤ 255
      · rw [decide_eq_true c1, nT, cF, obs]
        by_cases c2 : 1 ≤ r.2 ∧ r.2 ≤ left
        · rw [decide_eq_true c2, nT, cF, wrapI (n := 100 - left + r.2) (by omega) (by omega), wrap1 (by omega)]
          by_cases hk0 : k = 0
          · subst hk0
            left
            refine ⟨(left - r.2, some r.1), ?_, ?_, ?_, by simp only; omega, by simp only; omega⟩
            · unfold gStep
              rw [if_pos]
              refine ⟨c1.1, c1.2, c2.1, c2.2, ?_⟩
              rw [hp]; simp [prevR]
            · simp only
              rw [show 100 - (left - r.2) = 100 - left + r.2 by omega]; rfl
            · simp [prevR, hk]
          · obtain ⟨c, hc⟩ : ∃ c, l[k - 1]? = some c := ⟨_, List.getElem?_eq_getElem (by omega)⟩
            have hpc : p = some c.1 := by rw [hp]; simp [prevR, hk0, hc]
            rw [decide_eq_true (by omega), cT, wrapI (by omega) (by omega), show (k : Int) - 1 = ((k - 1 : Nat) : Int) by omega, getI_nat, hc, obs]
            by_cases c3 : r.1 = c.1
            · right
              refine ⟨.inr false, ?_, ?_⟩
              · unfold gStep
                rw [if_neg]
                rintro ⟨_, _, _, _, h⟩
                exact h (by simp only [hpc, c3])
              · rw [show (r.1 == c.1) = true by simpa using c3]; rfl
            · left
              refine ⟨(left - r.2, some r.1), ?_, ?_, ?_, by simp only; omega, by simp only; omega⟩
              · unfold gStep
                rw [if_pos]
                refine ⟨c1.1, c1.2, c2.1, c2.2, ?_⟩
                simp only [hpc]
                intro h
                exact c3 (Option.some.inj h).symm
              · rw [show (r.1 == c.1) = false by simpa using c3]
                simp only
                rw [show 100 - (left - r.2) = 100 - left + r.2 by omega]; rfl
              · simp [prevR, hk]
        · right
          refine ⟨.inr false, ?_, ?_⟩
          · unfold gStep
            rw [if_neg]
            rintro ⟨_, _, h2, h3, _⟩
            exact c2 ⟨h2, h3⟩
          · rw [decide_eq_false c2]; rfl
      · right
        refine ⟨.inr false, ?_, ?_⟩
        · unfold gStep
          rw [if_neg]
          rintro ⟨h2, h3, _⟩
          exact c1 ⟨h2, h3⟩
        · rw [decide_eq_false c1]; rfl) (by
      rintro ⟨left, p⟩ _
      unfold B_i_GoodRuns_0
      simp) (100, none) ⟨rfl, by simp, by simp⟩
  have h' : loopM (fun (s : (List Rn × (Int × (List Rn × (Int × Int))))) => B_i_GoodRuns_0 s.1 s.2.1 s.2.2.1 s.2.2.2.1 s.2.2.2.2) (l, (0 : Int), l, (l.length : Int), (0 : Int)) = _ := h
  rw [h', obs]
  unfold goodR
  have hx : ∀ (l : List Rn) b r, foldX gStep b l = .inl r → r = .inr false := by
    intro l
    induction l with
    | nil => intro b r h; cases h
    | cons a l ih =>
      intro b r h
      unfold foldX gStep at h
      split at h
      · rename_i h1
        split at h1
        · cases h1
        · cases h1; cases h; rfl
      · exact ih _ _ h
  cases hz : foldX gStep (100, none) l with
  | inl r => rw [hx _ _ _ hz]; rfl
  | inr b => rfl
end Go.Proofs.YtnhibkgoinnmcaaDoor.Ev
