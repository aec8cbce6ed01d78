/- Paths that are read: the two parsers agree. -/
import Derived.Test.YtnhibkgoinnmcaaDoorCPuCmdI
namespace Go.Proofs.YtnhibkgoinnmcaaDoor.Ev
open Go
set_option linter.unusedVariables false
set_option linter.unusedSimpArgs false
set_option linter.unusedSectionVars false

/-- What is kept by a command. -/
def CF (W : List Str) (i : Nat) (ways : List Wy) (way : Wy) : CV → Prop
  | .inl (c, _) => c ≠ 0
  | .inr (j, ways', way') => i < j ∧ j ≤ W.length ∧ ways'.length ≤ ways.length + 1 ∧ way'.length ≤ way.length + 1

section
variable {W : List Str} (hW : W.length ≤ 1000) (hs : ∀ w ∈ W, w.length ≤ 1000)
include hW hs
theorem cf_pt {i j : Nat} (hi : i < j) (hj : j ≤ W.length) (ways : List Wy) (way : Wy) (p : Pn) : CF W i ways way (ptV goodP j ways way p) := by
  unfold ptV
  split
  · exact ⟨hi, hj, by omega, by simp⟩
  · show (6 : Int) ≠ 0; omega
theorem cf_one {i j : Nat} (hi : i < j) (ways : List Wy) (way : Wy) (f : Int → Pn) : CF W i ways way (one W j ways way f) := by
  unfold one
  cases hz : numAt W j with
  | none => show (3 : Int) ≠ 0; omega
  | some x => exact cf_pt hW hs (by omega) (numAt_lt hW hs hz) ways way _
theorem cf_two {i j : Nat} (hi : i < j) (ways : List Wy) (way : Wy) (f : Int → Int → Pn) : CF W i ways way (two W j ways way f) := by
  unfold two
  cases hz : numAt W j with
  | none => show (3 : Int) ≠ 0; omega
  | some x => exact cf_one hW hs (by omega) ways way _
theorem cf_cmd {i : Nat} {w : Str} (he : W[i]? = some w) (ways : List Wy) (way : Wy) : CF W i ways way (cmdV W i ways way w) := by
  have hlt := getL he
  unfold cmdV
  repeat' split
  all_goals first
    | exact cf_two hW hs (by omega) ways way _
    | exact cf_one hW hs (by omega) ways way _
    | (show (5 : Int) ≠ 0; omega)
    | (show (4 : Int) ≠ 0; omega)
    | (show (2 : Int) ≠ 0; omega)
    | exact ⟨by omega, by omega, by simp, by simp⟩

/-- All commands. -/
def parse (W : List Str) : Nat → Nat → List Wy → Wy → (Int × Nat) ⊕ (List Wy × Wy)
  | 0, _, ways, way => .inr (ways, way)
  | n + 1, i, ways, way => match W[i]? with | none => .inr (ways, way) | some w => (match cmdV W i ways way w with | .inl e => .inl e | .inr (j, ways', way') => parse W n j ways' way')

abbrev SP := (List Str × Int × Int) × List Wy × Wy
noncomputable def spB : SP → Option (SP ⊕ SP) := fun s => B_s_ParsePath_0 s.1 s.2.1 s.2.2
def SEnd (W : List Str) : ((Int × Nat) ⊕ (List Wy × Wy)) → SP → Prop
  | .inl (c, i), r => r.1.2 = ((i : Int), c) ∧ c ≠ 0
  | .inr (ways, way), r => r = ((W, ((W.length : Int), 0)), (ways, way))
omit hW hs in
theorem sp_bad (W : List Str) (i c : Int) (hc : c ≠ 0) (ways : List Wy) (way : Wy) : loopM spB ((W, (i, c)), (ways, way)) = some ((W, (i, c)), (ways, way)) := by
  refine loop_end ?_
  unfold spB B_s_ParsePath_0
  simp only
  by_cases h : i < (W.length : Int)
  · rw [decide_eq_true h, cT, show (c == 0) = false by simpa using hc, cF]
  · rw [decide_eq_false h, cF]
theorem s_parse : ∀ (n i : Nat) (ways : List Wy) (way : Wy), W.length < n + i → i ≤ W.length → ways.length ≤ i → way.length ≤ i → ∃ r, loopM spB ((W, ((i : Int), 0)), (ways, way)) = some r ∧ SEnd W (parse W n i ways way) r := by
  intro n
  induction n with
  | zero => intro i ways way h1 h2; omega
  | succ n ih =>
    intro i ways way h1 h2 h3 h4
    unfold parse
    by_cases hi : i = W.length
    · subst hi
      rw [List.getElem?_eq_none (Nat.le_refl _)]
      refine ⟨_, loop_end (r := ((W, ((W.length : Int), 0)), (ways, way))) ?_, rfl⟩
      unfold spB B_s_ParsePath_0
      simp only
      rw [decide_eq_false (by omega), cF]
    · have he : W[i]? = some (W[i]'(by omega)) := List.getElem?_eq_getElem (by omega)
      generalize (W[i]'(by omega)) = w at he
      have hc := s_command hW hs he ways (way := way) (by omega) (by omega)
      have hf := cf_cmd hW hs he ways way
      rw [he]
      simp only
      have hgo : spB ((W, ((i : Int), 0)), (ways, way)) = some (.inl (encS W ways way (cmdV W i ways way w))) := by
        unfold spB B_s_ParsePath_0
        simp only
        rw [decide_eq_true (by omega), cT, show ((0 : Int) == 0) = true from rfl, cT, hc, obs]
      rw [loop_go hgo]
      cases hz : cmdV W i ways way w with
      | inl e =>
        obtain ⟨c, j⟩ := e
        rw [hz] at hf
        exact ⟨_, sp_bad W _ c hf ways way, rfl, hf⟩
      | inr v =>
        obtain ⟨j, ways', way'⟩ := v
        rw [hz] at hf
        obtain ⟨f1, f2, f3, f4⟩ := hf
        exact ih j ways' way' (by omega) f2 (by omega) (by omega)

abbrev IP := (List Str × Int × Bool) × List Wy × Wy
noncomputable def ipB : IP → Option (IP ⊕ (IP ⊕ (List Wy × Int × Int × Bool))) := fun s => B_i_ParsePath_0 s.1 s.2.1 s.2.2
def IEnd (W : List Str) : ((Int × Nat) ⊕ (List Wy × Wy)) → (IP ⊕ (List Wy × Int × Int × Bool)) → Prop
  | .inl (c, i), r => r = .inr ([], c, (i : Int), false)
  | .inr (ways, way), r => r = .inl ((W, ((W.length : Int), decide (way ≠ []))), (ways, way))
theorem i_parse : ∀ (n i : Nat) (ways : List Wy) (way : Wy), W.length < n + i → i ≤ W.length → ways.length ≤ i → way.length ≤ i → ∃ r, loopM ipB ((W, ((i : Int), decide (way ≠ []))), (ways, way)) = some r ∧ IEnd W (parse W n i ways way) r := by
  intro n
  induction n with
  | zero => intro i ways way h1 h2; omega
  | succ n ih =>
    intro i ways way h1 h2 h3 h4
    unfold parse
    by_cases hi : i = W.length
    · subst hi
      rw [List.getElem?_eq_none (Nat.le_refl _)]
      refine ⟨.inl ((W, ((W.length : Int), decide (way ≠ []))), (ways, way)), loop_end ?_, rfl⟩
      unfold ipB B_i_ParsePath_0
      simp only
      rw [decide_eq_false (show ¬ (W.length : Int) < (W.length : Int) by omega), cF]
    · have he : W[i]? = some (W[i]'(by omega)) := List.getElem?_eq_getElem (by omega)
      generalize (W[i]'(by omega)) = w at he
      obtain ⟨r, hc, hE⟩ := i_command hW hs he ways (way := way) (by omega) (by omega)
      have hf := cf_cmd hW hs he ways way
      rw [he]
      simp only
      have hgo : ipB ((W, ((i : Int), decide (way ≠ []))), (ways, way)) = bif (r.2.2.2.1 != 0) then some (.inr (.inr ([], (r.2.2.2.1, (r.2.2.2.2, false))))) else some (.inl ((r.1.1, (r.1.2.1, r.1.2.2)), (r.2.1, r.2.2.1))) := by
        unfold ipB B_i_ParsePath_0
        simp only
        rw [decide_eq_true (show (i : Int) < (W.length : Int) by omega), cT, hc, obs]
      cases hz : cmdV W i ways way w with
      | inl e =>
        obtain ⟨c, j⟩ := e
        rw [hz] at hf hE
        have hE : r.2.2.2 = (c, (j : Int)) ∧ c ≠ 0 := hE
        rw [hE.1, show (c != 0) = true by simpa [bne] using hE.2, cT] at hgo
        exact ⟨_, loop_end hgo, rfl⟩
      | inr v =>
        obtain ⟨j, ways', way'⟩ := v
        rw [hz] at hf hE
        obtain ⟨f1, f2, f3, f4⟩ := hf
        have hE : r = ((W, ((j : Int), decide (way' ≠ []))), (ways', (way', (0, 0)))) := hE
        subst hE
        simp only at hgo
        rw [show ((0 : Int) != 0) = false from rfl, cF] at hgo
        rw [loop_go hgo]
        exact ih j ways' way' (by omega) f2 (by omega) (by omega)
end

/-- What a text reads as. -/
def pathV (s : Str) : List Wy × Int × Int × Bool :=
  if 1 ≤ s.length ∧ s.length ≤ 400 then (match parse (parts 32 s) ((parts 32 s).length + 1) 0 [] [] with
    | .inl (c, i) => ([], c, (i : Int), false)
    | .inr (ways, way) => if way ≠ [] then ([], 7, ((parts 32 s).length : Int), false) else (ways, 0, 0, true)) else ([], 1, 0, false)

theorem parts_count {c : UInt8} : ∀ (n : Nat) (s : Str), s.length ≤ n → (parts c s).length ≤ s.length + 1 := by
  intro n
  induction n with
  | zero =>
    intro s hs
    have : s = [] := List.eq_nil_of_length_eq_zero (by omega)
    subst this
    rw [parts_none (by simp)]
    simp
  | succ n ih =>
    intro s hs
    rcases cut_at c s with h | ⟨x, r, rfl, h⟩
    · rw [parts_none h]; simp
    · rw [parts_some h]
      rw [List.length_append, List.length_cons] at hs ⊢
      have := ih r (by omega)
      rw [List.length_cons]
      omega

theorem s_ParsePath {s : Str} (hs : s.length < 4611686018427387904) : F_s_ParsePath s = some (pathV s) := by
  unfold F_s_ParsePath pathV
  by_cases h0 : s.length = 0
  · rw [show ((s.length : Int) == 0) = true by simp [h0], cT, if_neg (by omega)]
  rw [show ((s.length : Int) == 0) = false from beq_eq_false_iff_ne.2 (by omega), cF]
  by_cases h1 : 400 < s.length
  · rw [decide_eq_true (by omega), cT, if_neg (by omega)]
  rw [decide_eq_false (by omega), cF, s_l16Words (by omega), obs, if_pos (by omega)]
  have hc := parts_count (c := 32) s.length s (Nat.le_refl _)
  have hl : ∀ w ∈ parts 32 s, w.length ≤ 1000 := fun w hw => by have := parts_len s.length s (Nat.le_refl _) w hw; omega
  obtain ⟨r, h2, h3⟩ := s_parse (W := parts 32 s) (by omega) hl ((parts 32 s).length + 1) 0 [] [] (by omega) (by omega) (by simp) (by simp)
  have h2' : loopM (fun (s : (((List Str) × (Int × Int)) × ((List Wy) × Wy))) => B_s_ParsePath_0 s.1 s.2.1 s.2.2) ((parts 32 s, ((0 : Int), (0 : Int))), (([] : List Wy), ([] : Wy))) = some r := h2
  rw [h2', obs]
  cases hz : parse (parts 32 s) ((parts 32 s).length + 1) 0 [] [] with
  | inl e =>
    obtain ⟨c, i⟩ := e
    rw [hz] at h3
    have h3 : r.1.2 = ((i : Int), c) ∧ c ≠ 0 := h3
    simp only [h3.1]
    rw [show (c == 0) = false by simpa using h3.2, cF, obs]
    simp only [Sum.elim_inr]
    rw [show (c != 0) = true by simpa [bne] using h3.2, cT]
  | inr v =>
    obtain ⟨ways, way⟩ := v
    rw [hz] at h3
    have h3 : r = ((parts 32 s, (((parts 32 s).length : Int), 0)), (ways, way)) := h3
    subst h3
    simp only
    rw [show ((0 : Int) == 0) = true from rfl, cT]
    by_cases hw : way = []
    · subst hw
      rw [show decide (((([] : Wy).length : Nat) : Int) > 0) = false from rfl, cF, obs, if_neg (by simp)]
      rfl
    · have hp := List.length_pos_iff.2 hw
      rw [decide_eq_true (by omega), cT, obs, if_pos hw]
      rfl
theorem i_ParsePath {s : Str} (hs : s.length < 4294967281) : F_i_ParsePath s = some (pathV s) := by
  unfold F_i_ParsePath pathV
  have hin : F_i_within (s.length : Int) 1 400 = some (decide (1 ≤ s.length ∧ s.length ≤ 400)) := by
    unfold F_i_within
    by_cases h : (s.length : Int) ≥ 1
    · rw [decide_eq_true h, cT]; congr 1; rw [decide_eq_decide]; omega
    · rw [decide_eq_false h, cF]; congr 1; symm; rw [decide_eq_false]; omega
  rw [hin, obs]
  by_cases h : 1 ≤ s.length ∧ s.length ≤ 400
  · rw [decide_eq_true h, nT, cF, if_pos h]
    unfold F_strings_Split
    rw [split_is hs, obs]
    have hc := parts_count (c := 32) s.length s (Nat.le_refl _)
    have hl : ∀ w ∈ parts 32 s, w.length ≤ 1000 := fun w hw => by have := parts_len s.length s (Nat.le_refl _) w hw; omega
    obtain ⟨r, h2, h3⟩ := i_parse (W := parts 32 s) (by omega) hl ((parts 32 s).length + 1) 0 [] [] (by omega) (by omega) (by simp) (by simp)
    have h2' : loopM (fun (s : (((List Str) × (Int × Bool)) × ((List Wy) × Wy))) => B_i_ParsePath_0 s.1 s.2.1 s.2.2) ((parts 32 s, ((0 : Int), false)), (([] : List Wy), ([] : Wy))) = some r := h2
    rw [h2', obs]
    cases hz : parse (parts 32 s) ((parts 32 s).length + 1) 0 [] [] with
    | inl e =>
      obtain ⟨c, i⟩ := e
      rw [hz] at h3
      have h3 : r = .inr ([], c, (i : Int), false) := h3
      subst h3
      rfl
    | inr v =>
      obtain ⟨ways, way⟩ := v
      rw [hz] at h3
      have h3 : r = .inl ((parts 32 s, (((parts 32 s).length : Int), decide (way ≠ []))), (ways, way)) := h3
      subst h3
      simp only [Sum.elim_inl]
      by_cases hw : way = []
      · subst hw; rw [show decide (([] : Wy) ≠ []) = false from rfl, cF, if_neg (by simp)]
      · rw [decide_eq_true hw, cT, if_pos hw]
  · rw [decide_eq_false h, nF, cT, if_neg h]
end Go.Proofs.YtnhibkgoinnmcaaDoor.Ev
