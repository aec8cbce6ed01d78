/- Paths that are read: the two parsers agree. -/
import Derived.Test.YtnhibkgoinnmcaaDoorCPuReadNumber
import Derived.Test.YtnhibkgoinnmcaaDoorCPuSplit
namespace Go.Proofs.YtnhibkgoinnmcaaDoor.Ev
open Go
set_option linter.unusedVariables false
set_option linter.unusedSimpArgs false
set_option linter.unusedSectionVars false

abbrev Pn := Int × Int
abbrev Wy := List Pn

/-! ### words -/
theorem s_l16Words {s : Str} (hs : s.length ≤ 1000) : F_s_l16Words s = some (parts 32 s) := by
  unfold F_s_l16Words
  obtain ⟨b, h1, h2, h3, h4, h5⟩ := up_loop (body := fun (t : (List Str × (Str × (Int × Int)))) => B_s_l16Words_0 t.1 t.2.1 t.2.2.1 t.2.2.2)
    (fun k (b : List Str × Nat) => (b.1, s, (b.2 : Int), (k : Int))) (fun b => (b.1, s, (b.2 : Int))) (fun k b => b.2 ≤ k ∧ b.1.length ≤ k ∧ parts 32 s = b.1 ++ parts 32 (s.drop b.2) ∧ (32 : UInt8) ∉ (s.drop b.2).take (k - b.2)) s.length (by
      rintro k ⟨out, f⟩ hk ⟨h1, h2, h3, h4⟩
      simp only at h1 h2 h3 h4
      have he : s[k]? = some s[k] := List.getElem?_eq_getElem hk
      generalize s[k] = c at he
      unfold B_s_l16Words_0
      simp only
      rw [decide_eq_true (show (k : Int) < (s.length : Int) by omega), cT, getI_nat, he, obs]
      by_cases hc : c = 32
      · subst hc
        refine ⟨(out ++ [(s.drop f).take (k - f)], k + 1), ?_, Nat.le_refl _, by simp; omega, ?_, by simp⟩
        · have hsub : subI (f : Int) (k : Int) s.length = some (f, k) := by unfold subI; rw [if_pos (by omega)]; rfl
          rw [show ((((32 : UInt8).toNat : Nat) : Int) == 32) = true from rfl, cT, hsub, obs, appL_is (by simp [maxBytes]; omega) (by simp [maxBytes]; omega), obs, wrap1 (by omega), List.drop_take]
        · have hd : s.drop f = (s.drop f).take (k - f) ++ 32 :: s.drop (k + 1) := by
            have e1 : (s.drop f).drop (k - f) = s.drop k := by rw [List.drop_drop]; congr 1; omega
            have e2 : s.drop k = 32 :: s.drop (k + 1) := by
              rw [List.drop_eq_getElem_cons hk]
              rw [List.getElem?_eq_getElem hk] at he
              rw [Option.some.inj he]
            rw [← e2, ← e1, List.take_append_drop]
          rw [h3]
          conv => lhs; rw [hd]
          rw [parts_some h4]
          simp
      · have hc' : c.toNat ≠ 32 := fun h => hc (UInt8.toNat_inj.1 (show c.toNat = (32 : UInt8).toNat from h))
        refine ⟨(out, f), ?_, by simp only; omega, by simp only; omega, h3, ?_⟩
        · rw [show (((c.toNat : Nat) : Int) == 32) = false by simp; omega, cF, wrap1 (by omega)]
        · simp only
          rw [show k + 1 - f = (k - f) + 1 by omega, List.take_add_one, List.getElem?_drop, show f + (k - f) = k by omega, he]
          intro hm
          rcases List.mem_append.1 hm with hm | hm
          · exact h4 hm
          · simp at hm; exact hc hm.symm) (by
      rintro ⟨out, f⟩ _
      unfold B_s_l16Words_0
      simp) 0 ([], 0) (by omega) ⟨by simp, by simp, by simp, by simp⟩
  have h1' : loopM (fun (t : (List Str × (Str × (Int × Int)))) => B_s_l16Words_0 t.1 t.2.1 t.2.2.1 t.2.2.2) (([] : List Str), s, (0 : Int), (0 : Int)) = _ := h1
  obtain ⟨out, f⟩ := b
  simp only at h2 h3 h4 h5
  have hsub : subI (f : Int) (s.length : Int) s.length = some (f, s.length) := by unfold subI; rw [if_pos (by omega)]; rfl
  have hall : (s.drop f).take (s.length - f) = s.drop f := List.take_of_length_le (by simp)
  rw [hall] at h5
  rw [h1', obs]
  simp only
  rw [hsub, obs, appL_is (by simp [maxBytes]; omega) (by simp [maxBytes]; omega), obs, h4, parts_none h5, List.take_length]

/-! ### one command -/
def numAt (W : List Str) (i : Nat) : Option Int := match W[i]? with | none => none | some s => if (rdNum s).2 then some (rdNum s).1 else none
abbrev CV := (Int × Nat) ⊕ (Nat × List Wy × Wy)
def ptV (g : Int × Int → Bool) (i : Nat) (ways : List Wy) (way : Wy) (p : Pn) : CV := if g p then .inr (i, ways, way ++ [p]) else .inl (6, i - 1)
def goodP (p : Pn) : Bool := decide (-1000 ≤ p.1 ∧ p.1 ≤ 1000) && decide (-1000 ≤ p.2 ∧ p.2 ≤ 1000)
def one (W : List Str) (i : Nat) (ways : List Wy) (way : Wy) (f : Int → Pn) : CV := match numAt W i with | none => .inl (3, i) | some x => ptV goodP (i + 1) ways way (f x)
def two (W : List Str) (i : Nat) (ways : List Wy) (way : Wy) (f : Int → Int → Pn) : CV := match numAt W i with | none => .inl (3, i) | some x => one W (i + 1) ways way (f x)

section
variable {W : List Str} (hW : W.length ≤ 1000) (hs : ∀ w ∈ W, w.length ≤ 1000)
include hW hs

theorem s_number {i : Nat} (hi : i ≤ W.length) (ways : List Wy) (way : Wy) : F_s_l16P_number (W, (i : Int), 0) ways way = some (match numAt W i with | none => ((W, (i : Int), 3), ways, way, 0) | some x => ((W, ((i + 1 : Nat) : Int), 0), ways, way, x)) := by
  unfold F_s_l16P_number numAt
  simp only
  rw [show ((0 : Int) != 0) = false from rfl, cF]
  by_cases h : i = W.length
  · subst h
    rw [show ((W.length : Int) == (W.length : Int)) = true by simp, cT, List.getElem?_eq_none (Nat.le_refl _)]
  · have he : W[i]? = some (W[i]'(by omega)) := List.getElem?_eq_getElem (by omega)
    generalize (W[i]'(by omega)) = w at he
    have hw := hs w (List.mem_of_getElem? he)
    rw [show ((i : Int) == (W.length : Int)) = false by simp; omega, cF, getI_nat, he, obs, s_ReadNumber (by omega), obs]
    simp only
    cases hr : (rdNum w).2 with
    | false => rw [nF, cT]; rfl
    | true => rw [nT, cF, wrap1 (by omega)]; rfl
omit hs in
theorem s_number_c {i : Int} {c : Int} (hc : c ≠ 0) (ways : List Wy) (way : Wy) : F_s_l16P_number (W, i, c) ways way = some ((W, i, c), ways, way, 0) := by
  unfold F_s_l16P_number
  simp only
  rw [show (c != 0) = true by simpa [bne] using hc, cT]
theorem i_number {i : Nat} (hi : i ≤ W.length) (o : Bool) (ways : List Wy) (way : Wy) : F_i_path_number (W, (i : Int), o) ways way = some (match numAt W i with | none => ((W, (i : Int), o), ways, way, 0, false) | some x => ((W, ((i + 1 : Nat) : Int), o), ways, way, x, true)) := by
  unfold F_i_path_number numAt
  simp only
  by_cases h : i = W.length
  · subst h
    rw [show ((W.length : Int) == (W.length : Int)) = true by simp, cT, List.getElem?_eq_none (Nat.le_refl _)]
  · have he : W[i]? = some (W[i]'(by omega)) := List.getElem?_eq_getElem (by omega)
    generalize (W[i]'(by omega)) = w at he
    have hw := hs w (List.mem_of_getElem? he)
    rw [show ((i : Int) == (W.length : Int)) = false by simp; omega, cF, getI_nat, he, obs, i_ReadNumber (by omega), obs]
    simp only
    rcases rdNum_cases w with ⟨v, _, _, _, hr⟩ | ⟨hr, _⟩
    · rw [hr]; simp only; rw [cT, wrap1 (by omega)]; rfl
    · rw [hr]; rfl
end

theorem s_GoodP (p : Pn) : F_s_GoodPt p = some (goodP p) := by
  unfold F_s_GoodPt F_s_l1In goodP
  by_cases h1 : p.1 ≥ -1000 <;> by_cases h2 : p.1 ≤ 1000 <;> by_cases h3 : p.2 ≥ -1000 <;> by_cases h4 : p.2 ≤ 1000 <;> simp [h1, h2, h3, h4] <;> omega
theorem i_GoodP (p : Pn) : F_i_GoodPt p = some (goodP p) := by
  unfold F_i_GoodPt F_i_within goodP
  by_cases h1 : p.1 ≥ -1000 <;> by_cases h2 : p.1 ≤ 1000 <;> by_cases h3 : p.2 ≥ -1000 <;> by_cases h4 : p.2 ≤ 1000 <;> simp [h1, h2, h3, h4] <;> omega

theorem s_point (W : List Str) {i : Nat} (hi : 1 ≤ i ∧ i ≤ 2000) (ways : List Wy) {way : Wy} (hw : way.length ≤ 1000) (p : Pn) :
    F_s_l16P_point (W, (i : Int), 0) ways way p = some (if goodP p then ((W, (i : Int), 0), ways, way ++ [p]) else ((W, ((i - 1 : Nat) : Int), 6), ways, way)) := by
  unfold F_s_l16P_point
  simp only
  rw [show ((0 : Int) != 0) = false from rfl, cF, s_GoodP, obs]
  cases h : goodP (p.1, p.2) with
  | false =>
    rw [nF, cT, wrapI (by omega) (by omega), show (i : Int) - 1 = ((i - 1 : Nat) : Int) by omega]
    rfl
  | true =>
    rw [nT, cF, appL_is (by simp [maxBytes]; omega) (by simp [maxBytes]; omega), obs]
    rfl
theorem s_point_c (W : List Str) {i c : Int} (hc : c ≠ 0) (ways : List Wy) (way : Wy) (p : Pn) : F_s_l16P_point (W, i, c) ways way p = some ((W, i, c), ways, way) := by
  unfold F_s_l16P_point
  simp only
  rw [show (c != 0) = true by simpa [bne] using hc, cT]

/-- What the reference's parser is behind a command. -/
def encS (W : List Str) (ways : List Wy) (way : Wy) : CV → (List Str × Int × Int) × List Wy × Wy
  | .inl (c, i) => ((W, (i : Int), c), ways, way)
  | .inr (i, ways', way') => ((W, (i : Int), 0), ways', way')
abbrev SSt := (List Str × Int × Int) × List Wy × Wy
noncomputable def numS1 (st : SSt) (f : Int → Pn) : Option SSt :=
  (F_s_l16P_number (st.1.1, (st.1.2.1, st.1.2.2)) st.2.1 st.2.2).bind fun x => (F_s_l16P_point (x.1.1, (x.1.2.1, x.1.2.2)) x.2.1 x.2.2.1 (f x.2.2.2)).bind fun y => some ((y.1.1, (y.1.2.1, y.1.2.2)), (y.2.1, y.2.2))
noncomputable def numS2 (st : SSt) (f : Int → Int → Pn) : Option SSt :=
  (F_s_l16P_number (st.1.1, (st.1.2.1, st.1.2.2)) st.2.1 st.2.2).bind fun x => (F_s_l16P_number (x.1.1, (x.1.2.1, x.1.2.2)) x.2.1 x.2.2.1).bind fun x' => (F_s_l16P_point (x'.1.1, (x'.1.2.1, x'.1.2.2)) x'.2.1 x'.2.2.1 (f x.2.2.2 x'.2.2.2)).bind fun y => some ((y.1.1, (y.1.2.1, y.1.2.2)), (y.2.1, y.2.2))
section
variable {W : List Str} (hW : W.length ≤ 1000) (hs : ∀ w ∈ W, w.length ≤ 1000)
include hW hs
theorem numAt_lt {i : Nat} {x : Int} (h : numAt W i = some x) : i < W.length := by
  unfold numAt at h
  cases hz : W[i]? with
  | none => rw [hz] at h; cases h
  | some w => exact getL hz
theorem numS1_is {i : Nat} (hi : i ≤ W.length) (ways : List Wy) {way : Wy} (hw : way.length ≤ 1000) (f : Int → Pn) : numS1 ((W, (i : Int), 0), ways, way) f = some (encS W ways way (one W i ways way f)) := by
  unfold numS1 one
  simp only
  rw [s_number hW hs hi, obs]
  cases hz : numAt W i with
  | none =>
    simp only
    rw [s_point_c W (by omega), obs]
    rfl
  | some x =>
    have := numAt_lt hW hs hz
    simp only
    rw [s_point W (by omega) ways hw, obs]
    unfold ptV
    split <;> rfl
theorem numS2_is {i : Nat} (hi : i ≤ W.length) (ways : List Wy) {way : Wy} (hw : way.length ≤ 1000) (f : Int → Int → Pn) : numS2 ((W, (i : Int), 0), ways, way) f = some (encS W ways way (two W i ways way f)) := by
  unfold numS2 two
  simp only
  rw [s_number hW hs hi, obs]
  cases hz : numAt W i with
  | none =>
    simp only
    rw [s_number_c hW (by omega), obs]
    simp only
    rw [s_point_c W (by omega), obs]
    rfl
  | some x =>
    have := numAt_lt hW hs hz
    simp only
    exact numS1_is hW hs (by omega) ways hw (f x)
end
end Go.Proofs.YtnhibkgoinnmcaaDoor.Ev
