/- A command of the program's parser, word by word (made by mkcmdi.py). -/
import Derived.Test.YtnhibkgoinnmcaaDoorCPuCmd
namespace Go.Proofs.YtnhibkgoinnmcaaDoor.Ev
open Go
set_option linter.unusedVariables false
set_option linter.unusedSimpArgs false
set_option linter.unusedSectionVars false

abbrev ISt := (List Str × (Int × Bool)) × (List Wy × (Wy × (Int × Int)))
/-- What the program's parser is behind a command. -/
def EI (W : List Str) : CV → ISt → Prop
  | .inl (c, i), r => r.2.2.2 = (c, (i : Int)) ∧ c ≠ 0
  | .inr (i, ways', way'), r => r = ((W, ((i : Int), decide (way' ≠ []))), (ways', (way', (0, 0))))

def KWi : List Str := [[77], [76], [108], [72], [86], [104], [118], [90]]
theorem kwi_mem (w : Str) : w ∈ KWi ↔ w ∈ KW := by simp only [KWi, KW, List.mem_cons, List.not_mem_nil, or_false]; constructor <;> (intro h; rcases h with h | h | h | h | h | h | h | h <;> simp [h])
theorem i_known (w : Str) : F_slices_Contains_Sstring_string KWi w = some (decide (w ∈ KW)) := by
  unfold F_slices_Contains_Sstring_string F_slices_Index_Sstring_string
  have key := all_loop (body := fun s : List Str × Str × Int × Int => B_slices_Index_Sstring_string_0 s.1 s.2.1 s.2.2.1 s.2.2.2) (l := KWi) (st := fun k => (KWi, w, ((KWi.length : Nat) : Int), (k : Int))) (p := fun x => !(w == x)) (fin := .inl ()) (bad := fun k => .inr (k : Int))
    (fun k a hk hp => by
      have hlt : k < 8 := getL hk
      have hp : (w == a) = false := by simpa using hp
      unfold B_slices_Index_Sstring_string_0
      simp only
      rw [decide_eq_true (show (k : Int) < ((KWi.length : Nat) : Int) by show (k : Int) < 8; omega), cT, getI_nat, hk, obs, hp, cF, wrap1 (by omega)])
    (fun k a hk hp => by
      have hlt : k < 8 := getL hk
      have hp : (w == a) = true := by simpa using hp
      unfold B_slices_Index_Sstring_string_0
      simp only
      rw [decide_eq_true (show (k : Int) < ((KWi.length : Nat) : Int) by show (k : Int) < 8; omega), cT, getI_nat, hk, obs, hp, cT])
    (by
      unfold B_slices_Index_Sstring_string_0
      simp only
      rw [decide_eq_false (by omega), cF])
  by_cases hm : w ∈ KW
  · have hall : KWi.all (fun x => !(w == x)) = false := by
      rw [List.all_eq_false]
      exact ⟨w, (kwi_mem w).2 hm, by simp⟩
    obtain ⟨k, _, h⟩ := key.2 hall
    rw [show ((0 : Nat) : Int) = 0 from rfl] at h
    rw [h, obs]
    simp only [Sum.elim_inr]
    rw [obs, decide_eq_true hm, decide_eq_true (by omega)]
  · have hall : KWi.all (fun x => !(w == x)) = true := by
      rw [List.all_eq_true]
      intro x hx
      have : w ≠ x := fun h => hm ((kwi_mem w).1 (h ▸ hx))
      simpa using this
    have h := key.1 hall
    rw [show ((0 : Nat) : Int) = 0 from rfl] at h
    rw [h, obs]
    simp only [Sum.elim_inl]
    rw [obs, decide_eq_false hm]
    rfl

theorem i_count (w : Str) : F_strings_Contains [72, 86, 104, 118] w = some (Lib.contains [72, 86, 104, 118] w) := by
  unfold F_strings_Contains F_contains
  rw [if_pos (by decide)]

noncomputable def icB : ((List Str × (Int × Bool)) × (List Int × (List Wy × (Wy × (Str × (Int × Int)))))) → Option (((List Str × (Int × Bool)) × (List Int × (List Wy × (Wy × (Str × (Int × Int)))))) ⊕ (((List Str × (Int × Bool)) × (List Int × (List Wy × (Wy × Str)))) ⊕ ISt)) :=
  fun s => B_i_path_command_0 s.1 s.2.1 s.2.2.1 s.2.2.2.1 s.2.2.2.2.1 s.2.2.2.2.2.1 s.2.2.2.2.2.2
section
variable {W : List Str} (hW : W.length ≤ 1000) (hs : ∀ w ∈ W, w.length ≤ 1000)
include hW hs
theorem ic_go {i : Nat} (hi : i ≤ W.length) (o : Bool) (n : List Int) (hn : n.length ≤ 10) (ways : List Wy) (way : Wy) (w : Str) {c k : Nat} (hk : k < c) (hc : c ≤ 10) :
    icB ((W, ((i : Int), o)), (n, (ways, (way, (w, ((c : Int), (k : Int))))))) = match numAt W i with | none => some (.inr (.inr ((W, ((i : Int), o)), (ways, (way, (3, (i : Int))))))) | some x => some (.inl ((W, (((i + 1 : Nat) : Int), o)), (n ++ [x], (ways, (way, (w, ((c : Int), ((k + 1 : Nat) : Int)))))))) := by
  unfold icB B_i_path_command_0
  simp only
  rw [decide_eq_true (by omega), cT, i_number hW hs hi, obs]
  cases hz : numAt W i with
  | none => rfl
  | some x =>
    simp only
    rw [nT, cF, appL_is (by simp [maxBytes]; omega) (by simp [maxBytes]; omega), obs, wrap1 (by omega)]
omit hW hs in
theorem ic_end (W : List Str) (i : Int) (o : Bool) (n : List Int) (ways : List Wy) (way : Wy) (w : Str) (c : Nat) : icB ((W, (i, o)), (n, (ways, (way, (w, ((c : Int), (c : Int))))))) = some (.inr (.inl ((W, (i, o)), (n, (ways, (way, w)))))) := by
  unfold icB B_i_path_command_0
  simp only
  rw [decide_eq_false (by omega), cF]
theorem ic_one {i : Nat} (hi : i ≤ W.length) (o : Bool) (ways : List Wy) (way : Wy) (w : Str) : loopM icB ((W, ((i : Int), o)), (([] : List Int), (ways, (way, (w, ((1 : Int), (0 : Int))))))) =
    match numAt W i with | none => some (.inr ((W, ((i : Int), o)), (ways, (way, (3, (i : Int)))))) | some x => some (.inl ((W, (((i + 1 : Nat) : Int), o)), ([x], (ways, (way, w))))) := by
  have h1 := ic_go hW hs hi o [] (by simp) ways way w (c := 1) (k := 0) (by omega) (by omega)
  cases hz : numAt W i with
  | none => rw [hz] at h1; exact loop_end h1
  | some x =>
    rw [hz] at h1
    exact (loop_go h1).trans (loop_end (ic_end W _ o [x] ways way w 1))
theorem ic_two {i : Nat} (hi : i ≤ W.length) (o : Bool) (ways : List Wy) (way : Wy) (w : Str) : loopM icB ((W, ((i : Int), o)), (([] : List Int), (ways, (way, (w, ((2 : Int), (0 : Int))))))) =
    match numAt W i with | none => some (.inr ((W, ((i : Int), o)), (ways, (way, (3, (i : Int)))))) | some x => (match numAt W (i + 1) with | none => some (.inr ((W, (((i + 1 : Nat) : Int), o)), (ways, (way, (3, ((i + 1 : Nat) : Int)))))) | some y => some (.inl ((W, (((i + 2 : Nat) : Int), o)), ([x, y], (ways, (way, w)))))) := by
  have h1 := ic_go hW hs hi o [] (by simp) ways way w (c := 2) (k := 0) (by omega) (by omega)
  cases hz : numAt W i with
  | none => rw [hz] at h1; exact loop_end h1
  | some x =>
    rw [hz] at h1
    have hlt := numAt_lt hW hs hz
    have h2 := ic_go hW hs (i := i + 1) (by omega) o [x] (by simp) ways way w (c := 2) (k := 1) (by omega) (by omega)
    refine (loop_go h1).trans ?_
    simp only
    cases hz2 : numAt W (i + 1) with
    | none => rw [hz2] at h2; exact loop_end h2
    | some y =>
      rw [hz2] at h2
      exact (loop_go h2).trans (loop_end (ic_end W _ o [x, y] ways way w 2))

/-- The end of a command with numbers. -/
noncomputable def icK (w : Str) : (((List Str × (Int × Bool)) × (List Int × (List Wy × (Wy × Str)))) ⊕ ISt) → Option ISt := fun x7 => Sum.elim
      (fun x8 =>
      ((F_i_path_next (x8.1.1, (x8.1.2.1, x8.1.2.2)) x8.2.2.1 x8.2.2.2.1 x8.2.2.2.2 x8.2.1)).bind fun x9 =>
      ((F_i_GoodPt (x9.2.2.2.1, x9.2.2.2.2))).bind fun x10 =>
      bif (!x10) then
        some ((x9.1.1, (x9.1.2.1, x9.1.2.2)), (x9.2.1, (x9.2.2.1, ((6 : Int), (Go.IntKind.wrap Go.IntKind.i64 (x9.1.2.1 - (1 : Int)))))))
      else
      ((appL 16 2 x9.2.2.1 (List.cons (x9.2.2.2.1, x9.2.2.2.2) List.nil))).bind fun x11 =>
      some ((x9.1.1, (x9.1.2.1, true)), (x9.2.1, (x11, ((0 : Int), (0 : Int))))))
      (fun x12 =>
      some ((x12.1.1, (x12.1.2.1, x12.1.2.2)), (x12.2.1, (x12.2.2.1, (x12.2.2.2.1, x12.2.2.2.2)))))
      x7
theorem ic_pt {i : Nat} (hi : 1 ≤ i ∧ i ≤ 2000) (o : Bool) (ways : List Wy) {way : Wy} (hw : way.length ≤ 1000) (w : Str) (n : List Int) {p : Pn} (hn : F_i_path_next (W, ((i : Int), o)) ways way w n = some ((W, ((i : Int), o)), (ways, (way, p)))) :
    ∃ r, icK w (.inl ((W, ((i : Int), o)), (n, (ways, (way, w))))) = some r ∧ EI W (ptV goodP i ways way p) r := by
  unfold icK ptV
  simp only [Sum.elim_inl]
  rw [hn, obs]
  simp only
  rw [i_GoodP, obs]
  cases h : goodP (p.1, p.2) with
  | false =>
    rw [nF, cT, if_neg (by simp), wrapI (by omega) (by omega)]
    exact ⟨_, rfl, by show ((6 : Int), _) = _; congr 1; omega, by omega⟩
  | true =>
    rw [nT, cF, if_pos rfl, appL_is (by simp [maxBytes]; omega) (by simp [maxBytes]; omega), obs]
    refine ⟨_, rfl, ?_⟩
    show _ = _
    rw [decide_eq_true (show way ++ [p] ≠ [] by simp)]
theorem ic_oneK {i : Nat} (hi : i ≤ W.length) (o : Bool) (ways : List Wy) {way : Wy} (hw : way.length ≤ 1000) (w : Str) {f : Int → Pn} (hf : ∀ (j : Nat) x, F_i_path_next (W, ((j : Int), o)) ways way w [x] = some ((W, ((j : Int), o)), (ways, (way, f x)))) :
    ∃ r, ((loopM icB ((W, ((i : Int), o)), (([] : List Int), (ways, (way, (w, ((1 : Int), (0 : Int)))))))).bind (icK w)) = some r ∧ EI W (one W i ways way f) r := by
  rw [ic_one hW hs hi]
  unfold one
  cases hz : numAt W i with
  | none => exact ⟨_, rfl, rfl, by omega⟩
  | some x =>
    have := numAt_lt hW hs hz
    exact ic_pt hW hs (by omega) o ways hw w [x] (hf (i + 1) x)
theorem ic_twoK {i : Nat} (hi : i ≤ W.length) (o : Bool) (ways : List Wy) {way : Wy} (hw : way.length ≤ 1000) (w : Str) {f : Int → Int → Pn} (hf : ∀ (j : Nat) x y, F_i_path_next (W, ((j : Int), o)) ways way w [x, y] = some ((W, ((j : Int), o)), (ways, (way, f x y)))) :
    ∃ r, ((loopM icB ((W, ((i : Int), o)), (([] : List Int), (ways, (way, (w, ((2 : Int), (0 : Int)))))))).bind (icK w)) = some r ∧ EI W (two W i ways way f) r := by
  rw [ic_two hW hs hi]
  unfold two one
  cases hz : numAt W i with
  | none => exact ⟨_, rfl, rfl, by omega⟩
  | some x =>
    have := numAt_lt hW hs hz
    simp only
    cases hz2 : numAt W (i + 1) with
    | none => exact ⟨_, rfl, rfl, by omega⟩
    | some y =>
      have := numAt_lt hW hs hz2
      exact ic_pt hW hs (by omega) o ways hw w [x, y] (hf (i + 2) x y)

theorem i_cmd_no {i : Nat} {w : Str} (he : W[i]? = some w) (hk : w ∉ KW) (o : Bool) (ways : List Wy) (way : Wy) : ∃ r, F_i_path_command (W, ((i : Int), o)) ways way = some r ∧ EI W (cmdV W i ways way w) r := by
  have h77 : w ≠ [77] := fun h => hk (by rw [h]; decide)
  unfold F_i_path_command F_i_path_fault
  simp only
  rw [getI_nat, he, obs, show ([[77], [76], [108], [72], [86], [104], [118], [90]] : List Str) = KWi from rfl, i_known, obs, decide_eq_false hk, nF, cT, obs]
  unfold cmdV
  rw [if_neg h77, if_neg hk]
  exact ⟨_, rfl, rfl, by omega⟩
theorem i_cmd_77 {i : Nat} (he : W[i]? = some [77]) (ways : List Wy) {way : Wy} (hw : way.length ≤ 1000) (hwl : ways.length ≤ 1000) : ∃ r, F_i_path_command (W, ((i : Int), decide (way ≠ []))) ways way = some r ∧ EI W (cmdV W i ways way [77]) r := by
  have hlt := getL he
  unfold F_i_path_command F_i_path_fault
  simp only
  rw [getI_nat, he, obs, show ([[77], [76], [108], [72], [86], [104], [118], [90]] : List Str) = KWi from rfl, i_known, obs, decide_eq_true (show ([77] : Str) ∈ KW by decide)]
  unfold cmdV
  by_cases h0 : way = []
  · subst h0
    by_cases h4 : ways.length = 4
    · have h4' : ((ways.length : Int) == 4) = true := by simp [h4]
      rw [if_pos rfl, if_pos rfl, if_pos h4]
      simp only [k77_77, k77_76, k77_108, k77_72, k77_104, k77_86, k77_118, k77_90, nT, nF, cF, cT, obs, h4', show decide (([] : Wy) ≠ []) = false from rfl, show (true == false) = false from rfl, show ((5 : Int) != 0) = true from rfl]
      exact ⟨_, rfl, rfl, by omega⟩
    · have h4' : ((ways.length : Int) == 4) = false := by simp; omega
      rw [if_pos rfl, if_pos rfl, if_neg h4]
      simp only [k77_77, k77_76, k77_108, k77_72, k77_104, k77_86, k77_118, k77_90, nT, nF, cF, cT, obs, h4', show decide (([] : Wy) ≠ []) = false from rfl, show (true == false) = false from rfl, show ((0 : Int) != 0) = false from rfl, wrap1 (show i < 4611686018427387904 by omega), i_count, show Lib.contains [72, 86, 104, 118] [77] = false from by decide, Sum.elim_inr]
      refine ic_twoK hW hs (by omega) false ways (way := []) (by simp) [77] (f := fun x y => (x, y)) fun j x y => ?_
      unfold F_i_path_next
      simp only [k77_77, k77_76, k77_108, k77_72, k77_104, k77_86, k77_118, k77_90, List.length_nil, show decide (((0 : Nat) : Int) > 0) = false from rfl, cF, obs, Sum.elim_inr]
      rfl
  · have hp := List.length_pos_iff.2 h0
    rw [if_pos rfl, if_neg h0]
    simp only [k77_77, k77_76, k77_108, k77_72, k77_104, k77_86, k77_118, k77_90, nT, nF, cF, cT, obs, show decide (way ≠ []) = true from decide_eq_true h0, show (true == true) = true from rfl, show ((4 : Int) != 0) = true from rfl]
    exact ⟨_, rfl, rfl, by omega⟩
theorem i_cmd_76 {i : Nat} (he : W[i]? = some [76]) (ways : List Wy) {way : Wy} (hw : way.length ≤ 1000) (hwl : ways.length ≤ 1000) : ∃ r, F_i_path_command (W, ((i : Int), decide (way ≠ []))) ways way = some r ∧ EI W (cmdV W i ways way [76]) r := by
  have hlt := getL he
  unfold F_i_path_command F_i_path_fault
  simp only
  rw [getI_nat, he, obs, show ([[77], [76], [108], [72], [86], [104], [118], [90]] : List Str) = KWi from rfl, i_known, obs, decide_eq_true (show ([76] : Str) ∈ KW by decide)]
  unfold cmdV
  rw [if_neg (by decide), if_pos (show ([76] : Str) ∈ KW by decide)]
  by_cases h0 : way = []
  · subst h0
    rw [if_pos rfl]
    simp only [k76_77, k76_76, k76_108, k76_72, k76_104, k76_86, k76_118, k76_90, nT, nF, cF, cT, obs, show decide (([] : Wy) ≠ []) = false from rfl, show (false == false) = true from rfl, show ((4 : Int) != 0) = true from rfl]
    exact ⟨_, rfl, rfl, by omega⟩
  · have hp := List.length_pos_iff.2 h0
    rw [if_neg h0]
    rw [if_neg (by decide)]
    by_cases h12 : way.length = 12
    · rw [if_pos h12]
      simp only [k76_77, k76_76, k76_108, k76_72, k76_104, k76_86, k76_118, k76_90, nT, nF, cF, cT, obs, show decide (way ≠ []) = true from decide_eq_true h0, show (false == true) = false from rfl, show ((way.length : Int) == 12) = true by simp; omega, show ((5 : Int) != 0) = true from rfl]
      exact ⟨_, rfl, rfl, by omega⟩
    · rw [if_neg h12, if_pos rfl]
      simp only [k76_77, k76_76, k76_108, k76_72, k76_104, k76_86, k76_118, k76_90, nT, nF, cF, cT, obs, show decide (way ≠ []) = true from decide_eq_true h0, show (false == true) = false from rfl, show ((way.length : Int) == 12) = false by simp; omega, show ((0 : Int) != 0) = false from rfl, wrap1 (show i < 4611686018427387904 by omega), i_count, show Lib.contains [72, 86, 104, 118] [76] = false from by decide, Sum.elim_inr]
      refine ic_twoK hW hs (by omega) true ways hw [76] (f := fun x y => (x, y)) fun j x y => ?_
      unfold F_i_path_next
      simp only [k76_77, k76_76, k76_108, k76_72, k76_104, k76_86, k76_118, k76_90, decide_eq_true (show (way.length : Int) > 0 by omega), cT, cF, last_idx h0 hw, last_get h0, obs, Sum.elim_inr]
      rfl
theorem i_cmd_108 {i : Nat} (he : W[i]? = some [108]) (ways : List Wy) {way : Wy} (hw : way.length ≤ 1000) (hwl : ways.length ≤ 1000) : ∃ r, F_i_path_command (W, ((i : Int), decide (way ≠ []))) ways way = some r ∧ EI W (cmdV W i ways way [108]) r := by
  have hlt := getL he
  unfold F_i_path_command F_i_path_fault
  simp only
  rw [getI_nat, he, obs, show ([[77], [76], [108], [72], [86], [104], [118], [90]] : List Str) = KWi from rfl, i_known, obs, decide_eq_true (show ([108] : Str) ∈ KW by decide)]
  unfold cmdV
  rw [if_neg (by decide), if_pos (show ([108] : Str) ∈ KW by decide)]
  by_cases h0 : way = []
  · subst h0
    rw [if_pos rfl]
    simp only [k108_77, k108_76, k108_108, k108_72, k108_104, k108_86, k108_118, k108_90, nT, nF, cF, cT, obs, show decide (([] : Wy) ≠ []) = false from rfl, show (false == false) = true from rfl, show ((4 : Int) != 0) = true from rfl]
    exact ⟨_, rfl, rfl, by omega⟩
  · have hp := List.length_pos_iff.2 h0
    rw [if_neg h0]
    rw [if_neg (by decide)]
    by_cases h12 : way.length = 12
    · rw [if_pos h12]
      simp only [k108_77, k108_76, k108_108, k108_72, k108_104, k108_86, k108_118, k108_90, nT, nF, cF, cT, obs, show decide (way ≠ []) = true from decide_eq_true h0, show (false == true) = false from rfl, show ((way.length : Int) == 12) = true by simp; omega, show ((5 : Int) != 0) = true from rfl]
      exact ⟨_, rfl, rfl, by omega⟩
    · rw [if_neg h12, if_neg (by decide), if_pos rfl]
      simp only [k108_77, k108_76, k108_108, k108_72, k108_104, k108_86, k108_118, k108_90, nT, nF, cF, cT, obs, show decide (way ≠ []) = true from decide_eq_true h0, show (false == true) = false from rfl, show ((way.length : Int) == 12) = false by simp; omega, show ((0 : Int) != 0) = false from rfl, wrap1 (show i < 4611686018427387904 by omega), i_count, show Lib.contains [72, 86, 104, 118] [108] = false from by decide, Sum.elim_inr]
      refine ic_twoK hW hs (by omega) true ways hw [108] (f := fun x y => (IntKind.wrap .i64 ((lastP way).1 + x), IntKind.wrap .i64 ((lastP way).2 + y))) fun j x y => ?_
      unfold F_i_path_next
      simp only [k108_77, k108_76, k108_108, k108_72, k108_104, k108_86, k108_118, k108_90, decide_eq_true (show (way.length : Int) > 0 by omega), cT, cF, last_idx h0 hw, last_get h0, obs, Sum.elim_inr]
      rfl
theorem i_cmd_72 {i : Nat} (he : W[i]? = some [72]) (ways : List Wy) {way : Wy} (hw : way.length ≤ 1000) (hwl : ways.length ≤ 1000) : ∃ r, F_i_path_command (W, ((i : Int), decide (way ≠ []))) ways way = some r ∧ EI W (cmdV W i ways way [72]) r := by
  have hlt := getL he
  unfold F_i_path_command F_i_path_fault
  simp only
  rw [getI_nat, he, obs, show ([[77], [76], [108], [72], [86], [104], [118], [90]] : List Str) = KWi from rfl, i_known, obs, decide_eq_true (show ([72] : Str) ∈ KW by decide)]
  unfold cmdV
  rw [if_neg (by decide), if_pos (show ([72] : Str) ∈ KW by decide)]
  by_cases h0 : way = []
  · subst h0
    rw [if_pos rfl]
    simp only [k72_77, k72_76, k72_108, k72_72, k72_104, k72_86, k72_118, k72_90, nT, nF, cF, cT, obs, show decide (([] : Wy) ≠ []) = false from rfl, show (false == false) = true from rfl, show ((4 : Int) != 0) = true from rfl]
    exact ⟨_, rfl, rfl, by omega⟩
  · have hp := List.length_pos_iff.2 h0
    rw [if_neg h0]
    rw [if_neg (by decide)]
    by_cases h12 : way.length = 12
    · rw [if_pos h12]
      simp only [k72_77, k72_76, k72_108, k72_72, k72_104, k72_86, k72_118, k72_90, nT, nF, cF, cT, obs, show decide (way ≠ []) = true from decide_eq_true h0, show (false == true) = false from rfl, show ((way.length : Int) == 12) = true by simp; omega, show ((5 : Int) != 0) = true from rfl]
      exact ⟨_, rfl, rfl, by omega⟩
    · rw [if_neg h12, if_neg (by decide), if_neg (by decide), if_pos rfl]
      simp only [k72_77, k72_76, k72_108, k72_72, k72_104, k72_86, k72_118, k72_90, nT, nF, cF, cT, obs, show decide (way ≠ []) = true from decide_eq_true h0, show (false == true) = false from rfl, show ((way.length : Int) == 12) = false by simp; omega, show ((0 : Int) != 0) = false from rfl, wrap1 (show i < 4611686018427387904 by omega), i_count, show Lib.contains [72, 86, 104, 118] [72] = true from by decide, Sum.elim_inr]
      refine ic_oneK hW hs (by omega) true ways hw [72] (f := fun x => (x, (lastP way).2)) fun j x => ?_
      unfold F_i_path_next
      simp only [k72_77, k72_76, k72_108, k72_72, k72_104, k72_86, k72_118, k72_90, decide_eq_true (show (way.length : Int) > 0 by omega), cT, cF, last_idx h0 hw, last_get h0, obs, Sum.elim_inr]
      rfl
theorem i_cmd_104 {i : Nat} (he : W[i]? = some [104]) (ways : List Wy) {way : Wy} (hw : way.length ≤ 1000) (hwl : ways.length ≤ 1000) : ∃ r, F_i_path_command (W, ((i : Int), decide (way ≠ []))) ways way = some r ∧ EI W (cmdV W i ways way [104]) r := by
  have hlt := getL he
  unfold F_i_path_command F_i_path_fault
  simp only
  rw [getI_nat, he, obs, show ([[77], [76], [108], [72], [86], [104], [118], [90]] : List Str) = KWi from rfl, i_known, obs, decide_eq_true (show ([104] : Str) ∈ KW by decide)]
  unfold cmdV
  rw [if_neg (by decide), if_pos (show ([104] : Str) ∈ KW by decide)]
  by_cases h0 : way = []
  · subst h0
    rw [if_pos rfl]
    simp only [k104_77, k104_76, k104_108, k104_72, k104_104, k104_86, k104_118, k104_90, nT, nF, cF, cT, obs, show decide (([] : Wy) ≠ []) = false from rfl, show (false == false) = true from rfl, show ((4 : Int) != 0) = true from rfl]
    exact ⟨_, rfl, rfl, by omega⟩
  · have hp := List.length_pos_iff.2 h0
    rw [if_neg h0]
    rw [if_neg (by decide)]
    by_cases h12 : way.length = 12
    · rw [if_pos h12]
      simp only [k104_77, k104_76, k104_108, k104_72, k104_104, k104_86, k104_118, k104_90, nT, nF, cF, cT, obs, show decide (way ≠ []) = true from decide_eq_true h0, show (false == true) = false from rfl, show ((way.length : Int) == 12) = true by simp; omega, show ((5 : Int) != 0) = true from rfl]
      exact ⟨_, rfl, rfl, by omega⟩
    · rw [if_neg h12, if_neg (by decide), if_neg (by decide), if_neg (by decide), if_pos rfl]
      simp only [k104_77, k104_76, k104_108, k104_72, k104_104, k104_86, k104_118, k104_90, nT, nF, cF, cT, obs, show decide (way ≠ []) = true from decide_eq_true h0, show (false == true) = false from rfl, show ((way.length : Int) == 12) = false by simp; omega, show ((0 : Int) != 0) = false from rfl, wrap1 (show i < 4611686018427387904 by omega), i_count, show Lib.contains [72, 86, 104, 118] [104] = true from by decide, Sum.elim_inr]
      refine ic_oneK hW hs (by omega) true ways hw [104] (f := fun x => (IntKind.wrap .i64 ((lastP way).1 + x), (lastP way).2)) fun j x => ?_
      unfold F_i_path_next
      simp only [k104_77, k104_76, k104_108, k104_72, k104_104, k104_86, k104_118, k104_90, decide_eq_true (show (way.length : Int) > 0 by omega), cT, cF, last_idx h0 hw, last_get h0, obs, Sum.elim_inr]
      rfl
theorem i_cmd_86 {i : Nat} (he : W[i]? = some [86]) (ways : List Wy) {way : Wy} (hw : way.length ≤ 1000) (hwl : ways.length ≤ 1000) : ∃ r, F_i_path_command (W, ((i : Int), decide (way ≠ []))) ways way = some r ∧ EI W (cmdV W i ways way [86]) r := by
  have hlt := getL he
  unfold F_i_path_command F_i_path_fault
  simp only
  rw [getI_nat, he, obs, show ([[77], [76], [108], [72], [86], [104], [118], [90]] : List Str) = KWi from rfl, i_known, obs, decide_eq_true (show ([86] : Str) ∈ KW by decide)]
  unfold cmdV
  rw [if_neg (by decide), if_pos (show ([86] : Str) ∈ KW by decide)]
  by_cases h0 : way = []
  · subst h0
    rw [if_pos rfl]
    simp only [k86_77, k86_76, k86_108, k86_72, k86_104, k86_86, k86_118, k86_90, nT, nF, cF, cT, obs, show decide (([] : Wy) ≠ []) = false from rfl, show (false == false) = true from rfl, show ((4 : Int) != 0) = true from rfl]
    exact ⟨_, rfl, rfl, by omega⟩
  · have hp := List.length_pos_iff.2 h0
    rw [if_neg h0]
    rw [if_neg (by decide)]
    by_cases h12 : way.length = 12
    · rw [if_pos h12]
      simp only [k86_77, k86_76, k86_108, k86_72, k86_104, k86_86, k86_118, k86_90, nT, nF, cF, cT, obs, show decide (way ≠ []) = true from decide_eq_true h0, show (false == true) = false from rfl, show ((way.length : Int) == 12) = true by simp; omega, show ((5 : Int) != 0) = true from rfl]
      exact ⟨_, rfl, rfl, by omega⟩
    · rw [if_neg h12, if_neg (by decide), if_neg (by decide), if_neg (by decide), if_neg (by decide), if_pos rfl]
      simp only [k86_77, k86_76, k86_108, k86_72, k86_104, k86_86, k86_118, k86_90, nT, nF, cF, cT, obs, show decide (way ≠ []) = true from decide_eq_true h0, show (false == true) = false from rfl, show ((way.length : Int) == 12) = false by simp; omega, show ((0 : Int) != 0) = false from rfl, wrap1 (show i < 4611686018427387904 by omega), i_count, show Lib.contains [72, 86, 104, 118] [86] = true from by decide, Sum.elim_inr]
      refine ic_oneK hW hs (by omega) true ways hw [86] (f := fun x => ((lastP way).1, x)) fun j x => ?_
      unfold F_i_path_next
      simp only [k86_77, k86_76, k86_108, k86_72, k86_104, k86_86, k86_118, k86_90, decide_eq_true (show (way.length : Int) > 0 by omega), cT, cF, last_idx h0 hw, last_get h0, obs, Sum.elim_inr]
      rfl
theorem i_cmd_118 {i : Nat} (he : W[i]? = some [118]) (ways : List Wy) {way : Wy} (hw : way.length ≤ 1000) (hwl : ways.length ≤ 1000) : ∃ r, F_i_path_command (W, ((i : Int), decide (way ≠ []))) ways way = some r ∧ EI W (cmdV W i ways way [118]) r := by
  have hlt := getL he
  unfold F_i_path_command F_i_path_fault
  simp only
  rw [getI_nat, he, obs, show ([[77], [76], [108], [72], [86], [104], [118], [90]] : List Str) = KWi from rfl, i_known, obs, decide_eq_true (show ([118] : Str) ∈ KW by decide)]
  unfold cmdV
  rw [if_neg (by decide), if_pos (show ([118] : Str) ∈ KW by decide)]
  by_cases h0 : way = []
  · subst h0
    rw [if_pos rfl]
    simp only [k118_77, k118_76, k118_108, k118_72, k118_104, k118_86, k118_118, k118_90, nT, nF, cF, cT, obs, show decide (([] : Wy) ≠ []) = false from rfl, show (false == false) = true from rfl, show ((4 : Int) != 0) = true from rfl]
    exact ⟨_, rfl, rfl, by omega⟩
  · have hp := List.length_pos_iff.2 h0
    rw [if_neg h0]
    rw [if_neg (by decide)]
    by_cases h12 : way.length = 12
    · rw [if_pos h12]
      simp only [k118_77, k118_76, k118_108, k118_72, k118_104, k118_86, k118_118, k118_90, nT, nF, cF, cT, obs, show decide (way ≠ []) = true from decide_eq_true h0, show (false == true) = false from rfl, show ((way.length : Int) == 12) = true by simp; omega, show ((5 : Int) != 0) = true from rfl]
      exact ⟨_, rfl, rfl, by omega⟩
    · rw [if_neg h12, if_neg (by decide), if_neg (by decide), if_neg (by decide), if_neg (by decide), if_neg (by decide)]
      simp only [k118_77, k118_76, k118_108, k118_72, k118_104, k118_86, k118_118, k118_90, nT, nF, cF, cT, obs, show decide (way ≠ []) = true from decide_eq_true h0, show (false == true) = false from rfl, show ((way.length : Int) == 12) = false by simp; omega, show ((0 : Int) != 0) = false from rfl, wrap1 (show i < 4611686018427387904 by omega), i_count, show Lib.contains [72, 86, 104, 118] [118] = true from by decide, Sum.elim_inr]
      refine ic_oneK hW hs (by omega) true ways hw [118] (f := fun x => ((lastP way).1, IntKind.wrap .i64 ((lastP way).2 + x))) fun j x => ?_
      unfold F_i_path_next
      simp only [k118_77, k118_76, k118_108, k118_72, k118_104, k118_86, k118_118, k118_90, decide_eq_true (show (way.length : Int) > 0 by omega), cT, cF, last_idx h0 hw, last_get h0, obs, Sum.elim_inr]
      rfl
theorem i_cmd_90 {i : Nat} (he : W[i]? = some [90]) (ways : List Wy) {way : Wy} (hw : way.length ≤ 1000) (hwl : ways.length ≤ 1000) : ∃ r, F_i_path_command (W, ((i : Int), decide (way ≠ []))) ways way = some r ∧ EI W (cmdV W i ways way [90]) r := by
  have hlt := getL he
  unfold F_i_path_command F_i_path_fault
  simp only
  rw [getI_nat, he, obs, show ([[77], [76], [108], [72], [86], [104], [118], [90]] : List Str) = KWi from rfl, i_known, obs, decide_eq_true (show ([90] : Str) ∈ KW by decide)]
  unfold cmdV
  rw [if_neg (by decide), if_pos (show ([90] : Str) ∈ KW by decide)]
  by_cases h0 : way = []
  · subst h0
    rw [if_pos rfl]
    simp only [k90_77, k90_76, k90_108, k90_72, k90_104, k90_86, k90_118, k90_90, nT, nF, cF, cT, obs, show decide (([] : Wy) ≠ []) = false from rfl, show (false == false) = true from rfl, show ((4 : Int) != 0) = true from rfl]
    exact ⟨_, rfl, rfl, by omega⟩
  · have hp := List.length_pos_iff.2 h0
    rw [if_neg h0]
    rw [if_pos rfl]
    by_cases h3 : way.length < 3
    · rw [if_pos h3]
      simp only [k90_77, k90_76, k90_108, k90_72, k90_104, k90_86, k90_118, k90_90, nT, nF, cF, cT, obs, show decide (way ≠ []) = true from decide_eq_true h0, show (false == true) = false from rfl, decide_eq_true (show (way.length : Int) < 3 by omega), show ((5 : Int) != 0) = true from rfl]
      exact ⟨_, rfl, rfl, by omega⟩
    · rw [if_neg h3]
      simp only [k90_77, k90_76, k90_108, k90_72, k90_104, k90_86, k90_118, k90_90, nT, nF, cF, cT, obs, show decide (way ≠ []) = true from decide_eq_true h0, show (false == true) = false from rfl, decide_eq_false (show ¬ (way.length : Int) < 3 by omega), show ((0 : Int) != 0) = false from rfl, wrap1 (show i < 4611686018427387904 by omega)]
      rw [appL_is (by simp [maxBytes]; omega) (by simp [maxBytes]; omega), obs]
      exact ⟨_, rfl, rfl⟩

theorem i_command {i : Nat} {w : Str} (he : W[i]? = some w) (ways : List Wy) {way : Wy} (hw : way.length ≤ 1000) (hwl : ways.length ≤ 1000) : ∃ r, F_i_path_command (W, ((i : Int), decide (way ≠ []))) ways way = some r ∧ EI W (cmdV W i ways way w) r := by
  by_cases hk : w ∈ KW
  · have hk' : w = [77] ∨ w = [76] ∨ w = [108] ∨ w = [72] ∨ w = [104] ∨ w = [86] ∨ w = [118] ∨ w = [90] := by simpa [KW] using hk
    rcases hk' with rfl | rfl | rfl | rfl | rfl | rfl | rfl | rfl
    · exact i_cmd_77 hW hs he ways hw hwl
    · exact i_cmd_76 hW hs he ways hw hwl
    · exact i_cmd_108 hW hs he ways hw hwl
    · exact i_cmd_72 hW hs he ways hw hwl
    · exact i_cmd_104 hW hs he ways hw hwl
    · exact i_cmd_86 hW hs he ways hw hwl
    · exact i_cmd_118 hW hs he ways hw hwl
    · exact i_cmd_90 hW hs he ways hw hwl
  · exact i_cmd_no hW hs he hk _ ways way
end
end Go.Proofs.YtnhibkgoinnmcaaDoor.Ev
