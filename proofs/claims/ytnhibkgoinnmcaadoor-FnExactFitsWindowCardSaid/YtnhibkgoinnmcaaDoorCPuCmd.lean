/- A command of the reference's parser, word by word (made by mkcmd.py). -/
import Derived.Test.YtnhibkgoinnmcaaDoorCPuParse
namespace Go.Proofs.YtnhibkgoinnmcaaDoor.Ev
open Go
set_option linter.unusedVariables false
set_option linter.unusedSimpArgs false
set_option linter.unusedSectionVars false

def KW : List Str := [[77], [76], [108], [72], [104], [86], [118], [90]]
def lastP (way : Wy) : Pn := way.getLast?.getD (0, 0)
/-- What a word does. -/
def cmdV (W : List Str) (i : Nat) (ways : List Wy) (way : Wy) (w : Str) : CV :=
  if w = [77] then (if way = [] then (if ways.length = 4 then .inl (5, i) else two W (i + 1) ways way (fun x y => (x, y))) else .inl (4, i))
  else if w ∈ KW then
    (if way = [] then .inl (4, i)
    else if w = [90] then (if way.length < 3 then .inl (5, i) else .inr (i + 1, ways ++ [way], []))
    else if way.length = 12 then .inl (5, i)
    else if w = [76] then two W (i + 1) ways way (fun x y => (x, y))
    else if w = [108] then two W (i + 1) ways way (fun x y => (IntKind.wrap .i64 ((lastP way).1 + x), IntKind.wrap .i64 ((lastP way).2 + y)))
    else if w = [72] then one W (i + 1) ways way (fun x => (x, (lastP way).2))
    else if w = [104] then one W (i + 1) ways way (fun x => (IntKind.wrap .i64 ((lastP way).1 + x), (lastP way).2))
    else if w = [86] then one W (i + 1) ways way (fun x => ((lastP way).1, x))
    else one W (i + 1) ways way (fun x => ((lastP way).1, IntKind.wrap .i64 ((lastP way).2 + x))))
  else .inl (2, i)

theorem k77_77 : (([77] : Str) == [77]) = true := rfl
theorem k77_76 : (([77] : Str) == [76]) = false := rfl
theorem k77_108 : (([77] : Str) == [108]) = false := rfl
theorem k77_72 : (([77] : Str) == [72]) = false := rfl
theorem k77_104 : (([77] : Str) == [104]) = false := rfl
theorem k77_86 : (([77] : Str) == [86]) = false := rfl
theorem k77_118 : (([77] : Str) == [118]) = false := rfl
theorem k77_90 : (([77] : Str) == [90]) = false := rfl
theorem k76_77 : (([76] : Str) == [77]) = false := rfl
theorem k76_76 : (([76] : Str) == [76]) = true := rfl
theorem k76_108 : (([76] : Str) == [108]) = false := rfl
theorem k76_72 : (([76] : Str) == [72]) = false := rfl
theorem k76_104 : (([76] : Str) == [104]) = false := rfl
theorem k76_86 : (([76] : Str) == [86]) = false := rfl
theorem k76_118 : (([76] : Str) == [118]) = false := rfl
theorem k76_90 : (([76] : Str) == [90]) = false := rfl
theorem k108_77 : (([108] : Str) == [77]) = false := rfl
theorem k108_76 : (([108] : Str) == [76]) = false := rfl
theorem k108_108 : (([108] : Str) == [108]) = true := rfl
theorem k108_72 : (([108] : Str) == [72]) = false := rfl
theorem k108_104 : (([108] : Str) == [104]) = false := rfl
theorem k108_86 : (([108] : Str) == [86]) = false := rfl
theorem k108_118 : (([108] : Str) == [118]) = false := rfl
theorem k108_90 : (([108] : Str) == [90]) = false := rfl
theorem k72_77 : (([72] : Str) == [77]) = false := rfl
theorem k72_76 : (([72] : Str) == [76]) = false := rfl
theorem k72_108 : (([72] : Str) == [108]) = false := rfl
theorem k72_72 : (([72] : Str) == [72]) = true := rfl
theorem k72_104 : (([72] : Str) == [104]) = false := rfl
theorem k72_86 : (([72] : Str) == [86]) = false := rfl
theorem k72_118 : (([72] : Str) == [118]) = false := rfl
theorem k72_90 : (([72] : Str) == [90]) = false := rfl
theorem k104_77 : (([104] : Str) == [77]) = false := rfl
theorem k104_76 : (([104] : Str) == [76]) = false := rfl
theorem k104_108 : (([104] : Str) == [108]) = false := rfl
theorem k104_72 : (([104] : Str) == [72]) = false := rfl
theorem k104_104 : (([104] : Str) == [104]) = true := rfl
theorem k104_86 : (([104] : Str) == [86]) = false := rfl
theorem k104_118 : (([104] : Str) == [118]) = false := rfl
theorem k104_90 : (([104] : Str) == [90]) = false := rfl
theorem k86_77 : (([86] : Str) == [77]) = false := rfl
theorem k86_76 : (([86] : Str) == [76]) = false := rfl
theorem k86_108 : (([86] : Str) == [108]) = false := rfl
theorem k86_72 : (([86] : Str) == [72]) = false := rfl
theorem k86_104 : (([86] : Str) == [104]) = false := rfl
theorem k86_86 : (([86] : Str) == [86]) = true := rfl
theorem k86_118 : (([86] : Str) == [118]) = false := rfl
theorem k86_90 : (([86] : Str) == [90]) = false := rfl
theorem k118_77 : (([118] : Str) == [77]) = false := rfl
theorem k118_76 : (([118] : Str) == [76]) = false := rfl
theorem k118_108 : (([118] : Str) == [108]) = false := rfl
theorem k118_72 : (([118] : Str) == [72]) = false := rfl
theorem k118_104 : (([118] : Str) == [104]) = false := rfl
theorem k118_86 : (([118] : Str) == [86]) = false := rfl
theorem k118_118 : (([118] : Str) == [118]) = true := rfl
theorem k118_90 : (([118] : Str) == [90]) = false := rfl
theorem k90_77 : (([90] : Str) == [77]) = false := rfl
theorem k90_76 : (([90] : Str) == [76]) = false := rfl
theorem k90_108 : (([90] : Str) == [108]) = false := rfl
theorem k90_72 : (([90] : Str) == [72]) = false := rfl
theorem k90_104 : (([90] : Str) == [104]) = false := rfl
theorem k90_86 : (([90] : Str) == [86]) = false := rfl
theorem k90_118 : (([90] : Str) == [118]) = false := rfl
theorem k90_90 : (([90] : Str) == [90]) = true := rfl

theorem last_get {way : Wy} (h : way ≠ []) : getN way (way.length - 1) = some (lastP way) := by
  have hp := List.length_pos_iff.2 h
  have e : way[way.length - 1]? = some (way[way.length - 1]'(by omega)) := List.getElem?_eq_getElem (by omega)
  show way[way.length - 1]? = _
  unfold lastP
  rw [List.getLast?_eq_getElem?, e]
  rfl
theorem last_idx {way : Wy} (h : way ≠ []) (hl : way.length ≤ 1000) : idxI (IntKind.wrap .i64 ((way.length : Int) - 1)) way.length = some (way.length - 1) := by
  have hp := List.length_pos_iff.2 h
  rw [wrapI (by omega) (by omega), show (way.length : Int) - 1 = ((way.length - 1 : Nat) : Int) by omega, idxI_nat (by omega)]

theorem kw_loop (W : List Str) (i : Int) (ways : List Wy) (way : Wy) (w : Str) (o : Bool) :
    loopM (fun (s : ((List Str × (Int × Int)) × (List Str × (List Wy × (Wy × (Str × (Bool × (Bool × (Int × Int)))))))) ) => B_s_l16P_command_0 s.1 s.2.1 s.2.2.1 s.2.2.2.1 s.2.2.2.2.1 s.2.2.2.2.2.1 s.2.2.2.2.2.2.1 s.2.2.2.2.2.2.2.1 s.2.2.2.2.2.2.2.2)
      ((W, (i, 0)), (KW, (ways, (way, (w, (o, (false, (((8 : Nat) : Int), (0 : Int))))))))) = some ((W, (i, 0)), (ways, (way, (w, (o, decide (w ∈ KW)))))) := by
  obtain ⟨_, h1, _⟩ := up_loop (body := fun (s : ((List Str × (Int × Int)) × (List Str × (List Wy × (Wy × (Str × (Bool × (Bool × (Int × Int)))))))) ) => B_s_l16P_command_0 s.1 s.2.1 s.2.2.1 s.2.2.2.1 s.2.2.2.2.1 s.2.2.2.2.2.1 s.2.2.2.2.2.2.1 s.2.2.2.2.2.2.2.1 s.2.2.2.2.2.2.2.2)
    (fun k (_ : Unit) => ((W, (i, 0)), (KW, (ways, (way, (w, (o, (decide (w ∈ KW.take k), (((8 : Nat) : Int), (k : Int))))))))) ) (fun _ => ((W, (i, 0)), (ways, (way, (w, (o, decide (w ∈ KW))))))) (fun _ _ => True) 8 (by
      intro k _ hk _
      have he : KW[k]? = some (KW[k]'hk) := List.getElem?_eq_getElem hk
      generalize hx : (KW[k]'hk) = x at he
      refine ⟨(), ?_, trivial⟩
      unfold B_s_l16P_command_0
      simp only
      rw [decide_eq_true (by omega), cT, show idxI (k : Int) KW.length = some k from idxI_nat hk, obs, show getN KW k = some x from he, obs, List.take_add_one, he, wrap1 (by omega)]
      by_cases hm : w ∈ KW.take k
      · rw [decide_eq_true hm, cT, decide_eq_true (List.mem_append_left _ hm)]
      · rw [decide_eq_false hm, cF]
        by_cases hxw : x = w
        · subst hxw
          rw [beq_self_eq_true, decide_eq_true (List.mem_append_right _ (by simp))]
        · rw [beq_eq_false_iff_ne.2 hxw, decide_eq_false]
          intro h
          rcases List.mem_append.1 h with h | h
          · exact hm h
          · simp at h; exact hxw h.symm) (by
      intro _ _
      unfold B_s_l16P_command_0
      simp only
      rw [decide_eq_false (by omega), cF]
      rfl) 0 () (by omega) trivial
  exact h1

section
variable {W : List Str} (hW : W.length ≤ 1000) (hs : ∀ w ∈ W, w.length ≤ 1000)
include hW hs
theorem s_cmd_no {i : Nat} {w : Str} (he : W[i]? = some w) (hk : w ∉ KW) (ways : List Wy) {way : Wy} (hw : way.length ≤ 1000) : F_s_l16P_command (W, (i : Int), 0) ways way = some (encS W ways way (cmdV W i ways way w)) := by
  unfold F_s_l16P_command
  simp only
  rw [getI_nat, he, obs, show ([[77], [76], [108], [72], [104], [86], [118], [90]] : List Str) = KW from rfl, kw_loop W _ ways way _ _, obs]
  have h77 : w ≠ [77] := fun h => hk (by rw [h]; decide)
  unfold cmdV
  rw [if_neg h77, if_neg hk, decide_eq_false hk, nF]
  simp only [cond_true, Option.bind_some, Sum.elim_inr]
  rfl
theorem s_cmd_77 {i : Nat} (he : W[i]? = some [77]) (ways : List Wy) {way : Wy} (hw : way.length ≤ 1000) : F_s_l16P_command (W, (i : Int), 0) ways way = some (encS W ways way (cmdV W i ways way [77])) := by
  have hlt := getL he
  unfold F_s_l16P_command
  simp only
  rw [getI_nat, he, obs, show ([[77], [76], [108], [72], [104], [86], [118], [90]] : List Str) = KW from rfl, kw_loop W _ ways way _ _, obs]
  unfold cmdV
  rw [if_pos rfl, decide_eq_true (show ([77] : Str) ∈ KW by decide)]
  by_cases h0 : way = []
  · subst h0
    rw [if_pos rfl]
    by_cases h4 : ways.length = 4
    · have h4' : ((ways.length : Int) == 4) = true := by simp [h4]
      rw [if_pos h4]
      simp only [k77_77, k77_76, k77_108, k77_72, k77_104, k77_86, k77_118, k77_90, h4', nT, cF, cT, List.length_nil, show decide (((0 : Nat) : Int) > 0) = false from rfl, show (false == true) = false from rfl, obs, Sum.elim_inr, show ((5 : Int) != 0) = true from rfl]
      rfl
    · have h4' : ((ways.length : Int) == 4) = false := by simp; omega
      rw [if_neg h4]
      simp only [k77_77, k77_76, k77_108, k77_72, k77_104, k77_86, k77_118, k77_90, h4', nT, nF, cF, cT, List.length_nil, show decide (((0 : Nat) : Int) > 0) = false from rfl, show (false == true) = false from rfl, obs, Sum.elim_inr, show ((0 : Int) != 0) = false from rfl, show (((0 : Nat) : Int) == 12) = false from rfl, wrap1 (show i < 4611686018427387904 by omega)]
      exact numS2_is hW hs (by omega) ways (by simp) (fun x y => (x, y))
  · have hp := List.length_pos_iff.2 h0
    rw [if_neg h0]
    simp only [k77_77, k77_76, k77_108, k77_72, k77_104, k77_86, k77_118, k77_90, nT, cF, cT, decide_eq_true (show (way.length : Int) > 0 by omega), show (true == true) = true from rfl, obs, Sum.elim_inr, show ((4 : Int) != 0) = true from rfl]
    rfl
theorem s_cmd_76 {i : Nat} (he : W[i]? = some [76]) (ways : List Wy) {way : Wy} (hw : way.length ≤ 1000) : F_s_l16P_command (W, (i : Int), 0) ways way = some (encS W ways way (cmdV W i ways way [76])) := by
  have hlt := getL he
  unfold F_s_l16P_command
  simp only
  rw [getI_nat, he, obs, show ([[77], [76], [108], [72], [104], [86], [118], [90]] : List Str) = KW from rfl, kw_loop W _ ways way _ _, obs]
  unfold cmdV
  rw [if_neg (by decide), if_pos (show ([76] : Str) ∈ KW by decide), decide_eq_true (show ([76] : Str) ∈ KW by decide)]
  by_cases h0 : way = []
  · subst h0
    rw [if_pos rfl]
    simp only [k76_77, k76_76, k76_108, k76_72, k76_104, k76_86, k76_118, k76_90, nT, cF, cT, List.length_nil, show decide (((0 : Nat) : Int) > 0) = false from rfl, show (false == false) = true from rfl, obs, Sum.elim_inr, show ((4 : Int) != 0) = true from rfl]
    rfl
  · have hp := List.length_pos_iff.2 h0
    rw [if_neg h0]
    rw [if_neg (by decide)]
    by_cases h12 : way.length = 12
    · rw [if_pos h12]
      simp only [k76_77, k76_76, k76_108, k76_72, k76_104, k76_86, k76_118, k76_90, nT, nF, cF, cT, decide_eq_true (show (way.length : Int) > 0 by omega), show (true == false) = false from rfl, obs, Sum.elim_inr, show ((way.length : Int) == 12) = true by simp; omega, show ((5 : Int) != 0) = true from rfl]
      rfl
    · rw [if_neg h12, if_pos rfl]
      simp only [k76_77, k76_76, k76_108, k76_72, k76_104, k76_86, k76_118, k76_90, nT, nF, cF, cT, decide_eq_true (show (way.length : Int) > 0 by omega), show (true == false) = false from rfl, obs, Sum.elim_inr, show ((way.length : Int) == 12) = false by simp; omega, show ((0 : Int) != 0) = false from rfl, last_idx h0 hw, last_get h0, wrap1 (show i < 4611686018427387904 by omega)]
      exact numS2_is hW hs (by omega) ways hw (fun x y => (x, y))
theorem s_cmd_108 {i : Nat} (he : W[i]? = some [108]) (ways : List Wy) {way : Wy} (hw : way.length ≤ 1000) : F_s_l16P_command (W, (i : Int), 0) ways way = some (encS W ways way (cmdV W i ways way [108])) := by
  have hlt := getL he
  unfold F_s_l16P_command
  simp only
  rw [getI_nat, he, obs, show ([[77], [76], [108], [72], [104], [86], [118], [90]] : List Str) = KW from rfl, kw_loop W _ ways way _ _, obs]
  unfold cmdV
  rw [if_neg (by decide), if_pos (show ([108] : Str) ∈ KW by decide), decide_eq_true (show ([108] : Str) ∈ KW by decide)]
  by_cases h0 : way = []
  · subst h0
    rw [if_pos rfl]
    simp only [k108_77, k108_76, k108_108, k108_72, k108_104, k108_86, k108_118, k108_90, nT, cF, cT, List.length_nil, show decide (((0 : Nat) : Int) > 0) = false from rfl, show (false == false) = true from rfl, obs, Sum.elim_inr, show ((4 : Int) != 0) = true from rfl]
    rfl
  · have hp := List.length_pos_iff.2 h0
    rw [if_neg h0]
    rw [if_neg (by decide)]
    by_cases h12 : way.length = 12
    · rw [if_pos h12]
      simp only [k108_77, k108_76, k108_108, k108_72, k108_104, k108_86, k108_118, k108_90, nT, nF, cF, cT, decide_eq_true (show (way.length : Int) > 0 by omega), show (true == false) = false from rfl, obs, Sum.elim_inr, show ((way.length : Int) == 12) = true by simp; omega, show ((5 : Int) != 0) = true from rfl]
      rfl
    · rw [if_neg h12, if_neg (by decide), if_pos rfl]
      simp only [k108_77, k108_76, k108_108, k108_72, k108_104, k108_86, k108_118, k108_90, nT, nF, cF, cT, decide_eq_true (show (way.length : Int) > 0 by omega), show (true == false) = false from rfl, obs, Sum.elim_inr, show ((way.length : Int) == 12) = false by simp; omega, show ((0 : Int) != 0) = false from rfl, last_idx h0 hw, last_get h0, wrap1 (show i < 4611686018427387904 by omega)]
      exact numS2_is hW hs (by omega) ways hw (fun x y => (IntKind.wrap .i64 ((lastP way).1 + x), IntKind.wrap .i64 ((lastP way).2 + y)))
theorem s_cmd_72 {i : Nat} (he : W[i]? = some [72]) (ways : List Wy) {way : Wy} (hw : way.length ≤ 1000) : F_s_l16P_command (W, (i : Int), 0) ways way = some (encS W ways way (cmdV W i ways way [72])) := by
  have hlt := getL he
  unfold F_s_l16P_command
  simp only
  rw [getI_nat, he, obs, show ([[77], [76], [108], [72], [104], [86], [118], [90]] : List Str) = KW from rfl, kw_loop W _ ways way _ _, obs]
  unfold cmdV
  rw [if_neg (by decide), if_pos (show ([72] : Str) ∈ KW by decide), decide_eq_true (show ([72] : Str) ∈ KW by decide)]
  by_cases h0 : way = []
  · subst h0
    rw [if_pos rfl]
    simp only [k72_77, k72_76, k72_108, k72_72, k72_104, k72_86, k72_118, k72_90, nT, cF, cT, List.length_nil, show decide (((0 : Nat) : Int) > 0) = false from rfl, show (false == false) = true from rfl, obs, Sum.elim_inr, show ((4 : Int) != 0) = true from rfl]
    rfl
  · have hp := List.length_pos_iff.2 h0
    rw [if_neg h0]
    rw [if_neg (by decide)]
    by_cases h12 : way.length = 12
    · rw [if_pos h12]
      simp only [k72_77, k72_76, k72_108, k72_72, k72_104, k72_86, k72_118, k72_90, nT, nF, cF, cT, decide_eq_true (show (way.length : Int) > 0 by omega), show (true == false) = false from rfl, obs, Sum.elim_inr, show ((way.length : Int) == 12) = true by simp; omega, show ((5 : Int) != 0) = true from rfl]
      rfl
    · rw [if_neg h12, if_neg (by decide), if_neg (by decide), if_pos rfl]
      simp only [k72_77, k72_76, k72_108, k72_72, k72_104, k72_86, k72_118, k72_90, nT, nF, cF, cT, decide_eq_true (show (way.length : Int) > 0 by omega), show (true == false) = false from rfl, obs, Sum.elim_inr, show ((way.length : Int) == 12) = false by simp; omega, show ((0 : Int) != 0) = false from rfl, last_idx h0 hw, last_get h0, wrap1 (show i < 4611686018427387904 by omega)]
      exact numS1_is hW hs (by omega) ways hw (fun x => (x, (lastP way).2))
theorem s_cmd_104 {i : Nat} (he : W[i]? = some [104]) (ways : List Wy) {way : Wy} (hw : way.length ≤ 1000) : F_s_l16P_command (W, (i : Int), 0) ways way = some (encS W ways way (cmdV W i ways way [104])) := by
  have hlt := getL he
  unfold F_s_l16P_command
  simp only
  rw [getI_nat, he, obs, show ([[77], [76], [108], [72], [104], [86], [118], [90]] : List Str) = KW from rfl, kw_loop W _ ways way _ _, obs]
  unfold cmdV
  rw [if_neg (by decide), if_pos (show ([104] : Str) ∈ KW by decide), decide_eq_true (show ([104] : Str) ∈ KW by decide)]
  by_cases h0 : way = []
  · subst h0
    rw [if_pos rfl]
    simp only [k104_77, k104_76, k104_108, k104_72, k104_104, k104_86, k104_118, k104_90, nT, cF, cT, List.length_nil, show decide (((0 : Nat) : Int) > 0) = false from rfl, show (false == false) = true from rfl, obs, Sum.elim_inr, show ((4 : Int) != 0) = true from rfl]
    rfl
  · have hp := List.length_pos_iff.2 h0
    rw [if_neg h0]
    rw [if_neg (by decide)]
    by_cases h12 : way.length = 12
    · rw [if_pos h12]
      simp only [k104_77, k104_76, k104_108, k104_72, k104_104, k104_86, k104_118, k104_90, nT, nF, cF, cT, decide_eq_true (show (way.length : Int) > 0 by omega), show (true == false) = false from rfl, obs, Sum.elim_inr, show ((way.length : Int) == 12) = true by simp; omega, show ((5 : Int) != 0) = true from rfl]
      rfl
    · rw [if_neg h12, if_neg (by decide), if_neg (by decide), if_neg (by decide), if_pos rfl]
      simp only [k104_77, k104_76, k104_108, k104_72, k104_104, k104_86, k104_118, k104_90, nT, nF, cF, cT, decide_eq_true (show (way.length : Int) > 0 by omega), show (true == false) = false from rfl, obs, Sum.elim_inr, show ((way.length : Int) == 12) = false by simp; omega, show ((0 : Int) != 0) = false from rfl, last_idx h0 hw, last_get h0, wrap1 (show i < 4611686018427387904 by omega)]
      exact numS1_is hW hs (by omega) ways hw (fun x => (IntKind.wrap .i64 ((lastP way).1 + x), (lastP way).2))
theorem s_cmd_86 {i : Nat} (he : W[i]? = some [86]) (ways : List Wy) {way : Wy} (hw : way.length ≤ 1000) : F_s_l16P_command (W, (i : Int), 0) ways way = some (encS W ways way (cmdV W i ways way [86])) := by
  have hlt := getL he
  unfold F_s_l16P_command
  simp only
  rw [getI_nat, he, obs, show ([[77], [76], [108], [72], [104], [86], [118], [90]] : List Str) = KW from rfl, kw_loop W _ ways way _ _, obs]
  unfold cmdV
  rw [if_neg (by decide), if_pos (show ([86] : Str) ∈ KW by decide), decide_eq_true (show ([86] : Str) ∈ KW by decide)]
  by_cases h0 : way = []
  · subst h0
    rw [if_pos rfl]
    simp only [k86_77, k86_76, k86_108, k86_72, k86_104, k86_86, k86_118, k86_90, nT, cF, cT, List.length_nil, show decide (((0 : Nat) : Int) > 0) = false from rfl, show (false == false) = true from rfl, obs, Sum.elim_inr, show ((4 : Int) != 0) = true from rfl]
    rfl
  · have hp := List.length_pos_iff.2 h0
    rw [if_neg h0]
    rw [if_neg (by decide)]
    by_cases h12 : way.length = 12
    · rw [if_pos h12]
      simp only [k86_77, k86_76, k86_108, k86_72, k86_104, k86_86, k86_118, k86_90, nT, nF, cF, cT, decide_eq_true (show (way.length : Int) > 0 by omega), show (true == false) = false from rfl, obs, Sum.elim_inr, show ((way.length : Int) == 12) = true by simp; omega, show ((5 : Int) != 0) = true from rfl]
      rfl
    · rw [if_neg h12, if_neg (by decide), if_neg (by decide), if_neg (by decide), if_neg (by decide), if_pos rfl]
      simp only [k86_77, k86_76, k86_108, k86_72, k86_104, k86_86, k86_118, k86_90, nT, nF, cF, cT, decide_eq_true (show (way.length : Int) > 0 by omega), show (true == false) = false from rfl, obs, Sum.elim_inr, show ((way.length : Int) == 12) = false by simp; omega, show ((0 : Int) != 0) = false from rfl, last_idx h0 hw, last_get h0, wrap1 (show i < 4611686018427387904 by omega)]
      exact numS1_is hW hs (by omega) ways hw (fun x => ((lastP way).1, x))
theorem s_cmd_118 {i : Nat} (he : W[i]? = some [118]) (ways : List Wy) {way : Wy} (hw : way.length ≤ 1000) : F_s_l16P_command (W, (i : Int), 0) ways way = some (encS W ways way (cmdV W i ways way [118])) := by
  have hlt := getL he
  unfold F_s_l16P_command
  simp only
  rw [getI_nat, he, obs, show ([[77], [76], [108], [72], [104], [86], [118], [90]] : List Str) = KW from rfl, kw_loop W _ ways way _ _, obs]
  unfold cmdV
  rw [if_neg (by decide), if_pos (show ([118] : Str) ∈ KW by decide), decide_eq_true (show ([118] : Str) ∈ KW by decide)]
  by_cases h0 : way = []
  · subst h0
    rw [if_pos rfl]
    simp only [k118_77, k118_76, k118_108, k118_72, k118_104, k118_86, k118_118, k118_90, nT, cF, cT, List.length_nil, show decide (((0 : Nat) : Int) > 0) = false from rfl, show (false == false) = true from rfl, obs, Sum.elim_inr, show ((4 : Int) != 0) = true from rfl]
    rfl
  · have hp := List.length_pos_iff.2 h0
    rw [if_neg h0]
    rw [if_neg (by decide)]
    by_cases h12 : way.length = 12
    · rw [if_pos h12]
      simp only [k118_77, k118_76, k118_108, k118_72, k118_104, k118_86, k118_118, k118_90, nT, nF, cF, cT, decide_eq_true (show (way.length : Int) > 0 by omega), show (true == false) = false from rfl, obs, Sum.elim_inr, show ((way.length : Int) == 12) = true by simp; omega, show ((5 : Int) != 0) = true from rfl]
      rfl
    · rw [if_neg h12, if_neg (by decide), if_neg (by decide), if_neg (by decide), if_neg (by decide), if_neg (by decide)]
      simp only [k118_77, k118_76, k118_108, k118_72, k118_104, k118_86, k118_118, k118_90, nT, nF, cF, cT, decide_eq_true (show (way.length : Int) > 0 by omega), show (true == false) = false from rfl, obs, Sum.elim_inr, show ((way.length : Int) == 12) = false by simp; omega, show ((0 : Int) != 0) = false from rfl, last_idx h0 hw, last_get h0, wrap1 (show i < 4611686018427387904 by omega)]
      exact numS1_is hW hs (by omega) ways hw (fun x => ((lastP way).1, IntKind.wrap .i64 ((lastP way).2 + x)))
theorem s_cmd_90 {i : Nat} (he : W[i]? = some [90]) (ways : List Wy) {way : Wy} (hw : way.length ≤ 1000) (hwl : ways.length ≤ 1000) : F_s_l16P_command (W, (i : Int), 0) ways way = some (encS W ways way (cmdV W i ways way [90])) := by
  have hlt := getL he
  unfold F_s_l16P_command
  simp only
  rw [getI_nat, he, obs, show ([[77], [76], [108], [72], [104], [86], [118], [90]] : List Str) = KW from rfl, kw_loop W _ ways way _ _, obs]
  unfold cmdV
  rw [if_neg (by decide), if_pos (show ([90] : Str) ∈ KW by decide), decide_eq_true (show ([90] : Str) ∈ KW by decide)]
  by_cases h0 : way = []
  · subst h0
    rw [if_pos rfl]
    simp only [k90_77, k90_76, k90_108, k90_72, k90_104, k90_86, k90_118, k90_90, nT, cF, cT, List.length_nil, show decide (((0 : Nat) : Int) > 0) = false from rfl, show (false == false) = true from rfl, obs, Sum.elim_inr, show ((4 : Int) != 0) = true from rfl]
    rfl
  · have hp := List.length_pos_iff.2 h0
    rw [if_neg h0]
    rw [if_pos rfl]
    by_cases h3 : way.length < 3
    · rw [if_pos h3]
      simp only [k90_77, k90_76, k90_108, k90_72, k90_104, k90_86, k90_118, k90_90, nT, nF, cF, cT, decide_eq_true (show (way.length : Int) > 0 by omega), show (true == false) = false from rfl, obs, Sum.elim_inr, decide_eq_true (show (way.length : Int) < 3 by omega), show ((5 : Int) != 0) = true from rfl]
      rfl
    · rw [if_neg h3]
      simp only [k90_77, k90_76, k90_108, k90_72, k90_104, k90_86, k90_118, k90_90, nT, nF, cF, cT, decide_eq_true (show (way.length : Int) > 0 by omega), show (true == false) = false from rfl, obs, Sum.elim_inr, decide_eq_false (show ¬ (way.length : Int) < 3 by omega), show ((0 : Int) != 0) = false from rfl, last_idx h0 hw, last_get h0, wrap1 (show i < 4611686018427387904 by omega)]
      rw [appL_is (by simp [maxBytes]; omega) (by simp [maxBytes]; omega), obs]
      rfl

theorem s_command {i : Nat} {w : Str} (he : W[i]? = some w) (ways : List Wy) {way : Wy} (hw : way.length ≤ 1000) (hwl : ways.length ≤ 1000) : F_s_l16P_command (W, (i : Int), 0) ways way = some (encS W ways way (cmdV W i ways way w)) := by
  by_cases hk : w ∈ KW
  · have hk' : w = [77] ∨ w = [76] ∨ w = [108] ∨ w = [72] ∨ w = [104] ∨ w = [86] ∨ w = [118] ∨ w = [90] := by simpa [KW] using hk
    rcases hk' with rfl | rfl | rfl | rfl | rfl | rfl | rfl | rfl
    · exact s_cmd_77 hW hs he ways hw
    · exact s_cmd_76 hW hs he ways hw
    · exact s_cmd_108 hW hs he ways hw
    · exact s_cmd_72 hW hs he ways hw
    · exact s_cmd_104 hW hs he ways hw
    · exact s_cmd_86 hW hs he ways hw
    · exact s_cmd_118 hW hs he ways hw
    · exact s_cmd_90 hW hs he ways hw hwl
  · exact s_cmd_no hW hs he hk ways hw
end
end Go.Proofs.YtnhibkgoinnmcaaDoor.Ev
