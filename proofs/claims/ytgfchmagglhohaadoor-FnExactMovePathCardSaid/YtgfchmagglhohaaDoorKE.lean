/- Whatever comes in, the law of this claim answers true, and nothing that was handed in changes. -/
import Derived.Test.YtgfchmagglhohaaDoorKD
import Derived.Lib.ItoaNum
import Derived.Lib.ItoaLen
import Derived.Lib.Join
import Derived.Test.YtgfchmagglhohaaDoorRows
import Derived.Test.YtgfchmagglhohaaDoorCards
import Derived.Test.YtgfchmagglhohaaDoorTie
import Derived.WalkKit
import Derived.ProofKit
import Derived.OpenShut
import Derived.ShutString
import Derived.ChangeOld
import Derived.Below
import Derived.SizedLaws
import Derived.SevenTiedAt
import Derived.LaidMore
import Derived.Lay
import Derived.Stop.Joined
import Derived.Test.YtgfchmagglhohaaDoorChecked
section
namespace Go.Proofs.YtgfchmagglhohaaDoor.Ev
open Go
set_option linter.unusedVariables false
set_option linter.unusedSimpArgs false
set_option linter.unusedSectionVars false
abbrev ISt := (List Str × (Int × Bool)) × (List Wy × (Wy × (Int × Int)))
def EI (W : List Str) : CV → ISt → Prop
  | .inl (c, i), r => r.2.2.2 = (c, (i : Int)) ∧ c ≠ 0
  | .inr (i, ways', way'), r => r = ((W, ((i : Int), decide (way' ≠ []))), (ways', (way', (0, 0))))
def KWi : List Str := [[77], [76], [108], [72], [86], [104], [118], [90]]
theorem PN (w : Str) : w ∈ KWi ↔ w ∈ KW := by simp only [KWi, KW, List.mem_cons, List.not_mem_nil, or_false]; constructor <;> (intro h; rcases h with h | h | h | h | h | h | h | h <;> simp [h])
theorem CM (w : Str) : Am KWi w = some (decide (w ∈ KW)) := by
  unfold Am AA
  have key := Fh (body := fun s : List Str × Str × Int × Int => Ao s.1 s.2.1 s.2.2.1 s.2.2.2) (l := KWi) (st := fun k => (KWi, w, ((KWi.length : Nat) : Int), (k : Int))) (p := fun x => !(w == x)) (fin := .inl ()) (bad := fun k => .inr (k : Int))
    (fun k a hk hp => by
      have hlt : k < 8 := getL hk
      have hp : (w == a) = false := by simpa using hp
      unfold Ao
      simp only
      rw [decide_eq_true (show (k : Int) < ((KWi.length : Nat) : Int) by show (k : Int) < 8; omega), cT, Ag, hk, obs, hp, cF, wrap1 (by omega)])
    (fun k a hk hp => by
      have hlt : k < 8 := getL hk
      have hp : (w == a) = true := by simpa using hp
      unfold Ao
      simp only
      rw [decide_eq_true (show (k : Int) < ((KWi.length : Nat) : Int) by show (k : Int) < 8; omega), cT, Ag, hk, obs, hp, cT])
    (by
      unfold Ao
      simp only
      rw [decide_eq_false (by omega), cF])
  by_cases hm : w ∈ KW
  · have hall : KWi.all (fun x => !(w == x)) = false := by
      rw [List.all_eq_false]
      exact ⟨w, (PN w).2 hm, by simp⟩
    obtain ⟨k, _, h⟩ := key.2 hall
    rw [show ((0 : Nat) : Int) = 0 from rfl] at h
    rw [h, obs]
    simp only [Sum.elim_inr]
    rw [obs, decide_eq_true hm, decide_eq_true (by omega)]
  · have hall : KWi.all (fun x => !(w == x)) = true := by
      rw [List.all_eq_true]
      intro x hx
      have : w ≠ x := fun h => hm ((PN w).1 (h ▸ hx))
      simpa using this
    have h := key.1 hall
    rw [show ((0 : Nat) : Int) = 0 from rfl] at h
    rw [h, obs]
    simp only [Sum.elim_inl]
    rw [obs, decide_eq_false hm]
    rfl
theorem EF (w : Str) : Be [72, 86, 104, 118] w = some (Lib.contains [72, 86, 104, 118] w) := by
  unfold Be CZ
  rw [if_pos (by decide)]
noncomputable def icB : ((List Str × (Int × Bool)) × (List Int × (List Wy × (Wy × (Str × (Int × Int)))))) → Option (((List Str × (Int × Bool)) × (List Int × (List Wy × (Wy × (Str × (Int × Int)))))) ⊕ (((List Str × (Int × Bool)) × (List Int × (List Wy × (Wy × Str)))) ⊕ ISt)) :=
  fun s => Bf s.1 s.2.1 s.2.2.1 s.2.2.2.1 s.2.2.2.2.1 s.2.2.2.2.2.1 s.2.2.2.2.2.2
section
variable {W : List Str} (hW : W.length ≤ 1000) (hs : ∀ w ∈ W, w.length ≤ 1000)
include hW hs
theorem Q7 {i : Nat} (hi : i ≤ W.length) (o : Bool) (n : List Int) (hn : n.length ≤ 10) (ways : List Wy) (way : Wy) (w : Str) {c k : Nat} (hk : k < c) (hc : c ≤ 10) :
    icB ((W, ((i : Int), o)), (n, (ways, (way, (w, ((c : Int), (k : Int))))))) = match numAt W i with | none => some (.inr (.inr ((W, ((i : Int), o)), (ways, (way, (3, (i : Int))))))) | some x => some (.inl ((W, (((i + 1 : Nat) : Int), o)), (n ++ [x], (ways, (way, (w, ((c : Int), ((k + 1 : Nat) : Int)))))))) := by
  unfold icB Bf
  simp only
  rw [decide_eq_true (by omega), cT, Q3 hW hs hi, obs]
  cases hz : numAt W i with
  | none => rfl
  | some x =>
    simp only
    rw [nT, cF, Br (by simp [maxBytes]; omega) (by simp [maxBytes]; omega), obs, wrap1 (by omega)]
omit hW hs in
theorem RL (W : List Str) (i : Int) (o : Bool) (n : List Int) (ways : List Wy) (way : Wy) (w : Str) (c : Nat) : icB ((W, (i, o)), (n, (ways, (way, (w, ((c : Int), (c : Int))))))) = some (.inr (.inl ((W, (i, o)), (n, (ways, (way, w)))))) := by
  unfold icB Bf
  simp only
  rw [decide_eq_false (by omega), cF]
theorem TS {i : Nat} (hi : i ≤ W.length) (o : Bool) (ways : List Wy) (way : Wy) (w : Str) : loopM icB ((W, ((i : Int), o)), (([] : List Int), (ways, (way, (w, ((1 : Int), (0 : Int))))))) =
    match numAt W i with | none => some (.inr ((W, ((i : Int), o)), (ways, (way, (3, (i : Int)))))) | some x => some (.inl ((W, (((i + 1 : Nat) : Int), o)), ([x], (ways, (way, w))))) := by
  have h1 := Q7 hW hs hi o [] (by simp) ways way w (c := 1) (k := 0) (by omega) (by omega)
  cases hz : numAt W i with
  | none => rw [hz] at h1; exact AL h1
  | some x =>
    rw [hz] at h1
    exact (Cs h1).trans (AL (RL W _ o [x] ways way w 1))
theorem TI {i : Nat} (hi : i ≤ W.length) (o : Bool) (ways : List Wy) (way : Wy) (w : Str) : loopM icB ((W, ((i : Int), o)), (([] : List Int), (ways, (way, (w, ((2 : Int), (0 : Int))))))) =
    match numAt W i with | none => some (.inr ((W, ((i : Int), o)), (ways, (way, (3, (i : Int)))))) | some x => (match numAt W (i + 1) with | none => some (.inr ((W, (((i + 1 : Nat) : Int), o)), (ways, (way, (3, ((i + 1 : Nat) : Int)))))) | some y => some (.inl ((W, (((i + 2 : Nat) : Int), o)), ([x, y], (ways, (way, w)))))) := by
  have h1 := Q7 hW hs hi o [] (by simp) ways way w (c := 2) (k := 0) (by omega) (by omega)
  cases hz : numAt W i with
  | none => rw [hz] at h1; exact AL h1
  | some x =>
    rw [hz] at h1
    have hlt := Dg hW hs hz
    have h2 := Q7 hW hs (i := i + 1) (by omega) o [x] (by simp) ways way w (c := 2) (k := 1) (by omega) (by omega)
    refine (Cs h1).trans ?_
    simp only
    cases hz2 : numAt W (i + 1) with
    | none => rw [hz2] at h2; exact AL h2
    | some y =>
      rw [hz2] at h2
      exact (Cs h2).trans (AL (RL W _ o [x, y] ways way w 2))
noncomputable def icK (w : Str) : (((List Str × (Int × Bool)) × (List Int × (List Wy × (Wy × Str)))) ⊕ ISt) → Option ISt := fun x7 => Sum.elim
      (fun x8 =>
      ((Aq (x8.1.1, (x8.1.2.1, x8.1.2.2)) x8.2.2.1 x8.2.2.2.1 x8.2.2.2.2 x8.2.1)).bind fun x9 =>
      ((AT (x9.2.2.2.1, x9.2.2.2.2))).bind fun x10 =>
      bif (!x10) then
        some ((x9.1.1, (x9.1.2.1, x9.1.2.2)), (x9.2.1, (x9.2.2.1, ((6 : Int), (Go.IntKind.wrap Go.IntKind.i64 (x9.1.2.1 - (1 : Int)))))))
      else
      ((appL 16 2 x9.2.2.1 (List.cons (x9.2.2.2.1, x9.2.2.2.2) List.nil))).bind fun x11 =>
      some ((x9.1.1, (x9.1.2.1, true)), (x9.2.1, (x11, ((0 : Int), (0 : Int))))))
      (fun x12 =>
      some ((x12.1.1, (x12.1.2.1, x12.1.2.2)), (x12.2.1, (x12.2.2.1, (x12.2.2.2.1, x12.2.2.2.2)))))
      x7
theorem S9 {i : Nat} (hi : 1 ≤ i ∧ i ≤ 2000) (o : Bool) (ways : List Wy) {way : Wy} (hw : way.length ≤ 1000) (w : Str) (n : List Int) {p : Pn} (hn : Aq (W, ((i : Int), o)) ways way w n = some ((W, ((i : Int), o)), (ways, (way, p)))) :
    ∃ r, icK w (.inl ((W, ((i : Int), o)), (n, (ways, (way, w))))) = some r ∧ EI W (ptV goodP i ways way p) r := by
  unfold icK ptV
  simp only [Sum.elim_inl]
  rw [hn, obs]
  simp only
  rw [SK, obs]
  cases h : goodP (p.1, p.2) with
  | false =>
    rw [nF, cT, if_neg (by simp), wrapI (by omega) (by omega)]
    exact ⟨_, rfl, by show ((6 : Int), _) = _; congr 1; omega, by omega⟩
  | true =>
    rw [nT, cF, if_pos rfl, Br (by simp [maxBytes]; omega) (by simp [maxBytes]; omega), obs]
    refine ⟨_, rfl, ?_⟩
    show _ = _
    rw [decide_eq_true (show way ++ [p] ≠ [] by simp)]
theorem Jn {i : Nat} (hi : i ≤ W.length) (o : Bool) (ways : List Wy) {way : Wy} (hw : way.length ≤ 1000) (w : Str) {f : Int → Pn} (hf : ∀ (j : Nat) x, Aq (W, ((j : Int), o)) ways way w [x] = some ((W, ((j : Int), o)), (ways, (way, f x)))) :
    ∃ r, ((loopM icB ((W, ((i : Int), o)), (([] : List Int), (ways, (way, (w, ((1 : Int), (0 : Int)))))))).bind (icK w)) = some r ∧ EI W (one W i ways way f) r := by
  rw [TS hW hs hi]
  unfold one
  cases hz : numAt W i with
  | none => exact ⟨_, rfl, rfl, by omega⟩
  | some x =>
    have := Dg hW hs hz
    exact S9 hW hs (by omega) o ways hw w [x] (hf (i + 1) x)
theorem Mw {i : Nat} (hi : i ≤ W.length) (o : Bool) (ways : List Wy) {way : Wy} (hw : way.length ≤ 1000) (w : Str) {f : Int → Int → Pn} (hf : ∀ (j : Nat) x y, Aq (W, ((j : Int), o)) ways way w [x, y] = some ((W, ((j : Int), o)), (ways, (way, f x y)))) :
    ∃ r, ((loopM icB ((W, ((i : Int), o)), (([] : List Int), (ways, (way, (w, ((2 : Int), (0 : Int)))))))).bind (icK w)) = some r ∧ EI W (two W i ways way f) r := by
  rw [TI hW hs hi]
  unfold two one
  cases hz : numAt W i with
  | none => exact ⟨_, rfl, rfl, by omega⟩
  | some x =>
    have := Dg hW hs hz
    simp only
    cases hz2 : numAt W (i + 1) with
    | none => exact ⟨_, rfl, rfl, by omega⟩
    | some y =>
      have := Dg hW hs hz2
      exact S9 hW hs (by omega) o ways hw w [x, y] (hf (i + 2) x y)
theorem Rv {i : Nat} {w : Str} (he : W[i]? = some w) (hk : w ∉ KW) (o : Bool) (ways : List Wy) (way : Wy) : ∃ r, Af (W, ((i : Int), o)) ways way = some r ∧ EI W (cmdV W i ways way w) r := by
  have h77 : w ≠ [77] := fun h => hk (by rw [h]; decide)
  unfold Af Au
  simp only
  rw [Ag, he, obs, show ([[77], [76], [108], [72], [86], [104], [118], [90]] : List Str) = KWi from rfl, CM, obs, decide_eq_false hk, nF, cT, obs]
  unfold cmdV
  rw [if_neg h77, if_neg hk]
  exact ⟨_, rfl, rfl, by omega⟩
theorem RJ {i : Nat} (he : W[i]? = some [77]) (ways : List Wy) {way : Wy} (hw : way.length ≤ 1000) (hwl : ways.length ≤ 1000) : ∃ r, Af (W, ((i : Int), decide (way ≠ []))) ways way = some r ∧ EI W (cmdV W i ways way [77]) r := by
  have hlt := getL he
  unfold Af Au
  simp only
  rw [Ag, he, obs, show ([[77], [76], [108], [72], [86], [104], [118], [90]] : List Str) = KWi from rfl, CM, obs, decide_eq_true (show ([77] : Str) ∈ KW by decide)]
  unfold cmdV
  by_cases h0 : way = []
  · subst h0
    by_cases h4 : ways.length = 4
    · have h4' : ((ways.length : Int) == 4) = true := by simp [h4]
      rw [if_pos rfl, if_pos rfl, if_pos h4]
      simp only [GM, GZ, Eu, GN, Ee, GP, EU, GO, nT, nF, cF, cT, obs, h4', show decide (([] : Wy) ≠ []) = false from rfl, show (true == false) = false from rfl, show ((5 : Int) != 0) = true from rfl]
      exact ⟨_, rfl, rfl, by omega⟩
    · have h4' : ((ways.length : Int) == 4) = false := by simp; omega
      rw [if_pos rfl, if_pos rfl, if_neg h4]
      simp only [GM, GZ, Eu, GN, Ee, GP, EU, GO, nT, nF, cF, cT, obs, h4', show decide (([] : Wy) ≠ []) = false from rfl, show (true == false) = false from rfl, show ((0 : Int) != 0) = false from rfl, wrap1 (show i < 4611686018427387904 by omega), EF, show Lib.contains [72, 86, 104, 118] [77] = false from by decide, Sum.elim_inr]
      refine Mw hW hs (by omega) false ways (way := []) (by simp) [77] (f := fun x y => (x, y)) fun j x y => ?_
      unfold Aq
      simp only [GM, GZ, Eu, GN, Ee, GP, EU, GO, List.length_nil, show decide (((0 : Nat) : Int) > 0) = false from rfl, cF, obs, Sum.elim_inr]
      rfl
  · have hp := List.length_pos_iff.2 h0
    rw [if_pos rfl, if_neg h0]
    simp only [GM, GZ, Eu, GN, Ee, GP, EU, GO, nT, nF, cF, cT, obs, show decide (way ≠ []) = true from decide_eq_true h0, show (true == true) = true from rfl, show ((4 : Int) != 0) = true from rfl]
    exact ⟨_, rfl, rfl, by omega⟩
theorem Q8 {i : Nat} (he : W[i]? = some [76]) (ways : List Wy) {way : Wy} (hw : way.length ≤ 1000) (hwl : ways.length ≤ 1000) : ∃ r, Af (W, ((i : Int), decide (way ≠ []))) ways way = some r ∧ EI W (cmdV W i ways way [76]) r := by
  have hlt := getL he
  unfold Af Au
  simp only
  rw [Ag, he, obs, show ([[77], [76], [108], [72], [86], [104], [118], [90]] : List Str) = KWi from rfl, CM, obs, decide_eq_true (show ([76] : Str) ∈ KW by decide)]
  unfold cmdV
  rw [if_neg (by decide), if_pos (show ([76] : Str) ∈ KW by decide)]
  by_cases h0 : way = []
  · subst h0
    rw [if_pos rfl]
    simp only [GS, GD, Eo, GJ, Er, GA, Ez, GQ, nT, nF, cF, cT, obs, show decide (([] : Wy) ≠ []) = false from rfl, show (false == false) = true from rfl, show ((4 : Int) != 0) = true from rfl]
    exact ⟨_, rfl, rfl, by omega⟩
  · have hp := List.length_pos_iff.2 h0
    rw [if_neg h0]
    rw [if_neg (by decide)]
    by_cases h12 : way.length = 12
    · rw [if_pos h12]
      simp only [GS, GD, Eo, GJ, Er, GA, Ez, GQ, nT, nF, cF, cT, obs, show decide (way ≠ []) = true from decide_eq_true h0, show (false == true) = false from rfl, show ((way.length : Int) == 12) = true by simp; omega, show ((5 : Int) != 0) = true from rfl]
      exact ⟨_, rfl, rfl, by omega⟩
    · rw [if_neg h12, if_pos rfl]
      simp only [GS, GD, Eo, GJ, Er, GA, Ez, GQ, nT, nF, cF, cT, obs, show decide (way ≠ []) = true from decide_eq_true h0, show (false == true) = false from rfl, show ((way.length : Int) == 12) = false by simp; omega, show ((0 : Int) != 0) = false from rfl, wrap1 (show i < 4611686018427387904 by omega), EF, show Lib.contains [72, 86, 104, 118] [76] = false from by decide, Sum.elim_inr]
      refine Mw hW hs (by omega) true ways hw [76] (f := fun x y => (x, y)) fun j x y => ?_
      unfold Aq
      simp only [GS, GD, Eo, GJ, Er, GA, Ez, GQ, decide_eq_true (show (way.length : Int) > 0 by omega), cT, cF, A7 h0 hw, A9 h0, obs, Sum.elim_inr]
      rfl
theorem Qb {i : Nat} (he : W[i]? = some [108]) (ways : List Wy) {way : Wy} (hw : way.length ≤ 1000) (hwl : ways.length ≤ 1000) : ∃ r, Af (W, ((i : Int), decide (way ≠ []))) ways way = some r ∧ EI W (cmdV W i ways way [108]) r := by
  have hlt := getL he
  unfold Af Au
  simp only
  rw [Ag, he, obs, show ([[77], [76], [108], [72], [86], [104], [118], [90]] : List Str) = KWi from rfl, CM, obs, decide_eq_true (show ([108] : Str) ∈ KW by decide)]
  unfold cmdV
  rw [if_neg (by decide), if_pos (show ([108] : Str) ∈ KW by decide)]
  by_cases h0 : way = []
  · subst h0
    rw [if_pos rfl]
    simp only [Ed, Eb, Dy, EA, C7, Ek, CU, EE, nT, nF, cF, cT, obs, show decide (([] : Wy) ≠ []) = false from rfl, show (false == false) = true from rfl, show ((4 : Int) != 0) = true from rfl]
    exact ⟨_, rfl, rfl, by omega⟩
  · have hp := List.length_pos_iff.2 h0
    rw [if_neg h0]
    rw [if_neg (by decide)]
    by_cases h12 : way.length = 12
    · rw [if_pos h12]
      simp only [Ed, Eb, Dy, EA, C7, Ek, CU, EE, nT, nF, cF, cT, obs, show decide (way ≠ []) = true from decide_eq_true h0, show (false == true) = false from rfl, show ((way.length : Int) == 12) = true by simp; omega, show ((5 : Int) != 0) = true from rfl]
      exact ⟨_, rfl, rfl, by omega⟩
    · rw [if_neg h12, if_neg (by decide), if_pos rfl]
      simp only [Ed, Eb, Dy, EA, C7, Ek, CU, EE, nT, nF, cF, cT, obs, show decide (way ≠ []) = true from decide_eq_true h0, show (false == true) = false from rfl, show ((way.length : Int) == 12) = false by simp; omega, show ((0 : Int) != 0) = false from rfl, wrap1 (show i < 4611686018427387904 by omega), EF, show Lib.contains [72, 86, 104, 118] [108] = false from by decide, Sum.elim_inr]
      refine Mw hW hs (by omega) true ways hw [108] (f := fun x y => (IntKind.wrap .i64 ((lastP way).1 + x), IntKind.wrap .i64 ((lastP way).2 + y))) fun j x y => ?_
      unfold Aq
      simp only [Ed, Eb, Dy, EA, C7, Ek, CU, EE, decide_eq_true (show (way.length : Int) > 0 by omega), cT, cF, A7 h0 hw, A9 h0, obs, Sum.elim_inr]
      rfl
theorem R1 {i : Nat} (he : W[i]? = some [72]) (ways : List Wy) {way : Wy} (hw : way.length ≤ 1000) (hwl : ways.length ≤ 1000) : ∃ r, Af (W, ((i : Int), decide (way ≠ []))) ways way = some r ∧ EI W (cmdV W i ways way [72]) r := by
  have hlt := getL he
  unfold Af Au
  simp only
  rw [Ag, he, obs, show ([[77], [76], [108], [72], [86], [104], [118], [90]] : List Str) = KWi from rfl, CM, obs, decide_eq_true (show ([72] : Str) ∈ KW by decide)]
  unfold cmdV
  rw [if_neg (by decide), if_pos (show ([72] : Str) ∈ KW by decide)]
  by_cases h0 : way = []
  · subst h0
    rw [if_pos rfl]
    simp only [GL, GU, EC, G6, EQ, Gv, Em, GE, nT, nF, cF, cT, obs, show decide (([] : Wy) ≠ []) = false from rfl, show (false == false) = true from rfl, show ((4 : Int) != 0) = true from rfl]
    exact ⟨_, rfl, rfl, by omega⟩
  · have hp := List.length_pos_iff.2 h0
    rw [if_neg h0]
    rw [if_neg (by decide)]
    by_cases h12 : way.length = 12
    · rw [if_pos h12]
      simp only [GL, GU, EC, G6, EQ, Gv, Em, GE, nT, nF, cF, cT, obs, show decide (way ≠ []) = true from decide_eq_true h0, show (false == true) = false from rfl, show ((way.length : Int) == 12) = true by simp; omega, show ((5 : Int) != 0) = true from rfl]
      exact ⟨_, rfl, rfl, by omega⟩
    · rw [if_neg h12, if_neg (by decide), if_neg (by decide), if_pos rfl]
      simp only [GL, GU, EC, G6, EQ, Gv, Em, GE, nT, nF, cF, cT, obs, show decide (way ≠ []) = true from decide_eq_true h0, show (false == true) = false from rfl, show ((way.length : Int) == 12) = false by simp; omega, show ((0 : Int) != 0) = false from rfl, wrap1 (show i < 4611686018427387904 by omega), EF, show Lib.contains [72, 86, 104, 118] [72] = true from by decide, Sum.elim_inr]
      refine Jn hW hs (by omega) true ways hw [72] (f := fun x => (x, (lastP way).2)) fun j x => ?_
      unfold Aq
      simp only [GL, GU, EC, G6, EQ, Gv, Em, GE, decide_eq_true (show (way.length : Int) > 0 by omega), cT, cF, A7 h0 hw, A9 h0, obs, Sum.elim_inr]
      rfl
theorem QG {i : Nat} (he : W[i]? = some [104]) (ways : List Wy) {way : Wy} (hw : way.length ≤ 1000) (hwl : ways.length ≤ 1000) : ∃ r, Af (W, ((i : Int), decide (way ≠ []))) ways way = some r ∧ EI W (cmdV W i ways way [104]) r := by
  have hlt := getL he
  unfold Af Au
  simp only
  rw [Ag, he, obs, show ([[77], [76], [108], [72], [86], [104], [118], [90]] : List Str) = KWi from rfl, CM, obs, decide_eq_true (show ([104] : Str) ∈ KW by decide)]
  unfold cmdV
  rw [if_neg (by decide), if_pos (show ([104] : Str) ∈ KW by decide)]
  by_cases h0 : way = []
  · subst h0
    rw [if_pos rfl]
    simp only [ES, D9, Da, EN, Db, EH, Dm, ET, nT, nF, cF, cT, obs, show decide (([] : Wy) ≠ []) = false from rfl, show (false == false) = true from rfl, show ((4 : Int) != 0) = true from rfl]
    exact ⟨_, rfl, rfl, by omega⟩
  · have hp := List.length_pos_iff.2 h0
    rw [if_neg h0]
    rw [if_neg (by decide)]
    by_cases h12 : way.length = 12
    · rw [if_pos h12]
      simp only [ES, D9, Da, EN, Db, EH, Dm, ET, nT, nF, cF, cT, obs, show decide (way ≠ []) = true from decide_eq_true h0, show (false == true) = false from rfl, show ((way.length : Int) == 12) = true by simp; omega, show ((5 : Int) != 0) = true from rfl]
      exact ⟨_, rfl, rfl, by omega⟩
    · rw [if_neg h12, if_neg (by decide), if_neg (by decide), if_neg (by decide), if_pos rfl]
      simp only [ES, D9, Da, EN, Db, EH, Dm, ET, nT, nF, cF, cT, obs, show decide (way ≠ []) = true from decide_eq_true h0, show (false == true) = false from rfl, show ((way.length : Int) == 12) = false by simp; omega, show ((0 : Int) != 0) = false from rfl, wrap1 (show i < 4611686018427387904 by omega), EF, show Lib.contains [72, 86, 104, 118] [104] = true from by decide, Sum.elim_inr]
      refine Jn hW hs (by omega) true ways hw [104] (f := fun x => (IntKind.wrap .i64 ((lastP way).1 + x), (lastP way).2)) fun j x => ?_
      unfold Aq
      simp only [ES, D9, Da, EN, Db, EH, Dm, ET, decide_eq_true (show (way.length : Int) > 0 by omega), cT, cF, A7 h0 hw, A9 h0, obs, Sum.elim_inr]
      rfl
theorem QW {i : Nat} (he : W[i]? = some [86]) (ways : List Wy) {way : Wy} (hw : way.length ≤ 1000) (hwl : ways.length ≤ 1000) : ∃ r, Af (W, ((i : Int), decide (way ≠ []))) ways way = some r ∧ EI W (cmdV W i ways way [86]) r := by
  have hlt := getL he
  unfold Af Au
  simp only
  rw [Ag, he, obs, show ([[77], [76], [108], [72], [86], [104], [118], [90]] : List Str) = KWi from rfl, CM, obs, decide_eq_true (show ([86] : Str) ∈ KW by decide)]
  unfold cmdV
  rw [if_neg (by decide), if_pos (show ([86] : Str) ∈ KW by decide)]
  by_cases h0 : way = []
  · subst h0
    rw [if_pos rfl]
    simp only [GR, GB, Es, G5, Ef, Gy, Ea, G9, nT, nF, cF, cT, obs, show decide (([] : Wy) ≠ []) = false from rfl, show (false == false) = true from rfl, show ((4 : Int) != 0) = true from rfl]
    exact ⟨_, rfl, rfl, by omega⟩
  · have hp := List.length_pos_iff.2 h0
    rw [if_neg h0]
    rw [if_neg (by decide)]
    by_cases h12 : way.length = 12
    · rw [if_pos h12]
      simp only [GR, GB, Es, G5, Ef, Gy, Ea, G9, nT, nF, cF, cT, obs, show decide (way ≠ []) = true from decide_eq_true h0, show (false == true) = false from rfl, show ((way.length : Int) == 12) = true by simp; omega, show ((5 : Int) != 0) = true from rfl]
      exact ⟨_, rfl, rfl, by omega⟩
    · rw [if_neg h12, if_neg (by decide), if_neg (by decide), if_neg (by decide), if_neg (by decide), if_pos rfl]
      simp only [GR, GB, Es, G5, Ef, Gy, Ea, G9, nT, nF, cF, cT, obs, show decide (way ≠ []) = true from decide_eq_true h0, show (false == true) = false from rfl, show ((way.length : Int) == 12) = false by simp; omega, show ((0 : Int) != 0) = false from rfl, wrap1 (show i < 4611686018427387904 by omega), EF, show Lib.contains [72, 86, 104, 118] [86] = true from by decide, Sum.elim_inr]
      refine Jn hW hs (by omega) true ways hw [86] (f := fun x => ((lastP way).1, x)) fun j x => ?_
      unfold Aq
      simp only [GR, GB, Es, G5, Ef, Gy, Ea, G9, decide_eq_true (show (way.length : Int) > 0 by omega), cT, cF, A7 h0 hw, A9 h0, obs, Sum.elim_inr]
      rfl
theorem Qy {i : Nat} (he : W[i]? = some [118]) (ways : List Wy) {way : Wy} (hw : way.length ≤ 1000) (hwl : ways.length ≤ 1000) : ∃ r, Af (W, ((i : Int), decide (way ≠ []))) ways way = some r ∧ EI W (cmdV W i ways way [118]) r := by
  have hlt := getL he
  unfold Af Au
  simp only
  rw [Ag, he, obs, show ([[77], [76], [108], [72], [86], [104], [118], [90]] : List Str) = KWi from rfl, CM, obs, decide_eq_true (show ([118] : Str) ∈ KW by decide)]
  unfold cmdV
  rw [if_neg (by decide), if_pos (show ([118] : Str) ∈ KW by decide)]
  by_cases h0 : way = []
  · subst h0
    rw [if_pos rfl]
    simp only [EB, EM, DB, En, C6, EG, Du, ER, nT, nF, cF, cT, obs, show decide (([] : Wy) ≠ []) = false from rfl, show (false == false) = true from rfl, show ((4 : Int) != 0) = true from rfl]
    exact ⟨_, rfl, rfl, by omega⟩
  · have hp := List.length_pos_iff.2 h0
    rw [if_neg h0]
    rw [if_neg (by decide)]
    by_cases h12 : way.length = 12
    · rw [if_pos h12]
      simp only [EB, EM, DB, En, C6, EG, Du, ER, nT, nF, cF, cT, obs, show decide (way ≠ []) = true from decide_eq_true h0, show (false == true) = false from rfl, show ((way.length : Int) == 12) = true by simp; omega, show ((5 : Int) != 0) = true from rfl]
      exact ⟨_, rfl, rfl, by omega⟩
    · rw [if_neg h12, if_neg (by decide), if_neg (by decide), if_neg (by decide), if_neg (by decide), if_neg (by decide)]
      simp only [EB, EM, DB, En, C6, EG, Du, ER, nT, nF, cF, cT, obs, show decide (way ≠ []) = true from decide_eq_true h0, show (false == true) = false from rfl, show ((way.length : Int) == 12) = false by simp; omega, show ((0 : Int) != 0) = false from rfl, wrap1 (show i < 4611686018427387904 by omega), EF, show Lib.contains [72, 86, 104, 118] [118] = true from by decide, Sum.elim_inr]
      refine Jn hW hs (by omega) true ways hw [118] (f := fun x => ((lastP way).1, IntKind.wrap .i64 ((lastP way).2 + x))) fun j x => ?_
      unfold Aq
      simp only [EB, EM, DB, En, C6, EG, Du, ER, decide_eq_true (show (way.length : Int) > 0 by omega), cT, cF, A7 h0 hw, A9 h0, obs, Sum.elim_inr]
      rfl
theorem RG {i : Nat} (he : W[i]? = some [90]) (ways : List Wy) {way : Wy} (hw : way.length ≤ 1000) (hwl : ways.length ≤ 1000) : ∃ r, Af (W, ((i : Int), decide (way ≠ []))) ways way = some r ∧ EI W (cmdV W i ways way [90]) r := by
  have hlt := getL he
  unfold Af Au
  simp only
  rw [Ag, he, obs, show ([[77], [76], [108], [72], [86], [104], [118], [90]] : List Str) = KWi from rfl, CM, obs, decide_eq_true (show ([90] : Str) ∈ KW by decide)]
  unfold cmdV
  rw [if_neg (by decide), if_pos (show ([90] : Str) ∈ KW by decide)]
  by_cases h0 : way = []
  · subst h0
    rw [if_pos rfl]
    simp only [IE, Iv, FS, H8, F4, Ic, F2, IB, nT, nF, cF, cT, obs, show decide (([] : Wy) ≠ []) = false from rfl, show (false == false) = true from rfl, show ((4 : Int) != 0) = true from rfl]
    exact ⟨_, rfl, rfl, by omega⟩
  · have hp := List.length_pos_iff.2 h0
    rw [if_neg h0]
    rw [if_pos rfl]
    by_cases h3 : way.length < 3
    · rw [if_pos h3]
      simp only [IE, Iv, FS, H8, F4, Ic, F2, IB, nT, nF, cF, cT, obs, show decide (way ≠ []) = true from decide_eq_true h0, show (false == true) = false from rfl, decide_eq_true (show (way.length : Int) < 3 by omega), show ((5 : Int) != 0) = true from rfl]
      exact ⟨_, rfl, rfl, by omega⟩
    · rw [if_neg h3]
      simp only [IE, Iv, FS, H8, F4, Ic, F2, IB, nT, nF, cF, cT, obs, show decide (way ≠ []) = true from decide_eq_true h0, show (false == true) = false from rfl, decide_eq_false (show ¬ (way.length : Int) < 3 by omega), show ((0 : Int) != 0) = false from rfl, wrap1 (show i < 4611686018427387904 by omega)]
      rw [Br (by simp [maxBytes]; omega) (by simp [maxBytes]; omega), obs]
      exact ⟨_, rfl, rfl⟩
theorem Qn {i : Nat} {w : Str} (he : W[i]? = some w) (ways : List Wy) {way : Wy} (hw : way.length ≤ 1000) (hwl : ways.length ≤ 1000) : ∃ r, Af (W, ((i : Int), decide (way ≠ []))) ways way = some r ∧ EI W (cmdV W i ways way w) r := by
  by_cases hk : w ∈ KW
  · have hk' : w = [77] ∨ w = [76] ∨ w = [108] ∨ w = [72] ∨ w = [104] ∨ w = [86] ∨ w = [118] ∨ w = [90] := by simpa [KW] using hk
    rcases hk' with rfl | rfl | rfl | rfl | rfl | rfl | rfl | rfl
    · exact RJ hW hs he ways hw hwl
    · exact Q8 hW hs he ways hw hwl
    · exact Qb hW hs he ways hw hwl
    · exact R1 hW hs he ways hw hwl
    · exact QG hW hs he ways hw hwl
    · exact QW hW hs he ways hw hwl
    · exact Qy hW hs he ways hw hwl
    · exact RG hW hs he ways hw hwl
  · exact Rv hW hs he hk _ ways way
end
end Go.Proofs.YtgfchmagglhohaaDoor.Ev

end
section
namespace Go.Proofs.YtgfchmagglhohaaDoor.Ev
open Go
set_option linter.unusedVariables false
set_option linter.unusedSimpArgs false
set_option linter.unusedSectionVars false
def CF (W : List Str) (i : Nat) (ways : List Wy) (way : Wy) : CV → Prop
  | .inl (c, _) => c ≠ 0
  | .inr (j, ways', way') => i < j ∧ j ≤ W.length ∧ ways'.length ≤ ways.length + 1 ∧ way'.length ≤ way.length + 1
section
variable {W : List Str} (hW : W.length ≤ 1000) (hs : ∀ w ∈ W, w.length ≤ 1000)
include hW hs
theorem T4 {i j : Nat} (hi : i < j) (hj : j ≤ W.length) (ways : List Wy) (way : Wy) (p : Pn) : CF W i ways way (ptV goodP j ways way p) := by
  unfold ptV
  split
  · exact ⟨hi, hj, by omega, by simp⟩
  · show (6 : Int) ≠ 0; omega
theorem R0 {i j : Nat} (hi : i < j) (ways : List Wy) (way : Wy) (f : Int → Pn) : CF W i ways way (one W j ways way f) := by
  unfold one
  cases hz : numAt W j with
  | none => show (3 : Int) ≠ 0; omega
  | some x => exact T4 hW hs (by omega) (Dg hW hs hz) ways way _
theorem Tv {i j : Nat} (hi : i < j) (ways : List Wy) (way : Wy) (f : Int → Int → Pn) : CF W i ways way (two W j ways way f) := by
  unfold two
  cases hz : numAt W j with
  | none => show (3 : Int) ≠ 0; omega
  | some x => exact R0 hW hs (by omega) ways way _
theorem My {i : Nat} {w : Str} (he : W[i]? = some w) (ways : List Wy) (way : Wy) : CF W i ways way (cmdV W i ways way w) := by
  have hlt := getL he
  unfold cmdV
  repeat' split
  all_goals first
    | exact Tv hW hs (by omega) ways way _
    | exact R0 hW hs (by omega) ways way _
    | (show (5 : Int) ≠ 0; omega)
    | (show (4 : Int) ≠ 0; omega)
    | (show (2 : Int) ≠ 0; omega)
    | exact ⟨by omega, by omega, by simp, by simp⟩
def parse (W : List Str) : Nat → Nat → List Wy → Wy → (Int × Nat) ⊕ (List Wy × Wy)
  | 0, _, ways, way => .inr (ways, way)
  | n + 1, i, ways, way => match W[i]? with | none => .inr (ways, way) | some w => (match cmdV W i ways way w with | .inl e => .inl e | .inr (j, ways', way') => parse W n j ways' way')
abbrev SP := (List Str × Int × Int) × List Wy × Wy
noncomputable def spB : SP → Option (SP ⊕ SP) := fun s => AY s.1 s.2.1 s.2.2
def SEnd (W : List Str) : ((Int × Nat) ⊕ (List Wy × Wy)) → SP → Prop
  | .inl (c, i), r => r.1.2 = ((i : Int), c) ∧ c ≠ 0
  | .inr (ways, way), r => r = ((W, ((W.length : Int), 0)), (ways, way))
omit hW hs in
theorem TG (W : List Str) (i c : Int) (hc : c ≠ 0) (ways : List Wy) (way : Wy) : loopM spB ((W, (i, c)), (ways, way)) = some ((W, (i, c)), (ways, way)) := by
  refine AL ?_
  unfold spB AY
  simp only
  by_cases h : i < (W.length : Int)
  · rw [decide_eq_true h, cT, show (c == 0) = false by simpa using hc, cF]
  · rw [decide_eq_false h, cF]
theorem SA : ∀ (n i : Nat) (ways : List Wy) (way : Wy), W.length < n + i → i ≤ W.length → ways.length ≤ i → way.length ≤ i → ∃ r, loopM spB ((W, ((i : Int), 0)), (ways, way)) = some r ∧ SEnd W (parse W n i ways way) r := by
  intro n
  induction n with
  | zero => intro i ways way h1 h2; omega
  | succ n ih =>
    intro i ways way h1 h2 h3 h4
    unfold parse
    by_cases hi : i = W.length
    · subst hi
      rw [List.getElem?_eq_none (Nat.le_refl _)]
      refine ⟨_, AL (r := ((W, ((W.length : Int), 0)), (ways, way))) ?_, rfl⟩
      unfold spB AY
      simp only
      rw [decide_eq_false (by omega), cF]
    · have he : W[i]? = some (W[i]'(by omega)) := List.getElem?_eq_getElem (by omega)
      generalize (W[i]'(by omega)) = w at he
      have hc := PS hW hs he ways (way := way) (by omega) (by omega)
      have hf := My hW hs he ways way
      rw [he]
      simp only
      have hgo : spB ((W, ((i : Int), 0)), (ways, way)) = some (.inl (encS W ways way (cmdV W i ways way w))) := by
        unfold spB AY
        simp only
        rw [decide_eq_true (by omega), cT, show ((0 : Int) == 0) = true from rfl, cT, hc, obs]
      rw [Cs hgo]
      cases hz : cmdV W i ways way w with
      | inl e =>
        obtain ⟨c, j⟩ := e
        rw [hz] at hf
        exact ⟨_, TG W _ c hf ways way, rfl, hf⟩
      | inr v =>
        obtain ⟨j, ways', way'⟩ := v
        rw [hz] at hf
        obtain ⟨f1, f2, f3, f4⟩ := hf
        exact ih j ways' way' (by omega) f2 (by omega) (by omega)
abbrev IP := (List Str × Int × Bool) × List Wy × Wy
noncomputable def ipB : IP → Option (IP ⊕ (IP ⊕ (List Wy × Int × Int × Bool))) := fun s => Bk s.1 s.2.1 s.2.2
def IEnd (W : List Str) : ((Int × Nat) ⊕ (List Wy × Wy)) → (IP ⊕ (List Wy × Int × Int × Bool)) → Prop
  | .inl (c, i), r => r = .inr ([], c, (i : Int), false)
  | .inr (ways, way), r => r = .inl ((W, ((W.length : Int), decide (way ≠ []))), (ways, way))
theorem S3 : ∀ (n i : Nat) (ways : List Wy) (way : Wy), W.length < n + i → i ≤ W.length → ways.length ≤ i → way.length ≤ i → ∃ r, loopM ipB ((W, ((i : Int), decide (way ≠ []))), (ways, way)) = some r ∧ IEnd W (parse W n i ways way) r := by
  intro n
  induction n with
  | zero => intro i ways way h1 h2; omega
  | succ n ih =>
    intro i ways way h1 h2 h3 h4
    unfold parse
    by_cases hi : i = W.length
    · subst hi
      rw [List.getElem?_eq_none (Nat.le_refl _)]
      refine ⟨.inl ((W, ((W.length : Int), decide (way ≠ []))), (ways, way)), AL ?_, rfl⟩
      unfold ipB Bk
      simp only
      rw [decide_eq_false (show ¬ (W.length : Int) < (W.length : Int) by omega), cF]
    · have he : W[i]? = some (W[i]'(by omega)) := List.getElem?_eq_getElem (by omega)
      generalize (W[i]'(by omega)) = w at he
      obtain ⟨r, hc, hE⟩ := Qn hW hs he ways (way := way) (by omega) (by omega)
      have hf := My hW hs he ways way
      rw [he]
      simp only
      have hgo : ipB ((W, ((i : Int), decide (way ≠ []))), (ways, way)) = bif (r.2.2.2.1 != 0) then some (.inr (.inr ([], (r.2.2.2.1, (r.2.2.2.2, false))))) else some (.inl ((r.1.1, (r.1.2.1, r.1.2.2)), (r.2.1, r.2.2.1))) := by
        unfold ipB Bk
        simp only
        rw [decide_eq_true (show (i : Int) < (W.length : Int) by omega), cT, hc, obs]
      cases hz : cmdV W i ways way w with
      | inl e =>
        obtain ⟨c, j⟩ := e
        rw [hz] at hf hE
        have hE : r.2.2.2 = (c, (j : Int)) ∧ c ≠ 0 := hE
        rw [hE.1, show (c != 0) = true by simpa [bne] using hE.2, cT] at hgo
        exact ⟨_, AL hgo, rfl⟩
      | inr v =>
        obtain ⟨j, ways', way'⟩ := v
        rw [hz] at hf hE
        obtain ⟨f1, f2, f3, f4⟩ := hf
        have hE : r = ((W, ((j : Int), decide (way' ≠ []))), (ways', (way', (0, 0)))) := hE
        subst hE
        simp only at hgo
        rw [show ((0 : Int) != 0) = false from rfl, cF] at hgo
        rw [Cs hgo]
        exact ih j ways' way' (by omega) f2 (by omega) (by omega)
end
def pathV (s : Str) : List Wy × Int × Int × Bool :=
  if 1 ≤ s.length ∧ s.length ≤ 400 then (match parse (parts 32 s) ((parts 32 s).length + 1) 0 [] [] with
    | .inl (c, i) => ([], c, (i : Int), false)
    | .inr (ways, way) => if way ≠ [] then ([], 7, ((parts 32 s).length : Int), false) else (ways, 0, 0, true)) else ([], 1, 0, false)
theorem E6 {c : UInt8} : ∀ (n : Nat) (s : Str), s.length ≤ n → (parts c s).length ≤ s.length + 1 := by
  intro n
  induction n with
  | zero =>
    intro s hs
    have : s = [] := List.eq_nil_of_length_eq_zero (by omega)
    subst this
    rw [Dp (by simp)]
    simp
  | succ n ih =>
    intro s hs
    rcases Ru c s with h | ⟨x, r, rfl, h⟩
    · rw [Dp h]; simp
    · rw [Gx h]
      rw [List.length_append, List.length_cons] at hs ⊢
      have := ih r (by omega)
      rw [List.length_cons]
      omega
theorem MV {s : Str} (hs : s.length < 4611686018427387904) : BM s = some (pathV s) := by
  unfold BM pathV
  by_cases h0 : s.length = 0
  · rw [show ((s.length : Int) == 0) = true by simp [h0], cT, if_neg (by omega)]
  rw [show ((s.length : Int) == 0) = false from beq_eq_false_iff_ne.2 (by omega), cF]
  by_cases h1 : 400 < s.length
  · rw [decide_eq_true (by omega), cT, if_neg (by omega)]
  rw [decide_eq_false (by omega), cF, OW (by omega), obs, if_pos (by omega)]
  have hc := E6 (c := 32) s.length s (Nat.le_refl _)
  have hl : ∀ w ∈ parts 32 s, w.length ≤ 1000 := fun w hw => by have := IC s.length s (Nat.le_refl _) w hw; omega
  obtain ⟨r, h2, h3⟩ := SA (W := parts 32 s) (by omega) hl ((parts 32 s).length + 1) 0 [] [] (by omega) (by omega) (by simp) (by simp)
  have h2' : loopM (fun (s : (((List Str) × (Int × Int)) × ((List Wy) × Wy))) => AY s.1 s.2.1 s.2.2) ((parts 32 s, ((0 : Int), (0 : Int))), (([] : List Wy), ([] : Wy))) = some r := h2
  rw [h2', obs]
  cases hz : parse (parts 32 s) ((parts 32 s).length + 1) 0 [] [] with
  | inl e =>
    obtain ⟨c, i⟩ := e
    rw [hz] at h3
    have h3 : r.1.2 = ((i : Int), c) ∧ c ≠ 0 := h3
    simp only [h3.1]
    rw [show (c == 0) = false by simpa using h3.2, cF, obs]
    simp only [Sum.elim_inr]
    rw [show (c != 0) = true by simpa [bne] using h3.2, cT]
  | inr v =>
    obtain ⟨ways, way⟩ := v
    rw [hz] at h3
    have h3 : r = ((parts 32 s, (((parts 32 s).length : Int), 0)), (ways, way)) := h3
    subst h3
    simp only
    rw [show ((0 : Int) == 0) = true from rfl, cT]
    by_cases hw : way = []
    · subst hw
      rw [show decide (((([] : Wy).length : Nat) : Int) > 0) = false from rfl, cF, obs, if_neg (by simp)]
      rfl
    · have hp := List.length_pos_iff.2 hw
      rw [decide_eq_true (by omega), cT, obs, if_pos hw]
      rfl
theorem Ni {s : Str} (hs : s.length < 4294967281) : BJ s = some (pathV s) := by
  unfold BJ pathV
  have hin : AH (s.length : Int) 1 400 = some (decide (1 ≤ s.length ∧ s.length ≤ 400)) := by
    unfold AH
    by_cases h : (s.length : Int) ≥ 1
    · rw [decide_eq_true h, cT]; congr 1; rw [decide_eq_decide]; omega
    · rw [decide_eq_false h, cF]; congr 1; symm; rw [decide_eq_false]; omega
  rw [hin, obs]
  by_cases h : 1 ≤ s.length ∧ s.length ≤ 400
  · rw [decide_eq_true h, nT, cF, if_pos h]
    unfold CH
    rw [RM hs, obs]
    have hc := E6 (c := 32) s.length s (Nat.le_refl _)
    have hl : ∀ w ∈ parts 32 s, w.length ≤ 1000 := fun w hw => by have := IC s.length s (Nat.le_refl _) w hw; omega
    obtain ⟨r, h2, h3⟩ := S3 (W := parts 32 s) (by omega) hl ((parts 32 s).length + 1) 0 [] [] (by omega) (by omega) (by simp) (by simp)
    have h2' : loopM (fun (s : (((List Str) × (Int × Bool)) × ((List Wy) × Wy))) => Bk s.1 s.2.1 s.2.2) ((parts 32 s, ((0 : Int), false)), (([] : List Wy), ([] : Wy))) = some r := h2
    rw [h2', obs]
    cases hz : parse (parts 32 s) ((parts 32 s).length + 1) 0 [] [] with
    | inl e =>
      obtain ⟨c, i⟩ := e
      rw [hz] at h3
      have h3 : r = .inr ([], c, (i : Int), false) := h3
      subst h3
      rfl
    | inr v =>
      obtain ⟨ways, way⟩ := v
      rw [hz] at h3
      have h3 : r = .inl ((parts 32 s, (((parts 32 s).length : Int), decide (way ≠ []))), (ways, way)) := h3
      subst h3
      simp only [Sum.elim_inl]
      by_cases hw : way = []
      · subst hw; rw [show decide (([] : Wy) ≠ []) = false from rfl, cF, if_neg (by simp)]
      · rw [decide_eq_true hw, cT, if_pos hw]
  · rw [decide_eq_false h, nF, cT, if_neg h]
end Go.Proofs.YtgfchmagglhohaaDoor.Ev

end
section
namespace Go.Proofs.YtgfchmagglhohaaDoor.Ev
open Go
set_option linter.unusedVariables false
set_option linter.unusedSimpArgs false
set_option linter.unusedSectionVars false
def GW (ways : List Wy) : Prop := ∀ w ∈ ways, 3 ≤ w.length ∧ w.length ≤ 1000
def WF (ways : List Wy) (way : Wy) : CV → Prop
  | .inl _ => True
  | .inr (_, ways', _) => ways' = ways ∨ (ways' = ways ++ [way] ∧ 3 ≤ way.length)
theorem T1 (j : Nat) (ways : List Wy) (way : Wy) (p : Pn) : WF ways way (ptV goodP j ways way p) := by
  unfold ptV
  split
  · exact .inl rfl
  · exact trivial
theorem Rf (W : List Str) (j : Nat) (ways : List Wy) (way : Wy) (f : Int → Pn) : WF ways way (one W j ways way f) := by
  unfold one
  split
  · exact trivial
  · exact T1 _ _ _ _
theorem TH (W : List Str) (j : Nat) (ways : List Wy) (way : Wy) (f : Int → Int → Pn) : WF ways way (two W j ways way f) := by
  unfold two
  split
  · exact trivial
  · exact Rf _ _ _ _ _
theorem TD (W : List Str) (i : Nat) (w : Str) (ways : List Wy) (way : Wy) : WF ways way (cmdV W i ways way w) := by
  unfold cmdV
  repeat' split
  all_goals first
    | exact trivial
    | exact TH _ _ _ _ _
    | exact Rf _ _ _ _ _
    | exact .inr ⟨rfl, by omega⟩
theorem Sd {W : List Str} (hW : W.length ≤ 1000) (hs : ∀ w ∈ W, w.length ≤ 1000) : ∀ (n i : Nat) (ways : List Wy) (way : Wy) (v : List Wy × Wy), i ≤ W.length → way.length ≤ i → GW ways → parse W n i ways way = .inr v → GW v.1 := by
  intro n
  induction n with
  | zero => intro i ways way v hi h1 hg h; unfold parse at h; cases h; exact hg
  | succ n ih =>
    intro i ways way v hi h1 hg h
    unfold parse at h
    cases he : W[i]? with
    | none => rw [he] at h; cases h; exact hg
    | some w =>
      rw [he] at h
      simp only at h
      have hf := My hW hs he ways way
      have hw := TD W i w ways way
      cases hz : cmdV W i ways way w with
      | inl e => rw [hz] at h; cases h
      | inr u =>
        obtain ⟨j, ways', way'⟩ := u
        rw [hz] at h hf hw
        obtain ⟨f1, f2, f3, f4⟩ := hf
        refine ih j ways' way' v f2 (by omega) ?_ h
        rcases hw with rfl | ⟨rfl, h3⟩
        · exact hg
        · intro x hx
          rcases List.mem_append.1 hx with hx | hx
          · exact hg x hx
          · cases List.mem_singleton.1 hx
            exact ⟨h3, by omega⟩
theorem RO (s : Str) : GW (pathV s).1 ∧ (pathV s).1.length ≤ 1000 := by
  unfold pathV
  split
  · rename_i hb
    have hc := E6 (c := 32) s.length s (Nat.le_refl _)
    have hl : ∀ w ∈ parts 32 s, w.length ≤ 1000 := fun w hw => by have := IC s.length s (Nat.le_refl _) w hw; omega
    split
    · exact ⟨fun w hw => absurd hw List.not_mem_nil, by simp⟩
    · rename_i ways way hz
      have h1 := Sd (W := parts 32 s) (by omega) hl _ _ _ _ _ (by omega) (by simp) (fun w hw => absurd hw List.not_mem_nil) hz
      have h2 : ways.length ≤ (parts 32 s).length := by
        have key : ∀ (n i : Nat) (ways : List Wy) (way : Wy) (v : List Wy × Wy), i ≤ (parts 32 s).length → ways.length ≤ i → parse (parts 32 s) n i ways way = .inr v → v.1.length ≤ (parts 32 s).length := by
          intro n
          induction n with
          | zero => intro i ways way v hi h1 h; unfold parse at h; cases h; simp only; omega
          | succ n ih =>
            intro i ways way v hi h1 h
            unfold parse at h
            cases he : (parts 32 s)[i]? with
            | none => rw [he] at h; cases h; simp only; omega
            | some w =>
              rw [he] at h
              simp only at h
              have hf := My (W := parts 32 s) (by omega) hl he ways way
              cases hz : cmdV (parts 32 s) i ways way w with
              | inl e => rw [hz] at h; cases h
              | inr u =>
                obtain ⟨j, ways', way'⟩ := u
                rw [hz] at h hf
                obtain ⟨f1, f2, f3, f4⟩ := hf
                exact ih j ways' way' v f2 (by omega) h
        exact key _ _ _ _ _ (by omega) (by simp) hz
      split
      · exact ⟨fun w hw => absurd hw List.not_mem_nil, by simp⟩
      · exact ⟨h1, by simp only; omega⟩
  · exact ⟨fun w hw => absurd hw List.not_mem_nil, by simp⟩
structure BoxOf (w : Wy) (lo hi : Pn) : Prop where
  a : ∃ p ∈ w, p.1 = lo.1
  b : ∃ p ∈ w, p.2 = lo.2
  c : ∃ p ∈ w, p.1 = hi.1
  d : ∃ p ∈ w, p.2 = hi.2
end Go.Proofs.YtgfchmagglhohaaDoor.Ev

end
section
namespace Go.Proofs.YtgfchmagglhohaaDoor.Ev
open Go
set_option linter.unusedVariables false
set_option linter.unusedSimpArgs false
set_option linter.unusedSectionVars false
theorem wrap8 {n : Int} (h1 : 0 ≤ n) (h2 : n < 256) : IntKind.wrap .u8 n = n := by rw [IntKind.wrap_u8]; omega
theorem Kn {n : Nat} (h : n < 10) : strOf [IntKind.wrap .u8 (IntKind.wrap .i64 ((48 : Int) + (n : Int)))] = [UInt8.ofNat (48 + n)] := by
  rw [wrapI (by omega) (by omega), wrap8 (by omega) (by omega)]
  unfold strOf
  simp only [List.map_cons, List.map_nil]
  congr 2
theorem PC : ∀ (f n : Nat), n < f → n < 9223372036854775808 → Ch f (n : Int) = some (Lib.decDigits n)
  | 0, n, h, _ => by omega
  | f + 1, n, h, h1 => by
    unfold Ch Iz
    by_cases hn : n < 10
    · rw [decide_eq_true (by omega), cT, Kn hn, Lib.decDigits, dif_pos hn]
    · have e1 : Int.tdiv (n : Int) 10 = ((n / 10 : Nat) : Int) := by rw [Int.tdiv_eq_ediv_of_nonneg (by omega)]; omega
      have e2 : Int.tmod (n : Int) 10 = ((n % 10 : Nat) : Int) := by rw [Int.tmod_eq_emod_of_nonneg (by omega)]; omega
      rw [decide_eq_false (by omega), cF, e1, wrapI (by omega) (by omega), PC f (n / 10) (by omega) (by omega), obs, e2, Kn (by omega), Bg (by
        have := Ct (n := n / 10) (by omega)
        simp; omega), obs]
      conv => rhs; rw [Lib.decDigits, dif_neg hn]
theorem PJ {n : Nat} (h : n < 9223372036854775808) : D1 (n : Int) = some (Lib.decDigits n) := by
  unfold D1
  exact PC _ n (by omega) h
end Go.Proofs.YtgfchmagglhohaaDoor.Ev

end
section
namespace Go.Proofs.YtgfchmagglhohaaDoor.Ev
open Go
set_option linter.unusedVariables false
set_option linter.unusedSimpArgs false
set_option linter.unusedSectionVars false
theorem Hg {n : Int} (h0 : -9223372036854775808 < n) (h1 : n < 9223372036854775808) : Cl n = some (Lib.itoa n) := by
  unfold Cl Lib.itoa
  by_cases hn : n < 0
  · obtain ⟨m, rfl⟩ : ∃ m : Nat, n = -(m : Int) := ⟨n.natAbs, by omega⟩
    rw [decide_eq_true hn, cT, if_pos hn, wrapI (by omega) (by omega), show (0 : Int) - -(m : Int) = (m : Int) by omega, PJ (by omega), obs, Bg (by
      have := Ct (n := m) (by omega)
      simp; omega), obs]
    rw [Int.natAbs_neg, Int.natAbs_natCast]
    rfl
  · obtain ⟨m, rfl⟩ : ∃ m : Nat, n = (m : Int) := ⟨n.toNat, by omega⟩
    rw [decide_eq_false hn, cF, if_neg hn, PJ (by omega), obs, Int.toNat_natCast]
end Go.Proofs.YtgfchmagglhohaaDoor.Ev

end
section
namespace Go.Proofs.YtgfchmagglhohaaDoor.Ev
open Go
set_option linter.unusedVariables false
set_option linter.unusedSimpArgs false
set_option linter.unusedSectionVars false
theorem RD {c : Nat} : ∀ {xs : List Str}, (∀ x ∈ xs, x.length ≤ c) → ∀ b, (Lib.join xs [b]).length ≤ (c + 1) * xs.length
  | [], _, b => by simp [Lib.join_nil]
  | x :: xs, h, b => by
    rw [Lib.join_cons]
    have ht : ∀ ys : List Str, (∀ y ∈ ys, y.length ≤ c) → (Lib.joinTail [b] ys).length ≤ (c + 1) * ys.length := by
      intro ys
      induction ys with
      | nil => intro _; simp [Lib.joinTail]
      | cons y ys ih =>
        intro hy
        have h1 := ih (fun z hz => hy z (List.mem_cons_of_mem _ hz))
        have h2 := hy y (List.mem_cons_self ..)
        simp only [Lib.joinTail, List.map_cons, List.flatten_cons, List.length_append, List.length_cons, List.length_nil] at h1 ⊢
        rw [Nat.mul_add]
        omega
    have h1 := ht xs (fun z hz => h z (List.mem_cons_of_mem _ hz))
    have h2 := h x (List.mem_cons_self ..)
    rw [List.length_append, List.length_cons, Nat.mul_add]
    omega
theorem Tx {l : List Str} {sep : Str} (h1 : l.length ≤ 140737488355328) (h2 : (Lib.join l sep).length ≤ 140737488355328) : Ce l sep = some (Lib.join l sep) := by
  unfold Ce KL
  rw [if_pos ⟨h1, h2⟩]
end Go.Proofs.YtgfchmagglhohaaDoor.Ev

end
section
namespace Go.Proofs.YtgfchmagglhohaaDoor.Ev
open Go
set_option linter.unusedVariables false
set_option linter.unusedSimpArgs false
set_option linter.unusedSectionVars false
abbrev P2 := Int × Int
def within (a b c : Int) : Bool := decide (b ≤ a) && decide (a ≤ c)
theorem Kq (a b c : Int) : AH a b c = some (within a b c) := by
  unfold AH within
  by_cases h : a ≥ b <;> simp [h]
theorem Pb (a b c : Int) : Ca a b c = some (within a b c) := by
  unfold Ca within
  by_cases h : a ≥ b <;> simp [h]
theorem Ov {a b c : Int} : within a b c = true ↔ b ≤ a ∧ a ≤ c := by simp [within]
def goodPt (p : P2) : Bool := within p.1 (-1000) 1000 && within p.2 (-1000) 1000
theorem Hy (p : P2) : AT p = some (goodPt p) := by
  unfold AT goodPt
  simp only [Kq, Option.bind_some]
  cases within p.1 (-1000) 1000 <;> rfl
theorem JO (p : P2) : Bh p = some (goodPt p) := by
  unfold Bh goodPt
  simp only [Pb, Option.bind_some]
  cases within p.1 (-1000) 1000 <;> rfl
theorem GH {p : P2} : goodPt p = true ↔ -1000 ≤ p.1 ∧ p.1 ≤ 1000 ∧ -1000 ≤ p.2 ∧ p.2 ≤ 1000 := by
  simp only [goodPt, Bool.and_eq_true, Ov]
  omega
theorem DH {k : Nat} {α : Type} {l : List α} {a : α} (h : l[k]? = some a) : decide ((k : Int) < (l.length : Int)) = true := by have := getL h; simpa using this
theorem IF {α : Type} (l : List α) : decide ((l.length : Int) < (l.length : Int)) = false := by simp
theorem NH {l : List P2} (hl : Short l) : Cn l = some (l.all goodPt) := by
  unfold Cn Ax AD
  unfold Short at hl
  have key := Fh (body := fun s : List (Int × Int) × Int × Int => An s.1 s.2.1 s.2.2) (l := l) (st := fun k => (l, (l.length : Int), (k : Int))) (p := goodPt) (fin := .inl ()) (bad := fun k => .inr (k : Int))
    (fun k a hk hp => by
      have := getL hk
      unfold An B0
      simp only [DH hk, cond_true, Ag, hk, Option.bind_some, Hy, hp, Bool.not_true, cond_false, wrap1 (show k < 4611686018427387904 by omega)])
    (fun k a hk hp => by
      unfold An B0
      simp only [DH hk, cond_true, Ag, hk, Option.bind_some, Hy, hp, Bool.not_false])
    (by unfold An; simp only [IF, cond_false])
  cases hall : l.all goodPt with
  | true =>
    have h := key.1 hall
    rw [show ((0 : Nat) : Int) = 0 from rfl] at h
    simp only [h, Option.bind_some, Sum.elim_inl]
    rfl
  | false =>
    obtain ⟨k, _, h⟩ := key.2 hall
    rw [show ((0 : Nat) : Int) = 0 from rfl] at h
    simp only [h, Option.bind_some, Sum.elim_inr]
    have : decide ((k : Int) ≥ 0) = true := by simp
    rw [this]; rfl
theorem Pu {l : List P2} (hl : Short l) : CR l = some (l.all goodPt) := by
  unfold CR
  unfold Short at hl
  have key := Fh (body := fun s : List (Int × Int) × Int × Int => Cy s.1 s.2.1 s.2.2) (l := l) (st := fun k => (l, (l.length : Int), (k : Int))) (p := goodPt) (fin := .inl ()) (bad := fun k => .inr false)
    (fun k a hk hp => by
      have := getL hk
      unfold Cy
      simp only [DH hk, cond_true, Ag, hk, Option.bind_some, JO, hp, Bool.not_true, cond_false, wrap1 (show k < 4611686018427387904 by omega)])
    (fun k a hk hp => by
      unfold Cy
      simp only [DH hk, cond_true, Ag, hk, Option.bind_some, JO, hp, Bool.not_false])
    (by unfold Cy; simp only [IF, cond_false])
  cases hall : l.all goodPt with
  | true =>
    have h := key.1 hall
    rw [show ((0 : Nat) : Int) = 0 from rfl] at h
    simp only [h, Option.bind_some, Sum.elim_inl]
  | false =>
    obtain ⟨k, _, h⟩ := key.2 hall
    rw [show ((0 : Nat) : Int) = 0 from rfl] at h
    simp only [h, Option.bind_some, Sum.elim_inr]
def isWay (l : List P2) : Bool := (decide (3 ≤ l.length) && decide (l.length ≤ 12)) && l.all goodPt
theorem Ls {l : List P2} : isWay l = true ↔ (3 ≤ l.length ∧ l.length ≤ 12) ∧ ∀ p ∈ l, goodPt p = true := by
  simp [isWay, List.all_eq_true, and_assoc]
theorem Kw (l : List P2) : within (l.length : Int) 3 12 = (decide (3 ≤ l.length) && decide (l.length ≤ 12)) := by
  unfold within
  congr 1 <;> rw [decide_eq_decide] <;> omega
theorem MC {l : List P2} (h : Short l) : CN l = some (isWay l) := by
  unfold CN isWay
  simp only [Kq, Option.bind_some, NH h, Kw]
  cases (decide (3 ≤ l.length) && decide (l.length ≤ 12)) <;> rfl
theorem MO {l : List P2} (h : Short l) : CP l = some (isWay l) := by
  unfold CP isWay
  simp only [Pb, Option.bind_some, Pu h, Kw]
  cases (decide (3 ≤ l.length) && decide (l.length ≤ 12)) <;> rfl
abbrev Ways := List (List (Int × Int))
def goodWays (l : Ways) : Bool := l.all isWay && (decide (1 ≤ l.length) && decide (l.length ≤ 4))
theorem wlen (n : Nat) : within (n : Int) 1 4 = (decide (1 ≤ n) && decide (n ≤ 4)) := by
  unfold within
  congr 1 <;> (apply decide_eq_decide.2; omega)
theorem Oz {l : Ways} (hl : Short l) (hs : ∀ w ∈ l, Short w) : B5 l = some (goodWays l) := by
  unfold B5 goodWays
  have hl' := hl
  unfold Short at hl'
  have key := Fh (body := fun s : Ways × Ways × Int × Int => BB s.1 s.2.1 s.2.2.1 s.2.2.2) (l := l) (st := fun k => (l, l, (l.length : Int), (k : Int))) (p := isWay) (fin := .inl l) (bad := fun k => .inr false)
    (fun k a hk hp => by
      have := getL hk
      unfold BB
      simp only [DH hk, cond_true, Ag, hk, Option.bind_some, MO (hs a (List.mem_of_getElem? hk)), hp, Bool.not_true, cond_false, wrap1 (show k < 4611686018427387904 by omega)])
    (fun k a hk hp => by
      unfold BB
      simp only [DH hk, cond_true, Ag, hk, Option.bind_some, MO (hs a (List.mem_of_getElem? hk)), hp, Bool.not_false])
    (by unfold BB; simp only [IF, cond_false])
  cases hall : l.all isWay with
  | true =>
    have h := key.1 hall
    rw [show ((0 : Nat) : Int) = 0 from rfl] at h
    simp only [h, Option.bind_some, Sum.elim_inl, Pb, wlen, Bool.true_and]
  | false =>
    obtain ⟨k, _, h⟩ := key.2 hall
    rw [show ((0 : Nat) : Int) = 0 from rfl] at h
    simp only [h, Option.bind_some, Sum.elim_inr, Bool.false_and]
theorem OD {l : Ways} (hl : Short l) (hs : ∀ w ∈ l, Short w) : B3 l = some (goodWays l) := by
  unfold B3 goodWays As Ay
  have hl' := hl
  unfold Short at hl'
  have key := Fh (body := fun s : Ways × Int × Int => Al s.1 s.2.1 s.2.2) (l := l) (st := fun k => (l, (l.length : Int), (k : Int))) (p := isWay) (fin := .inl ()) (bad := fun k => .inr (k : Int))
    (fun k a hk hp => by
      have := getL hk
      unfold Al Bv
      simp only [DH hk, cond_true, Ag, hk, Option.bind_some, MC (hs a (List.mem_of_getElem? hk)), hp, Bool.not_true, cond_false, wrap1 (show k < 4611686018427387904 by omega)])
    (fun k a hk hp => by
      unfold Al Bv
      simp only [DH hk, cond_true, Ag, hk, Option.bind_some, MC (hs a (List.mem_of_getElem? hk)), hp, Bool.not_false])
    (by unfold Al; simp only [IF, cond_false])
  rw [Kq, obs, wlen]
  cases hw : (decide (1 ≤ l.length) && decide (l.length ≤ 4)) with
  | false => rw [cF, Bool.and_false]
  | true =>
    rw [cT, Bool.and_true]
    cases hall : l.all isWay with
    | true =>
      have h := key.1 hall
      rw [show ((0 : Nat) : Int) = 0 from rfl] at h
      simp only [h, Option.bind_some, Sum.elim_inl]
      rfl
    | false =>
      obtain ⟨k, _, h⟩ := key.2 hall
      rw [show ((0 : Nat) : Int) = 0 from rfl] at h
      simp only [h, Option.bind_some, Sum.elim_inr]
      have : decide ((k : Int) ≥ 0) = true := by simp
      rw [this]; rfl
theorem Fe {l : Ways} (h : goodWays l = true) : l.length ≤ 4 ∧ ∀ w ∈ l, w.length ≤ 12 ∧ 3 ≤ w.length ∧ ∀ p ∈ w, -1000 ≤ p.1 ∧ p.1 ≤ 1000 ∧ -1000 ≤ p.2 ∧ p.2 ≤ 1000 := by
  unfold goodWays at h
  rw [Bool.and_eq_true, Bool.and_eq_true, List.all_eq_true] at h
  refine ⟨by simpa using h.2.2, fun w hw => ?_⟩
  have h1 := h.1 w hw
  unfold isWay at h1
  simp only [Bool.and_eq_true, decide_eq_true_eq, List.all_eq_true] at h1
  exact ⟨h1.1.2, h1.1.1, fun p hp => GH.1 (h1.2 p hp)⟩
end Go.Proofs.YtgfchmagglhohaaDoor.Ev

end
section
namespace Go.Proofs.YtgfchmagglhohaaDoor.Ev
open Go
set_option linter.unusedVariables false
set_option linter.unusedSimpArgs false
set_option linter.unusedSectionVars false
def ptW (k : Nat) (p : P2) : List Str := [if k = 0 then [77] else [76], Lib.itoa p.1, Lib.itoa p.2]
def ptsW (w : List P2) (k : Nat) : List Str := ((List.range k).map fun i => match w[i]? with | some p => ptW i p | none => []).flatten
def wayW (w : List P2) : List Str := ptsW w w.length ++ [[90]]
def waysW (l : Ways) (k : Nat) : List Str := ((l.take k).map wayW).flatten
def sp (ws : List Str) : Str := (ws.map (· ++ [32])).flatten
theorem Iq (a b : List Str) : sp (a ++ b) = sp a ++ sp b := by unfold sp; simp
theorem MS (a : List Str) (z : Str) : Lib.join (a ++ [z]) [32] = sp a ++ z := by
  induction a with
  | nil => rw [List.nil_append, Lib.join_one]; rfl
  | cons x a ih =>
    have e : ∀ (y : Str) (r : List Str), Lib.join (x :: y :: r) [32] = x ++ 32 :: Lib.join (y :: r) [32] := by
      intro y r
      rw [Lib.join_cons, Lib.join_cons]
      simp [Lib.joinTail]
    cases a with
    | nil =>
      rw [List.nil_append] at ih
      rw [List.cons_append, List.nil_append, e, ih]
      simp [sp]
    | cons y r =>
      rw [List.cons_append] at ih
      rw [List.cons_append, List.cons_append, e, ih]
      unfold sp
      simp
theorem F0 {w : List P2} {k : Nat} {p : P2} (h : w[k]? = some p) : ptsW w (k + 1) = ptsW w k ++ ptW k p := by
  unfold ptsW
  rw [List.range_succ, List.map_append, List.flatten_append]
  simp [h]
theorem Dl {l : Ways} {k : Nat} {w : List P2} (h : l[k]? = some w) : waysW l (k + 1) = waysW l k ++ wayW w := by
  unfold waysW
  rw [List.take_add_one, h]
  simp
theorem De (w : List P2) : ∀ k, (ptsW w k).length ≤ 3 * k
  | 0 => by simp [ptsW]
  | k + 1 => by
    cases h : w[k]? with
    | some p =>
      have := De w k
      rw [F0 h, List.length_append]
      simp [ptW]; omega
    | none =>
      have := De w k
      have e : ptsW w (k + 1) = ptsW w k := by
        unfold ptsW
        rw [List.range_succ, List.map_append, List.flatten_append]
        simp [h]
      rw [e]; omega
theorem Se (w : List P2) : (wayW w).length ≤ 3 * w.length + 1 := by
  have := De w w.length
  unfold wayW
  rw [List.length_append]
  simp; omega
theorem CS {l : Ways} (h : ∀ w ∈ l, w.length ≤ 12) : ∀ k, (waysW l k).length ≤ 37 * k
  | 0 => by simp [waysW]
  | k + 1 => by
    have := CS h k
    cases hk : l[k]? with
    | some w =>
      have h1 := Se w
      have h2 := h w (List.mem_of_getElem? hk)
      rw [Dl hk, List.length_append]
      omega
    | none =>
      unfold waysW at this ⊢
      rw [List.take_add_one, hk]
      simp at this ⊢; omega
def SW (ws : List Str) : Prop := ∀ x ∈ ws, x.length ≤ 21
theorem SW.append {a b : List Str} (ha : SW a) (hb : SW b) : SW (a ++ b) := fun x hx => (List.mem_append.1 hx).elim (ha x) (hb x)
theorem Tp {k : Nat} {p : P2} (h : -1000 ≤ p.1 ∧ p.1 ≤ 1000 ∧ -1000 ≤ p.2 ∧ p.2 ≤ 1000) : SW (ptW k p) := by
  intro x hx
  unfold ptW at hx
  rcases List.mem_cons.1 hx with rfl | hx
  · split <;> simp
  rcases List.mem_cons.1 hx with rfl | hx
  · exact HS (by omega) (by omega)
  cases List.mem_singleton.1 hx
  exact HS (by omega) (by omega)
theorem Jt {w : List P2} (h : ∀ p ∈ w, -1000 ≤ p.1 ∧ p.1 ≤ 1000 ∧ -1000 ≤ p.2 ∧ p.2 ≤ 1000) : ∀ k, k ≤ w.length → SW (ptsW w k)
  | 0, _ => fun x hx => by simp [ptsW] at hx
  | k + 1, hk => by
    have he : w[k]? = some w[k] := List.getElem?_eq_getElem (by omega)
    rw [F0 he]
    exact (Jt h k (by omega)).append (Tp (h _ (List.getElem_mem _)))
theorem Sz {w : List P2} (h : ∀ p ∈ w, -1000 ≤ p.1 ∧ p.1 ≤ 1000 ∧ -1000 ≤ p.2 ∧ p.2 ≤ 1000) : SW (wayW w) :=
  (Jt h w.length (Nat.le_refl _)).append (fun x hx => by cases List.mem_singleton.1 hx; simp)
theorem JF {l : Ways} (h : ∀ w ∈ l, ∀ p ∈ w, -1000 ≤ p.1 ∧ p.1 ≤ 1000 ∧ -1000 ≤ p.2 ∧ p.2 ≤ 1000) (k : Nat) : SW (waysW l k) := by
  intro x hx
  unfold waysW at hx
  obtain ⟨ws, hws, hx⟩ := List.mem_flatten.1 hx
  obtain ⟨w, hw, rfl⟩ := List.mem_map.1 hws
  exact Sz (h w (List.mem_of_mem_take hw)) x hx
theorem Pc {ws : List Str} (h : SW ws) : (sp ws).length ≤ 22 * ws.length := by
  induction ws with
  | nil => simp [sp]
  | cons x ws ih =>
    have h1 := ih (fun y hy => h y (List.mem_cons_of_mem _ hy))
    have h2 := h x (List.mem_cons_self ..)
    unfold sp at h1 ⊢
    rw [List.map_cons, List.flatten_cons, List.length_append, List.length_append, List.length_cons]
    simp only [List.length_cons, List.length_nil]
    omega
def printW (l : Ways) : Str := Lib.join (waysW l l.length) [32]
def preW (l : Ways) (k : Nat) : Str := Lib.join (waysW l k) [32]
theorem S2 {l : Ways} {k : Nat} (hk : k < l.length) (h0 : k ≠ 0) : preW l k ++ [32] = sp (waysW l k) := by
  obtain ⟨j, rfl⟩ : ∃ j, k = j + 1 := ⟨k - 1, by omega⟩
  have he : l[j]? = some l[j] := List.getElem?_eq_getElem (by omega)
  unfold preW
  rw [Dl he]
  unfold wayW
  rw [← List.append_assoc, MS, Iq (waysW l j ++ ptsW l[j] l[j].length), List.append_assoc]
  rfl
section
variable {l : Ways} (hl : l.length ≤ 4) (hw : ∀ w ∈ l, w.length ≤ 12 ∧ 3 ≤ w.length ∧ ∀ p ∈ w, -1000 ≤ p.1 ∧ p.1 ≤ 1000 ∧ -1000 ≤ p.2 ∧ p.2 ≤ 1000)
include hl hw
theorem Tf {j : Nat} (hj : j < l.length) {w : List P2} (hjw : l[j]? = some w) (a b : Int) :
    loopM (fun (s : (Str × (Ways × (Int × (Int × (List P2 × (Int × Int))))))) => Bz s.1 s.2.1 s.2.2.1 s.2.2.2.1 s.2.2.2.2.1 s.2.2.2.2.2.1 s.2.2.2.2.2.2) (sp (waysW l j), (l, (a, (b, (w, ((w.length : Int), (0 : Int))))))) =
      some (sp (waysW l j ++ ptsW w w.length), (l, (a, b))) := by
  have hin := hw w (List.mem_of_getElem? hjw)
  have hsw := JF (l := l) (fun w hw' => (hw w hw').2.2) j
  have hwl := CS (l := l) (fun w hw' => (hw w hw').1) j
  obtain ⟨_, h1, _⟩ := FX (body := fun (s : (Str × (Ways × (Int × (Int × (List P2 × (Int × Int))))))) => Bz s.1 s.2.1 s.2.2.1 s.2.2.2.1 s.2.2.2.2.1 s.2.2.2.2.2.1 s.2.2.2.2.2.2)
    (fun k (_ : Unit) => (sp (waysW l j ++ ptsW w k), l, a, b, w, (w.length : Int), (k : Int))) (fun _ => (sp (waysW l j ++ ptsW w w.length), l, a, b)) (fun _ _ => True) w.length (by
      intro k _ hk _
      have he : w[k]? = some w[k] := List.getElem?_eq_getElem hk
      generalize w[k] = p at he
      have hp := hin.2.2 p (List.mem_of_getElem? he)
      have n1 := HS (n := p.1) (by omega) (by omega)
      have n2 := HS (n := p.2) (by omega) (by omega)
      have hsl := Pc (hsw.append (Jt hin.2.2 k (by omega)))
      have hpl := De w k
      rw [List.length_append] at hsl
      refine ⟨(), ?_, trivial⟩
      unfold Bz
      simp only
      rw [decide_eq_true (by omega), cT, Ag, he, obs, F0 he]
      by_cases hk0 : k = 0
      · subst hk0
        rw [show (((0 : Nat) : Int) == 0) = true from rfl, cT, Bg (by simp; omega), obs, obs]
        simp only [Sum.elim_inr]
        rw [Hg (by omega) (by omega), obs, Bg (by simp; omega), obs, Hg (by omega) (by omega), obs, Bg (by simp; omega), obs, Bg (by simp; omega), obs, Bg (by simp; omega), obs, wrap1 (by omega),
          ← List.append_assoc (waysW l j), Iq (waysW l j ++ ptsW w _)]
        simp [ptW, sp]
      · rw [show ((k : Int) == 0) = false by simp; omega, cF, Bg (by simp; omega), obs, obs]
        simp only [Sum.elim_inr]
        rw [Hg (by omega) (by omega), obs, Bg (by simp; omega), obs, Hg (by omega) (by omega), obs, Bg (by simp; omega), obs, Bg (by simp; omega), obs, Bg (by simp; omega), obs, wrap1 (by omega),
          ← List.append_assoc (waysW l j), Iq (waysW l j ++ ptsW w _)]
        simp [ptW, sp, hk0]) (by
      intro _ _
      unfold Bz
      simp) 0 () (by omega) trivial
  have e0 : ptsW w 0 = [] := by simp [ptsW]
  rw [e0, List.append_nil] at h1
  exact h1
theorem Ou : B9 l = some (printW l) := by
  unfold B9
  obtain ⟨_, h1, _⟩ := FX (body := fun (s : (Str × (Ways × (Int × Int)))) => Bu s.1 s.2.1 s.2.2.1 s.2.2.2)
    (fun k (_ : Unit) => (preW l k, l, (l.length : Int), (k : Int))) (fun _ => printW l) (fun _ _ => True) l.length (by
      intro k _ hk _
      have he : l[k]? = some l[k] := List.getElem?_eq_getElem hk
      generalize l[k] = w at he
      have hin := hw w (List.mem_of_getElem? he)
      have hsw := JF (l := l) (fun w hw' => (hw w hw').2.2) k
      have hwl := CS (l := l) (fun w hw' => (hw w hw').1) k
      have hsl := Pc hsw
      have hsl2 := Pc (hsw.append (Jt hin.2.2 w.length (Nat.le_refl _)))
      have hpl := De w w.length
      rw [List.length_append] at hsl2
      refine ⟨(), ?_, trivial⟩
      unfold Bu
      simp only
      rw [decide_eq_true (by omega), cT, Ag, he, obs]
      by_cases hk0 : k = 0
      · subst hk0
        rw [show decide (((0 : Nat) : Int) > 0) = false from rfl, cF]
        have e0 : preW l 0 = sp (waysW l 0) := by simp [preW, waysW, sp, Lib.join_nil]
        rw [e0]
        rw [obs]
        simp only [Sum.elim_inr]
        rw [Tf hl hw hk he, obs]
        simp only
        rw [Bg (by simp; omega), obs, wrap1 (by omega)]
        congr 3
        unfold preW
        rw [Dl he]
        unfold wayW
        rw [← List.append_assoc, MS]
      · have hps := S2 hk hk0
        have hlen := congrArg List.length hps
        rw [List.length_append] at hlen
        rw [decide_eq_true (by omega), cT, Bg (by simp at hlen ⊢; omega), obs, hps]
        rw [obs]
        simp only [Sum.elim_inr]
        rw [Tf hl hw hk he, obs]
        simp only
        rw [Bg (by simp; omega), obs, wrap1 (by omega)]
        congr 3
        unfold preW
        rw [Dl he]
        unfold wayW
        rw [← List.append_assoc, MS]) (by
      intro _ _
      unfold Bu
      simp [preW, printW]) 0 () (by omega) trivial
  have e0 : preW l 0 = [] := by simp [preW, waysW, Lib.join_nil]
  rw [e0] at h1
  have h1' : loopM (fun (s : (Str × (Ways × (Int × Int)))) => Bu s.1 s.2.1 s.2.2.1 s.2.2.2) (([] : Str), l, (l.length : Int), (0 : Int)) = _ := h1
  rw [h1', obs]
theorem T2 {j : Nat} (hj : j < l.length) {w : List P2} (hjw : l[j]? = some w) (a b : Int) :
    loopM (fun (s : (List Str × (Ways × (Int × (Int × (List P2 × (Int × Int))))))) => Bl s.1 s.2.1 s.2.2.1 s.2.2.2.1 s.2.2.2.2.1 s.2.2.2.2.2.1 s.2.2.2.2.2.2) (waysW l j, (l, (a, (b, (w, ((w.length : Int), (0 : Int))))))) =
      some (waysW l j ++ ptsW w w.length, (l, (a, b))) := by
  have hin := hw w (List.mem_of_getElem? hjw)
  have hwl := CS (l := l) (fun w hw' => (hw w hw').1) j
  obtain ⟨_, h1, _⟩ := FX (body := fun (s : (List Str × (Ways × (Int × (Int × (List P2 × (Int × Int))))))) => Bl s.1 s.2.1 s.2.2.1 s.2.2.2.1 s.2.2.2.2.1 s.2.2.2.2.2.1 s.2.2.2.2.2.2)
    (fun k (_ : Unit) => (waysW l j ++ ptsW w k, l, a, b, w, (w.length : Int), (k : Int))) (fun _ => (waysW l j ++ ptsW w w.length, l, a, b)) (fun _ _ => True) w.length (by
      intro k _ hk _
      have he : w[k]? = some w[k] := List.getElem?_eq_getElem hk
      generalize w[k] = p at he
      have hp := hin.2.2 p (List.mem_of_getElem? he)
      have hpl := De w k
      refine ⟨(), ?_, trivial⟩
      unfold Bl
      simp only
      rw [decide_eq_true (by omega), cT, Ag, he, obs, F0 he]
      by_cases hk0 : k = 0
      · subst hk0
        rw [show (((0 : Nat) : Int) == 0) = true from rfl, cT, obs]
        simp only [Sum.elim_inr]
        rw [J5 (by omega) (by omega), obs, J5 (by omega) (by omega), obs, Br (by simp [maxBytes]; omega) (by simp [maxBytes]; omega), obs, wrap1 (by omega)]
        simp [ptW]
      · rw [show ((k : Int) == 0) = false by simp; omega, cF, obs]
        simp only [Sum.elim_inr]
        rw [J5 (by omega) (by omega), obs, J5 (by omega) (by omega), obs, Br (by simp [maxBytes]; omega) (by simp [maxBytes]; omega), obs, wrap1 (by omega)]
        simp [ptW, hk0]) (by
      intro _ _
      unfold Bl
      simp) 0 () (by omega) trivial
  have e0 : ptsW w 0 = [] := by simp [ptsW]
  rw [e0, List.append_nil] at h1
  exact h1
theorem SJ : loopM (fun (s : (List Str × (Ways × (Int × Int)))) => Bi s.1 s.2.1 s.2.2.1 s.2.2.2) (([] : List Str), (l, ((l.length : Int), (0 : Int)))) = some (waysW l l.length) := by
  obtain ⟨_, h1, _⟩ := FX (body := fun (s : (List Str × (Ways × (Int × Int)))) => Bi s.1 s.2.1 s.2.2.1 s.2.2.2)
    (fun k (_ : Unit) => (waysW l k, l, (l.length : Int), (k : Int))) (fun _ => waysW l l.length) (fun _ _ => True) l.length (by
      intro k _ hk _
      have he : l[k]? = some l[k] := List.getElem?_eq_getElem hk
      generalize l[k] = w at he
      have hin := hw w (List.mem_of_getElem? he)
      have hwl := CS (l := l) (fun w hw' => (hw w hw').1) k
      have hpl := De w w.length
      refine ⟨(), ?_, trivial⟩
      unfold Bi
      simp only
      rw [decide_eq_true (by omega), cT, Ag, he, obs, T2 hl hw hk he, obs, Br (by simp [maxBytes]; omega) (by simp [maxBytes]; omega), obs, wrap1 (by omega), Dl he]
      simp [wayW]) (by
      intro _ _
      unfold Bi
      simp) 0 () (by omega) trivial
  have e0 : waysW l 0 = [] := by simp [waysW]
  rw [e0] at h1
  exact h1
end
def printV (l : Ways) : Str × Bool := if goodWays l then (if (printW l).length ≤ 400 then (printW l, true) else ([], false)) else ([], false)
theorem Ja {l : Ways} (hl : Short l) (hs : ∀ w ∈ l, Short w) : Bn l = some (printV l) := by
  unfold Bn printV
  rw [Oz hl hs, obs]
  cases hg : goodWays l with
  | false => rfl
  | true =>
    obtain ⟨h1, h2⟩ := Fe hg
    rw [nT, cF, Ou h1 h2, obs, if_pos rfl]
    by_cases h : (printW l).length ≤ 400
    · rw [decide_eq_false (by omega), cF, if_pos h]
    · rw [decide_eq_true (by omega), cT, if_neg h]
theorem NF {l : Ways} (hl : Short l) (hs : ∀ w ∈ l, Short w) : Bq l = some (printV l) := by
  unfold Bq printV
  rw [OD hl hs, obs]
  cases hg : goodWays l with
  | false => rfl
  | true =>
    obtain ⟨h1, h2⟩ := Fe hg
    have hwl := CS (l := l) (fun w hw' => (h2 w hw').1) l.length
    have hsw := JF (l := l) (fun w hw' => (h2 w hw').2.2) l.length
    have hj := RD (c := 21) (xs := waysW l l.length) hsw 32
    rw [nT, cF, SJ h1 h2, obs, Tx (by omega) (by omega), obs, if_pos rfl]
    show (bif decide (((printW l).length : Int) > 400) then _ else some (printW l, true)) = _
    by_cases h : (printW l).length ≤ 400
    · rw [decide_eq_false (by omega), cF, if_pos h]
    · rw [decide_eq_true (by omega), cT, if_neg h]
end Go.Proofs.YtgfchmagglhohaaDoor.Ev

end
section
namespace Go.Proofs.YtgfchmagglhohaaDoor.Ev
open Go
set_option linter.unusedVariables false
set_option linter.unusedSimpArgs false
theorem Nl {l : List P2} {d : P2} (hd : goodPt d = true) (hg : ∀ p ∈ l, goodPt p = true) (hl : l.length ≤ 1000) :
    loopM (fun (s : ((Int × Int) × ((List (Int × Int)) × ((List (Int × Int)) × (Int × Int))))) => BN s.1 s.2.1 s.2.2.1 s.2.2.2.1 s.2.2.2.2) ((d.1, d.2), (List.nil, (l, (((l.length : Nat) : Int), (0 : Int))))) = some (l.map fun p => (p.1 + d.1, p.2 + d.2)) := by
  obtain ⟨h1, h2⟩ := LX (l := l) (body := fun (s : ((Int × Int) × ((List (Int × Int)) × ((List (Int × Int)) × (Int × Int))))) => BN s.1 s.2.1 s.2.2.1 s.2.2.2.1 s.2.2.2.2)
    (st := fun k (b : List P2) => ((d.1, d.2), (b, (l, ((l.length : Int), (k : Int)))))) (step := fun b p => b ++ [(p.1 + d.1, p.2 + d.2)]) (fin := fun b => b) (I := fun k b => b = (l.take k).map fun p => (p.1 + d.1, p.2 + d.2))
    (by
      rintro k b p hk rfl
      have hp := hg p (List.mem_of_getElem? hk)
      rw [GH] at hp hd
      have hkl := getL hk
      unfold BN
      simp only [DH hk, cond_true, Ag, hk, Option.bind_some, wrap1 (show k < 4611686018427387904 by omega)]
      rw [wrapI (n := p.1 + d.1) (by omega) (by omega), wrapI (n := p.2 + d.2) (by omega) (by omega), Br (by simp [maxBytes]; omega) (by simp [maxBytes]; omega)]
      refine ⟨rfl, ?_⟩
      rw [List.take_add_one, hk]
      simp)
    (by
      rintro b rfl
      unfold BN
      simp only [IF, cond_false]) [] (by simp)
  rw [show ((0 : Nat) : Int) = 0 from rfl] at h1
  rw [h1, h2, List.take_length]
theorem QE {l : List P2} {d : P2} (hl : Short l) : Cu l d = some (if isWay l = true ∧ goodPt d = true ∧ (l.map fun p => (p.1 + d.1, p.2 + d.2)).all goodPt = true then (l.map fun p => (p.1 + d.1, p.2 + d.2), true) else ([], false)) := by
  unfold Cu
  simp only [MC hl, Option.bind_some, Hy]
  cases hw : isWay l with
  | false => simp
  | true =>
    cases hd : goodPt d with
    | false => simp
    | true =>
      obtain ⟨⟨_, w1⟩, w2⟩ := Ls.1 hw
      simp only [Bool.not_true, cond_false, Nl hd w2 (by omega), Option.bind_some]
      rw [NH (by unfold Short; simp; omega)]
      simp only [Option.bind_some]
      cases (l.map fun p => (p.1 + d.1, p.2 + d.2)).all goodPt <;> simp
theorem NZ {l : List P2} {d : P2} (hd : goodPt d = true) (hg : ∀ p ∈ l, goodPt p = true) (hl : l.length ≤ 1000) :
    loopM (fun (s : ((Int × Int) × ((List (Int × Int)) × ((List (Int × Int)) × (Int × Int))))) => BP s.1 s.2.1 s.2.2.1 s.2.2.2.1 s.2.2.2.2) ((d.1, d.2), (List.nil, (l, (((l.length : Nat) : Int), (0 : Int))))) = some (l.map fun p => (p.1 + d.1, p.2 + d.2)) := by
  obtain ⟨h1, h2⟩ := LX (l := l) (body := fun (s : ((Int × Int) × ((List (Int × Int)) × ((List (Int × Int)) × (Int × Int))))) => BP s.1 s.2.1 s.2.2.1 s.2.2.2.1 s.2.2.2.2)
    (st := fun k (b : List P2) => ((d.1, d.2), (b, (l, ((l.length : Int), (k : Int)))))) (step := fun b p => b ++ [(p.1 + d.1, p.2 + d.2)]) (fin := fun b => b) (I := fun k b => b = (l.take k).map fun p => (p.1 + d.1, p.2 + d.2))
    (by
      rintro k b p hk rfl
      have hp := hg p (List.mem_of_getElem? hk)
      rw [GH] at hp hd
      have hkl := getL hk
      unfold BP
      simp only [DH hk, cond_true, Ag, hk, Option.bind_some, wrap1 (show k < 4611686018427387904 by omega)]
      rw [wrapI (n := p.1 + d.1) (by omega) (by omega), wrapI (n := p.2 + d.2) (by omega) (by omega), Br (by simp [maxBytes]; omega) (by simp [maxBytes]; omega)]
      refine ⟨rfl, ?_⟩
      rw [List.take_add_one, hk]
      simp)
    (by
      rintro b rfl
      unfold BP
      simp only [IF, cond_false]) [] (by simp)
  rw [show ((0 : Nat) : Int) = 0 from rfl] at h1
  rw [h1, h2, List.take_length]
theorem PV {l : List P2} {d : P2} (hl : Short l) : Cz l d = some (if isWay l = true ∧ goodPt d = true ∧ (l.map fun p => (p.1 + d.1, p.2 + d.2)).all goodPt = true then (l.map fun p => (p.1 + d.1, p.2 + d.2), true) else ([], false)) := by
  unfold Cz
  simp only [MO hl, Option.bind_some, JO]
  cases hw : isWay l with
  | false => simp
  | true =>
    cases hd : goodPt d with
    | false => simp
    | true =>
      obtain ⟨⟨_, w1⟩, w2⟩ := Ls.1 hw
      simp only [Bool.not_true, cond_false, NZ hd w2 (by omega), Option.bind_some]
      rw [Pu (by unfold Short; simp; omega)]
      simp only [Option.bind_some]
      cases (l.map fun p => (p.1 + d.1, p.2 + d.2)).all goodPt <;> simp
end Go.Proofs.YtgfchmagglhohaaDoor.Ev

end
section
namespace Go.Proofs.YtgfchmagglhohaaDoor.Ev
open Go
set_option linter.unusedVariables false
set_option linter.unusedSimpArgs false
def mvW (d : P2) (w : List P2) : List P2 := w.map fun p => (p.1 + d.1, p.2 + d.2)
def canMv (d : P2) (w : List P2) : Prop := isWay w = true ∧ goodPt d = true ∧ (mvW d w).all goodPt = true
instance (d : P2) (w : List P2) : Decidable (canMv d w) := by unfold canMv; infer_instance
def mvStep (d : P2) (out : Ways) (w : List P2) : (Ways ⊕ (Str × Bool)) ⊕ Ways := if canMv d w then .inr (out ++ [mvW d w]) else .inl (.inr ([], false))
def mvR (d : P2) (l : Ways) : Ways ⊕ (Str × Bool) := Sum.elim id (fun o => .inl o) (foldX (mvStep d) [] l)
section
variable {l : Ways} {d : P2} (hl : l.length ≤ 1000) (hs : ∀ w ∈ l, Short w)
include hl hs
theorem QQ : loopM (fun (s : (P2 × (Ways × (Ways × (Int × Int))))) => AQ s.1 s.2.1 s.2.2.1 s.2.2.2.1 s.2.2.2.2) (d, (([] : Ways), (l, ((l.length : Int), (0 : Int))))) = some (mvR d l) := by
  obtain ⟨h1, h2⟩ := N1 (l := l) (body := fun (s : (P2 × (Ways × (Ways × (Int × Int))))) => AQ s.1 s.2.1 s.2.2.1 s.2.2.2.1 s.2.2.2.2)
    (st := fun k (b : Ways) => (d, (b, (l, ((l.length : Int), (k : Int)))))) (step := mvStep d) (fin := fun b => .inl b) (I := fun k b => b.length = k)
    (by
      rintro k b w hk hb
      have hkl := getL hk
      have hw := hs w (List.mem_of_getElem? hk)
      have key : AQ d b l (l.length : Int) (k : Int) = if canMv d w then some (.inl (d, (b ++ [mvW d w], (l, ((l.length : Int), ((k + 1 : Nat) : Int)))))) else some (.inr (.inr ([], false))) := by
        unfold AQ
        rw [decide_eq_true (show (k : Int) < (l.length : Int) by omega), cT, JE hkl, obs, show getN l k = some w from hk, obs, PV hw, obs]
        by_cases h : canMv d w
        · rw [if_pos h, if_pos (show isWay w = true ∧ goodPt (d.1, d.2) = true ∧ (w.map fun p => (p.1 + (d.1, d.2).1, p.2 + (d.1, d.2).2)).all goodPt = true from h)]
          simp only [nT, cF]
          rw [show (w.map fun p => (p.1 + d.1, p.2 + d.2)) = mvW d w from rfl]
          rw [Br (by simp [maxBytes]; omega) (by simp [maxBytes]; omega), obs, wrap1 (by omega)]
        · rw [if_neg h, if_neg (show ¬ (isWay w = true ∧ goodPt (d.1, d.2) = true ∧ (w.map fun p => (p.1 + (d.1, d.2).1, p.2 + (d.1, d.2).2)).all goodPt = true) from h)]
          rfl
      unfold mvStep
      by_cases h : canMv d w
      · rw [if_pos h] at key ⊢; exact .inl ⟨_, rfl, key, by simp [hb]⟩
      · rw [if_neg h] at key ⊢; exact .inr ⟨_, rfl, key⟩)
    (by
      rintro b _
      show AQ d b l (l.length : Int) (l.length : Int) = _
      unfold AQ
      rw [decide_eq_false (by omega)]
      rfl) [] rfl
  exact h1
theorem Qu : loopM (fun (s : (P2 × (Ways × (Ways × (Int × Int))))) => AP s.1 s.2.1 s.2.2.1 s.2.2.2.1 s.2.2.2.2) (d, (([] : Ways), (l, ((l.length : Int), (0 : Int))))) = some (mvR d l) := by
  obtain ⟨h1, h2⟩ := N1 (l := l) (body := fun (s : (P2 × (Ways × (Ways × (Int × Int))))) => AP s.1 s.2.1 s.2.2.1 s.2.2.2.1 s.2.2.2.2)
    (st := fun k (b : Ways) => (d, (b, (l, ((l.length : Int), (k : Int)))))) (step := mvStep d) (fin := fun b => .inl b) (I := fun k b => b.length = k)
    (by
      rintro k b w hk hb
      have hkl := getL hk
      have hw := hs w (List.mem_of_getElem? hk)
      have key : AP d b l (l.length : Int) (k : Int) = if canMv d w then some (.inl (d, (b ++ [mvW d w], (l, ((l.length : Int), ((k + 1 : Nat) : Int)))))) else some (.inr (.inr ([], false))) := by
        unfold AP
        rw [decide_eq_true (show (k : Int) < (l.length : Int) by omega), cT, Ag, hk, obs, QE hw, obs]
        by_cases h : canMv d w
        · rw [if_pos h, if_pos (show isWay w = true ∧ goodPt (d.1, d.2) = true ∧ (w.map fun p => (p.1 + (d.1, d.2).1, p.2 + (d.1, d.2).2)).all goodPt = true from h)]
          simp only [nT, cF]
          rw [show (w.map fun p => (p.1 + d.1, p.2 + d.2)) = mvW d w from rfl]
          rw [Br (by simp [maxBytes]; omega) (by simp [maxBytes]; omega), obs, wrap1 (by omega)]
        · rw [if_neg h, if_neg (show ¬ (isWay w = true ∧ goodPt (d.1, d.2) = true ∧ (w.map fun p => (p.1 + (d.1, d.2).1, p.2 + (d.1, d.2).2)).all goodPt = true) from h)]
          rfl
      unfold mvStep
      by_cases h : canMv d w
      · rw [if_pos h] at key ⊢; exact .inl ⟨_, rfl, key, by simp [hb]⟩
      · rw [if_neg h] at key ⊢; exact .inr ⟨_, rfl, key⟩)
    (by
      rintro b _
      show AP d b l (l.length : Int) (l.length : Int) = _
      unfold AP
      rw [decide_eq_false (by omega)]
      rfl) [] rfl
  exact h1
end
theorem Py : ∀ (l out : Ways) (d : P2) (o : Ways), foldX (mvStep d) out l = .inr o → (∀ w ∈ l, w.length ≤ 1000) → (∀ w ∈ out, w.length ≤ 1000) → o.length = out.length + l.length ∧ ∀ w ∈ o, w.length ≤ 1000
  | [], out, d, o, h, _, h2 => by cases h; exact ⟨by simp, h2⟩
  | w :: l, out, d, o, h, h1, h2 => by
    unfold foldX at h
    unfold mvStep at h
    by_cases hc : canMv d w
    · rw [if_pos hc] at h
      obtain ⟨g1, g2⟩ := Py l _ d o h (fun x hx => h1 x (List.mem_cons_of_mem _ hx)) (by
        intro x hx
        rcases List.mem_append.1 hx with hx | hx
        · exact h2 x hx
        · cases List.mem_singleton.1 hx
          unfold mvW; rw [List.length_map]; exact h1 w (by simp))
      exact ⟨by rw [g1]; simp; omega, g2⟩
    · rw [if_neg hc] at h; cases h
theorem Tk {d : P2} (hd : goodPt d = false) : ∀ (l : Ways), mvR d l = .inl [] ∧ l = [] ∨ mvR d l = .inr ([], false)
  | [] => .inl ⟨rfl, rfl⟩
  | w :: l => by
    right
    unfold mvR foldX mvStep
    rw [if_neg (fun h => by rw [h.2.1] at hd; cases hd)]
    rfl
theorem P6 {s : Str} (hs : s.length ≤ 1048576) (d : P2) : ∃ r : Str × Bool, BF s d = some r ∧ BE s d = some r := by
  obtain ⟨hg, hl⟩ := RO s
  have hsh : ∀ w ∈ (pathV s).1, Short w := fun w hw => by have := (hg w hw).2; unfold Short; omega
  unfold BF BE
  rw [MV (by omega), Ni (by omega), obs, obs]
  cases (pathV s).2.2.2 with
  | false => exact ⟨_, rfl, rfl⟩
  | true =>
    rw [nT, cF, cF, Hy, obs]
    have e1 : loopM (fun (s : (P2 × (Ways × (Ways × (Int × Int))))) => AQ s.1 s.2.1 s.2.2.1 s.2.2.2.1 s.2.2.2.2) ((d.1, d.2), (([] : Ways), ((pathV s).1, (((pathV s).1.length : Int), (0 : Int))))) = some (mvR d (pathV s).1) := QQ hl hsh
    have e2 : loopM (fun (s : (P2 × (Ways × (Ways × (Int × Int))))) => AP s.1 s.2.1 s.2.2.1 s.2.2.2.1 s.2.2.2.2) ((d.1, d.2), (([] : Ways), ((pathV s).1, (((pathV s).1.length : Int), (0 : Int))))) = some (mvR d (pathV s).1) := Qu hl hsh
    rw [e1, obs]
    have fin : ∀ o, foldX (mvStep d) [] (pathV s).1 = .inr o → Bn o = some (printV o) ∧ Bq o = some (printV o) := by
      intro o ho
      obtain ⟨g1, g2⟩ := Py _ _ _ _ ho (fun w hw => (hg w hw).2) (by simp)
      simp at g1
      have h1 : Short o := by unfold Short; omega
      have h2 : ∀ w ∈ o, Short w := fun w hw => by have := g2 w hw; unfold Short; omega
      exact ⟨Ja h1 h2, NF h1 h2⟩
    cases hd : goodPt d with
    | false =>
      rcases Tk hd (pathV s).1 with ⟨h1, h2⟩ | h1
      · rw [h1]
        simp only [Sum.elim_inl]
        rw [Ja (l := []) (by unfold Short; simp) (by simp), obs]
        exact ⟨_, rfl, rfl⟩
      · rw [h1]
        exact ⟨_, rfl, rfl⟩
    | true =>
      simp only [nT, cF]
      rw [e2, obs]
      unfold mvR
      cases ho : foldX (mvStep d) [] (pathV s).1 with
      | inl r =>
        cases r with
        | inl o =>
          exfalso
          have : ∀ (l out : Ways) (o : Ways), foldX (mvStep d) out l ≠ .inl (.inl o) := by
            intro l
            induction l with
            | nil => intro out o h; cases h
            | cons w l ih =>
              intro out o h
              unfold foldX mvStep at h
              by_cases hc : canMv d w
              · rw [if_pos hc] at h; exact ih _ _ h
              · rw [if_neg hc] at h; cases h
          exact this _ _ _ ho
        | inr r => exact ⟨_, rfl, rfl⟩
      | inr o =>
        obtain ⟨g1, g2⟩ := fin o ho
        simp only [Sum.elim_inr, Sum.elim_inl]
        rw [g1, g2, obs]
        exact ⟨_, rfl, rfl⟩
theorem pureFnExactMovePath (s : Str) (d : P2) : AR s d = some true := by
  unfold AR
  by_cases h : (s.length : Int) > 1048576
  · rw [decide_eq_true h]; rfl
  · obtain ⟨r, h1, h2⟩ := P6 (s := s) (by omega) d
    rw [decide_eq_false h, cF]
    unfold Fl
    have h1' : BF s (d.1, d.2) = some r := h1
    have h2' : BE s (d.1, d.2) = some r := h2
    simp only [obs]
    rw [h1', obs, h2', obs, beq_self_eq_true, nT, cF, beq_self_eq_true, nT, cF]
end Go.Proofs.YtgfchmagglhohaaDoor.Ev

end
section
namespace Go.Proofs.YtgfchmagglhohaaDoor.Ev
open Go Go.RowKit Go.ChangeShapes Go.WideShapes Go.ChangeAt
set_option linter.unusedVariables false
set_option maxRecDepth 100000
def shs : List Sh := [.str, .pair (.int .i64) (.int .i64)]
theorem fits : FitsL Tryd.prog [9, 23] shs := by
  exact ⟨.str (by kernel_rfl), .st Tryd.underlying23 (by kernel_rfl) (.cons rfl (by kernel_rfl) (.int (by kernel_rfl)) (.one rfl (by kernel_rfl) (.int (by kernel_rfl)))), trivial⟩
theorem own : ownKnob Tryd.prog.godebug = none := by kernel_rfl
theorem laid : laidOutB Tryd.prog = true := by kernel_rfl
theorem door_met (os : Os) (args : Array Value) : laidMetH Tryd.prog Rows.fnExactMovePathRow.laid ((World.laidAll Tryd.prog os Rows.fnExactMovePathRow.laid).forCall (fun _ _ => 0) ⟨#[], args, []⟩).memory := by
  rw [MakeChecks.laidMetH_plain _ _ _ (by kernel_rfl)]
  exact laidMet_laidAll _ (by kernel_rfl) (by kernel_rfl)
theorem starE : "*" ++ "errors.errorString" = "*errors.errorString" := by decide
def ids : List Nat := [0, 1, 4, 5]
theorem libJ {W : World} (hsh : W.ShapedOpen Tryd.prog) (hL : laidMetH Tryd.prog Rows.fnExactMovePathRow.laid W) : LibJ (Jof W ids) := by
  rw [MakeChecks.laidMetH_plain _ _ _ (by kernel_rfl)] at hL
  have hP : laidMet Tryd.prog Rows.fnExactMovePathRow.laid W := hL
  have htab : Lib.TabIs Tryd.prog W "internal/strconv.uint64pow10" .u64 Lib.pow10Tab := Lib.tabIs_of_head (g := 1) (t := 109) (e := 97) (n := 20) (by kernel_rfl) (by kernel_rfl) (by kernel_rfl) (by kernel_rfl) (by kernel_rfl) (by kernel_rfl) (show laidMet Tryd.prog ((_, Lib.tabData .u64 Lib.pow10Tab) :: _) W from CJ 2 hP)
  have hmax : ∃ m : Int, W.cell? ⟨0, 0, none⟩ = some (.int .i64 m) := Go.Proofs.cell_of_shapedOpen_int (zero := #[.int .i64 0]) (t := 3) hsh (of_decide_eq_true (by kernel_rfl)) (by kernel_rfl) rfl (by kernel_rfl) (by kernel_rfl) Tryd.underlying3
  have hsyn : ∃ tp p, W.var? Tryd.prog "strconv.ErrSyntax" = some #[.iface tp p] := by
    obtain ⟨a, s, hv, _⟩ := laid_sentinel (g := 4) (ti := 78) (tp := 135) (te := 137) (ts := 9) (CJ 5 hP) (by kernel_rfl) (by kernel_rfl) Tryd.underlying78 (fun u h => typeName_ptr_named (nm := "errors.errorString") (by rw [starE]; kernel_rfl) (by kernel_rfl) (by decide) u (by rw [starE]; exact h)) Tryd.underlying135 Tryd.underlying137 rfl rfl Tryd.underlying9 (by kernel_rfl) (by kernel_rfl)
    exact ⟨_, _, hv⟩
  have hrng : ∃ tp p, W.var? Tryd.prog "strconv.ErrRange" = some #[.iface tp p] := by
    obtain ⟨a, s, hv, _⟩ := laid_sentinel (g := 5) (ti := 78) (tp := 135) (te := 137) (ts := 9) (CJ 4 hP) (by kernel_rfl) (by kernel_rfl) Tryd.underlying78 (fun u h => typeName_ptr_named (nm := "errors.errorString") (by rw [starE]; kernel_rfl) (by kernel_rfl) (by decide) u (by rw [starE]; exact h)) Tryd.underlying135 Tryd.underlying137 rfl rfl Tryd.underlying9 (by kernel_rfl) (by kernel_rfl)
    exact ⟨_, _, hv⟩
  unfold ids
  exact { tab := jtab (g := 1) (by kernel_rfl) (by simp) htab, max := jmax (g := 0) (by simp) hmax, syn := jvar (g := 4) (by kernel_rfl) (by simp) hsyn, rng := jvar (g := 5) (by kernel_rfl) (by simp) hrng }
theorem lifted (os : Os) (started : os.Started) (H : Type) (enc : TypeId × Value → H) :
    ReturnsInHanded {} Tryd.checked os 3 .any (fun w args => (Rows.fnExactMovePathSpec.pre enc Tryd.prog Tryd.f3 [] false w args ∧ laidMetH Tryd.prog Rows.fnExactMovePathRow.laid w) ∧ sizedMet enc Tryd.prog Tryd.f3 (OpenSpec.ofChange Rows.fnExactMovePathSpec) false w args)
      (Rows.fnExactMovePathSpec.post enc Tryd.prog Tryd.f3 false true false false) := by
  refine Fn (C := Tryd.checked) (X := fun w _ => laidMetH Tryd.prog Rows.fnExactMovePathRow.laid w) (fun _ _ _ hh h => h.of_heap hh) own started (by kernel_rfl) Tryd.func3
    (ChangeSpec.witness_shaped (enc := enc) (C := Tryd.checked) (os := os) (X := fun w _ => laidMetH Tryd.prog Rows.fnExactMovePathRow.laid w) false (World.laidAll Tryd.prog os Rows.fnExactMovePathRow.laid) #[.string ⟨#[]⟩, .agg #[.int .i64 0, .int .i64 0]] 8 (World.laidAll_os _ _ _) (World.shaped_of_ZipB (by kernel_rfl) (by kernel_rfl)) (by kernel_rfl) (by kernel_rfl) (by kernel_rfl) (door_met os _)) ?_
  intro W base args ds gs before hval hW hsz hsh hL
  exact K5 (P := Tryd.prog) (J := Jof W ids) (cf := cf0) (ext := ext0) (F := fun x => AR x.1 x.2) (shs := shs) (by kernel_rfl) (R3 (libJ hsh hL)) Fa (fun d => by kernel_rfl)
    (fun d hd => pureFnExactMovePath d.1 d.2) rfl rfl (by kernel_rfl) fits laid
    (fun t ht => by
      have : t = 9 ∨ t = 23 := by simpa using ht
      rcases this with rfl | rfl <;> exact ⟨by kernel_rfl, of_decide_eq_true (by kernel_rfl)⟩) rfl
    (fun ds hl => by
      match ds, hl with
      | [_, _], _ => rfl) Si hval hW hsz
theorem over : Rows.fnExactMovePathRow.holds Tryd.pinned (OpenSpec.ofChange Rows.fnExactMovePathSpec) :=
  OpenClaim.holds_of_wide 3 Tryd.f3 rfl rfl rfl rfl rfl rfl rfl ⟨rfl, rfl, rfl, rfl, rfl⟩ rfl rfl rfl rfl rfl (by kernel_rfl) Tryd.func3 (by kernel_rfl)
    (of_decide_eq_true (by kernel_rfl)) (by unfold Func.isWrapper; first | (rw [if_pos (by decide +kernel)]; kernel_rfl) | (rw [if_neg (by decide +kernel)]; exact ⟨rfl, rfl⟩))
    (fun os started H enc _ => lifted os started H enc)
theorem carded : Rows.FnExactMovePathCardSaid :=
  Claim7.holds_tied_plain_at .later [] [.data, .data, .data, .data, .sentinel, .sentinel, .pinned] true (true, "722ba42263159506e94755c3515b8e2dc21de2bcf790227db722c7f3047d4612") true
    over (fun _ h => by cases h) (by kernel_rfl) (fun _ h => by cases h) fnExactMovePath_row_tie rfl ⟨rfl, rfl⟩ (by kernel_rfl) rfl
    (fun f fn hf hfn => by
      obtain rfl : f = 3 := Option.some.inj ((show Tryd.prog.funcNamed "loop.example/g00409/laws.FnExactMovePath" = some 3 by kernel_rfl).symm.trans hf) |>.symm
      obtain rfl : fn = Tryd.f3 := (Option.some.inj (Tryd.func3.symm.trans hfn)).symm
      exact ⟨by kernel_rfl, fun j t ht => by
        rw [show Tryd.f3.params = #[9, 23] from rfl] at ht
        have hm : t ∈ [9, 23] := by simpa using Array.mem_of_getElem? ht
        have hall : ([9, 23].all fun u => !Tryd.prog.wantsStandIn u) = true := by kernel_rfl
        exact (show Tryd.prog.wantsStandIn t = false by simpa using List.all_eq_true.1 hall t hm)⟩)
    (by kernel_rfl)
end Go.Proofs.YtgfchmagglhohaaDoor.Ev
namespace Go.Proofs.YtgfchmagglhohaaDoor
theorem fnExactMovePath_holds : Rows.FnExactMovePathSaid := Ev.over
theorem fnExactMovePath_card_holds : Rows.FnExactMovePathCardSaid := Ev.carded
#print axioms fnExactMovePath_card_holds
end Go.Proofs.YtgfchmagglhohaaDoor

end
