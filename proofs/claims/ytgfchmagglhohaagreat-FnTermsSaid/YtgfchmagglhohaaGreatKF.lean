/- Whatever comes in, the law of this claim answers true, and nothing that was handed in changes. -/
import Derived.Test.YtgfchmagglhohaaGreatKE
import Derived.Test.YtgfchmagglhohaaGreatRows
import Derived.WalkKit
import Derived.ProofKit
import Derived.OpenShut
import Derived.ShutString
import Derived.ChangeOld
import Derived.Below
import Derived.SizedLaws
import Derived.Test.YtgfchmagglhohaaGreatChecked
section
namespace Go.Proofs.YtgfchmagglhohaaGreat.Ev
open Go
set_option linter.unusedVariables false
set_option linter.unusedSimpArgs false
set_option linter.unusedSectionVars false
theorem KO (z : Int) {l : List Int} (h : l ≠ []) : fromQ (z :: l) = (z : Rat) + 1 / fromQ l := by
  cases l with
  | nil => exact absurd rfl h
  | cons a l => rfl
theorem P4 {a b : Int} (h : a ≤ b) : (a : Rat) ≤ (b : Rat) := Rat.intCast_le_intCast.2 h
theorem ZO {r : Rat} (h : 0 < r) : 0 < 1 / r := by rw [Rat.div_def, Rat.one_mul]; exact Rat.inv_pos.2 h
theorem Mg : ∀ (l : List Int), l ≠ [] → (∀ z ∈ l, 1 ≤ z) → 1 ≤ fromQ l
  | [], h, _ => absurd rfl h
  | [a], _, h => by
    have := P4 (h a (by simp))
    simpa [fromQ] using this
  | a :: b :: l, _, h => by
    have ih := Mg (b :: l) (by simp) (fun z hz => h z (List.mem_cons_of_mem _ hz))
    have h1 := P4 (h a (by simp))
    have h1 : (1 : Rat) ≤ (a : Rat) := by simpa using h1
    rw [KO a (by simp)]
    have := ZO (r := fromQ (b :: l)) (by grind)
    grind
theorem Um : ∀ (l : List Int), l ≠ [] → (∀ z ∈ l, ((z.natAbs : Nat) : Int) < B 40) → (∀ z ∈ l.tail, 1 ≤ z) → Sz (41 * l.length) (fromQ l)
  | [], h, _, _ => absurd rfl h
  | [a], _, h, _ => (C7 (h a (by simp)) (by omega)).mono (by simp)
  | a :: b :: l, _, h, hp => by
    have ih := Um (b :: l) (by simp) (fun z hz => h z (List.mem_cons_of_mem _ hz)) (fun z hz => hp z (List.mem_cons_of_mem _ hz))
    have hpos := Mg (b :: l) (by simp) hp
    rw [KO a (by simp)]
    have hi := Ml ih (by intro e; rw [e] at hpos; grind)
    exact (Ac0 (C7 (h a (by simp)) (by omega)) hi).mono (by simp only [List.length_cons]; omega)
def tailPos (l : List Int) : Bool := l.tail.all fun z => decide (1 ≤ z)
def ftV (l : List Int) : RF × Bool := if 1 ≤ l.length ∧ l.length ≤ 60 ∧ tailPos l = true then fitsQ (fromQ l) else (zF, false)
section
variable {zs : List Int} (hz : ∀ z ∈ zs, ((z.natAbs : Nat) : Int) < B 40)
include hz
theorem Tr : (zs.map big).all goodB = true := by
  rw [List.all_map, List.all_eq_true]
  intro z h
  exact Cp (hz z h)
theorem Wt (hl : zs.length ≤ 1000) : BO (zs.map big) = some true := by
  rw [PA (by simpa using hl) (by
    intro b hb
    obtain ⟨z, h1, rfl⟩ := List.mem_map.1 hb
    exact GY (hz z h1)), Tr hz]
theorem V7 (hl : zs.length ≤ 1000) : ∃ r, loopM (fun (s : (RF × ((List (Bool × (List Int))) × ((List (Bool × (List Int))) × (Int × Int))))) => A8 s.1 s.2.1 s.2.2.1 s.2.2.2.1 s.2.2.2.2) (zF, (zs.map big, (zs.tail.map big, (((zs.tail.map big).length : Int), (0 : Int))))) = some r ∧
    r = if tailPos zs then .inl (zF, zs.map big) else .inr (zF, false) := by
  have ht : (zs.tail.map big).length = zs.tail.length := by simp
  obtain ⟨h1, h2⟩ := Pu (l := zs.tail) (body := fun (s : (RF × ((List (Bool × (List Int))) × ((List (Bool × (List Int))) × (Int × Int))))) => A8 s.1 s.2.1 s.2.2.1 s.2.2.2.1 s.2.2.2.2)
    (st := fun k (_ : Unit) => (zF, (zs.map big, (zs.tail.map big, (((zs.tail.map big).length : Int), (k : Int)))))) (step := fun _ z => if 1 ≤ z then .inr () else .inl (.inr (zF, false))) (fin := fun _ => .inl (zF, zs.map big)) (I := fun _ _ => True)
    (by
      rintro k b z hk _
      have hkl := getL hk
      have hlt : zs.tail.length ≤ 1000 := by simp; omega
      have hm : (zs.tail.map big)[k]? = some (big z) := by rw [List.getElem?_map, hk]; rfl
      have key : ∀ w : RF, A8 w (zs.map big) (zs.tail.map big) (((zs.tail.map big).length : Int)) (k : Int) = if 1 ≤ z then some (.inl (w, (zs.map big, (zs.tail.map big, (((zs.tail.map big).length : Int), ((k + 1 : Nat) : Int)))))) else some (.inr (.inr (zF, false))) := by
        intro w
        unfold A8
        rw [decide_eq_true (show (k : Int) < ((zs.tail.map big).length : Int) by rw [ht]; omega)]
        simp only [cT, Aj, hm, obs, peta, MY, wrap1 (show k < 4611686018427387904 by omega)]
        by_cases h : 1 ≤ z
        · rw [if_pos h, Dk (by omega)]; rfl
        · rw [if_neg h, show decide (cmpZ z 0 ≤ 0) = true from decide_eq_true (by rcases A1 z 0 with ⟨e, g⟩ | ⟨e, g⟩ | ⟨e, g⟩ <;> omega)]; rfl
      have key := key zF
      by_cases h : 1 ≤ z
      · rw [if_pos h] at key ⊢; exact .inl ⟨(), rfl, key, trivial⟩
      · rw [if_neg h] at key ⊢; exact .inr ⟨_, rfl, key⟩)
    (by
      rintro b _
      show A8 zF (zs.map big) (zs.tail.map big) (((zs.tail.map big).length : Int)) ((zs.tail.length : Nat) : Int) = _
      unfold A8
      rw [ht, decide_eq_false (by omega)]
      rfl) () trivial
  rw [show ((0 : Nat) : Int) = 0 from rfl] at h1
  have key : ∀ (m : List Int), foldX (ρ := (RF × List (Bool × List Int)) ⊕ (RF × Bool)) (fun (_ : Unit) z => if 1 ≤ z then .inr () else .inl (.inr (zF, false))) () m = if (m.all fun z => decide (1 ≤ z)) then .inr () else .inl (.inr (zF, false)) := by
    intro m
    induction m with
    | nil => rfl
    | cons a m ih =>
      unfold foldX
      rw [List.all_cons]
      by_cases h : 1 ≤ a
      · simp only [if_pos h, decide_eq_true h, Bool.true_and]; exact ih
      · simp [if_neg h, decide_eq_false h]
  refine ⟨_, h1, ?_⟩
  rw [key]
  unfold tailPos
  by_cases hb : (zs.tail.all fun z => decide (1 ≤ z)) = true
  · rw [if_pos hb, if_pos hb]; rfl
  · rw [if_neg hb, if_neg hb]; rfl
theorem Oy (h0 : 1 ≤ zs.length) : ∃ z, zs[zs.length - 1]? = some z ∧ fromQ (zs.drop (zs.length - 1)) = (z : Rat) := by
  have hlt : zs.length - 1 < zs.length := by omega
  refine ⟨zs[zs.length - 1], List.getElem?_eq_getElem hlt, ?_⟩
  rw [List.drop_eq_getElem_cons hlt, List.drop_eq_nil_of_le (by omega)]
  rfl
theorem RZ {n : Nat} (h : n + 1 < zs.length) : ∃ z, zs[n]? = some z ∧ fromQ (zs.drop n) = (z : Rat) + 1 / fromQ (zs.drop (n + 1)) := by
  have hlt : n < zs.length := by omega
  refine ⟨zs[n], List.getElem?_eq_getElem hlt, ?_⟩
  rw [List.drop_eq_getElem_cons hlt, KO _ (by intro e; have := congrArg List.length e; simp at this; omega)]
theorem K4 (hp : tailPos zs = true) {n : Nat} (h1 : n < zs.length) : Sz (41 * (zs.length - n)) (fromQ (zs.drop n)) ∧ (1 ≤ n → fromQ (zs.drop n) ≠ 0) := by
  unfold tailPos at hp
  rw [List.all_eq_true] at hp
  have hne : zs.drop n ≠ [] := by intro e; have := congrArg List.length e; simp at this; omega
  have ht : ∀ (m : Nat), 1 ≤ m → ∀ z ∈ zs.drop m, 1 ≤ z := by
    intro m hm z hz'
    have : zs.drop m = zs.tail.drop (m - 1) := by rw [← List.drop_one, List.drop_drop]; congr 1; omega
    rw [this] at hz'
    simpa using hp z (List.mem_of_mem_drop hz')
  refine ⟨?_, fun hn e => ?_⟩
  · have := Um (zs.drop n) hne (fun z h => hz z (List.mem_of_mem_drop h)) (by
      intro z h
      rw [← List.drop_one, List.drop_drop] at h
      exact ht _ (by omega) z h)
    simpa using this
  · have := Mg _ hne (ht n hn)
    rw [e] at this
    grind
theorem W3 (h0 : 1 ≤ zs.length) (hl : zs.length ≤ 60) (hp : tailPos zs = true) : loopM (fun (s : (RF × (RF × ((List (Bool × (List Int))) × Int)))) => Bo s.1 s.2.1 s.2.2.1 s.2.2.2) (zF, (rqF (fromQ (zs.drop (zs.length - 1))), (zs.map big, ((zs.length : Int) - 2)))) = some (zF, rqF (fromQ zs)) := by
  obtain ⟨b', h1, h2⟩ := DQ (body := fun (s : (RF × (RF × ((List (Bool × (List Int))) × Int)))) => Bo s.1 s.2.1 s.2.2.1 s.2.2.2)
    (st := fun n (b : RF) => (zF, (b, (zs.map big, ((n : Int) - 1))))) (fin := fun b => (zF, b)) (I := fun n b => n < zs.length ∧ b = rqF (fromQ (zs.drop n)))
    (by
      rintro n b ⟨hn, rfl⟩
      obtain ⟨z, hzn, e⟩ := RZ hz hn
      have hbz := hz z (List.mem_of_getElem? hzn)
      have hm : (zs.map big)[n]? = some (big z) := by rw [List.getElem?_map, hzn]; rfl
      obtain ⟨s1, s2⟩ := K4 hz hp hn
      have s2 := s2 (by omega)
      have s1 := s1.mono (show 41 * (zs.length - (n + 1)) ≤ 2460 by omega)
      refine ⟨rqF (fromQ (zs.drop n)), ?_, by omega, rfl⟩
      show Bo zF (rqF (fromQ (zs.drop (n + 1)))) (zs.map big) (((n + 1 : Nat) : Int) - 1) = _
      rw [show ((n + 1 : Nat) : Int) - 1 = (n : Int) by omega]
      unfold Bo
      rw [decide_eq_true (show (n : Int) ≥ 0 by omega)]
      simp only [cT, Aj, hm, obs, peta, O3 (k := 40) (by omega) hbz, PM, MJ (k := 2460) (by omega) (KA (by omega)) s1 s2]
      rw [Mo (k := 2460) (by omega) (C7 (upB hbz (by omega)) (by omega)) (Ml s1 s2), e]
      simp only [obs, wrapI (show -9223372036854775808 ≤ (n : Int) - 1 by omega) (show (n : Int) - 1 ≤ 9223372036854775807 by omega)])
    (by
      rintro b ⟨hn, rfl⟩
      show Bo zF (rqF (fromQ (zs.drop 0))) (zs.map big) (((0 : Nat) : Int) - 1) = _
      unfold Bo
      rw [decide_eq_false (show ¬ (((0 : Nat) : Int) - 1 ≥ 0) by omega)]
      rfl) (zs.length - 1) (rqF (fromQ (zs.drop (zs.length - 1)))) ⟨by omega, rfl⟩
  rw [h2.2, List.drop_zero] at h1
  rw [← h1]
  congr 4
  show ((zs.length : Int) - 2) = (((zs.length - 1 : Nat) : Int) - 1)
  omega
theorem Nx (hl : zs.length ≤ 1000) : Bs (zs.map big) = some (ftV zs) := by
  unfold Bs ftV
  rw [List.length_map, J2]
  simp only [obs]
  by_cases h1 : 1 ≤ zs.length ∧ zs.length ≤ 60
  · rw [show (decide ((1 : Int) ≤ (zs.length : Int)) && decide ((zs.length : Int) ≤ 60)) = true by simp; omega, nT, cF, Wt hz hl]
    simp only [obs, nT, cF]
    have hsub : subI (1 : Int) (zs.length : Int) zs.length = some (1, zs.length) := by
      unfold subI
      rw [if_pos (by omega)]
      congr 2
    rw [hsub, obs]
    have e : List.drop 1 (List.take zs.length (zs.map big)) = zs.tail.map big := by
      rw [List.take_of_length_le (by simp), List.drop_one, List.map_tail]
    simp only [e]
    obtain ⟨r, h2, rfl⟩ := V7 hz hl
    have h2' : loopM (fun (s : (RF × ((List (Bool × (List Int))) × ((List (Bool × (List Int))) × (Int × Int))))) => A8 s.1 s.2.1 s.2.2.1 s.2.2.2.1 s.2.2.2.2) ((false, (([] : List Int), (false, ([] : List Int)))), (zs.map big, (zs.tail.map big, (((zs.tail.map big).length : Int), (0 : Int))))) = _ := h2
    rw [h2', obs]
    by_cases hp : tailPos zs = true
    case neg => rw [if_neg hp, if_neg (fun h => hp h.2.2)]; rfl
    case pos =>
      rw [if_pos hp, if_pos ⟨h1.1, h1.2, hp⟩]
      simp only [Sum.elim_inl]
      obtain ⟨z, hzl, e2⟩ := Oy hz h1.1
      have hbz := hz z (List.mem_of_getElem? hzl)
      have hm : (zs.map big)[zs.length - 1]? = some (big z) := by rw [List.getElem?_map, hzl]; rfl
      have hi : IntKind.wrap .i64 ((((zs.map big).length : Nat) : Int) - 1) = ((zs.length - 1 : Nat) : Int) := by rw [List.length_map, wrapI (by omega) (by omega)]; omega
      have hi2 : IntKind.wrap .i64 ((((zs.map big).length : Nat) : Int) - 2) = (zs.length : Int) - 2 := by rw [List.length_map, wrapI (by omega) (by omega)]
      rw [hi, hi2, Aj, hm]
      simp only [obs, peta, O3 (k := 40) (by omega) hbz]
      rw [← e2, W3 hz h1.1 h1.2 hp]
      simp only [obs, peta, DW]
  · rw [show (decide ((1 : Int) ≤ (zs.length : Int)) && decide ((zs.length : Int) ≤ 60)) = false by rw [Bool.and_eq_false_iff]; simp only [decide_eq_false_iff_not]; omega, if_neg (by omega)]
    rfl
theorem WH (hl : zs.length ≤ 1000) : ∃ r, loopM (fun (s : (RF × ((List (Bool × (List Int))) × ((List (Bool × (List Int))) × (Int × Int))))) => A9 s.1 s.2.1 s.2.2.1 s.2.2.2.1 s.2.2.2.2) (zF, (zs.map big, (zs.map big, (((zs.map big).length : Int), (0 : Int))))) = some r ∧
    r = if tailPos zs then .inl (zF, zs.map big) else .inr (zF, false) := by
  have ht : (zs.map big).length = zs.length := by simp
  obtain ⟨h1, h2⟩ := Pu (l := zs) (body := fun (s : (RF × ((List (Bool × (List Int))) × ((List (Bool × (List Int))) × (Int × Int))))) => A9 s.1 s.2.1 s.2.2.1 s.2.2.2.1 s.2.2.2.2)
    (st := fun k (_ : Bool) => (zF, (zs.map big, (zs.map big, (((zs.map big).length : Int), (k : Int)))))) (step := fun b z => if b = true ∨ 1 ≤ z then .inr false else .inl (.inr (zF, false))) (fin := fun _ => .inl (zF, zs.map big)) (I := fun k b => b = decide (k = 0))
    (by
      rintro k b z hk rfl
      have hkl := getL hk
      have hbz := hz z (List.mem_of_getElem? hk)
      have hm : (zs.map big)[k]? = some (big z) := by rw [List.getElem?_map, hk]; rfl
      have key : ∀ w : RF, A9 w (zs.map big) (zs.map big) (((zs.map big).length : Int)) (k : Int) = if decide (k = 0) = true ∨ 1 ≤ z then some (.inl (w, (zs.map big, (zs.map big, (((zs.map big).length : Int), ((k + 1 : Nat) : Int)))))) else some (.inr (.inr (zF, false))) := by
        intro w
        unfold A9
        rw [decide_eq_true (show (k : Int) < ((zs.map big).length : Int) by rw [ht]; omega)]
        simp only [cT, Aj, hm, obs, peta, He (GY hbz), Cp hbz, nT, cF, wrap1 (show k < 4611686018427387904 by omega)]
        rw [show (big z).1 = decide (z < 0) from rfl, Fk]
        by_cases hk0 : k = 0
        · rw [decide_eq_false (show ¬ ((k : Int) > 0) by omega), if_pos (.inl (decide_eq_true hk0))]; rfl
        · rw [decide_eq_true (show ((k : Int) > 0) by omega)]
          by_cases h : 1 ≤ z
          · rw [if_pos (.inr h), decide_eq_false (show ¬ z < 0 by omega), decide_eq_false (show ¬ z = 0 by omega)]; rfl
          · rw [if_neg (by simp [hk0, h])]
            by_cases h' : z < 0
            · rw [decide_eq_true h']; rfl
            · rw [decide_eq_false h', decide_eq_true (show z = 0 by omega)]; rfl
      have key := key zF
      by_cases h : decide (k = 0) = true ∨ 1 ≤ z
      · rw [if_pos h] at key ⊢; exact .inl ⟨false, rfl, key, (decide_eq_false (by omega)).symm⟩
      · rw [if_neg h] at key ⊢; exact .inr ⟨_, rfl, key⟩)
    (by
      rintro b _
      show A9 zF (zs.map big) (zs.map big) (((zs.map big).length : Int)) ((zs.length : Nat) : Int) = _
      unfold A9
      rw [ht, decide_eq_false (by omega)]
      rfl) true rfl
  rw [show ((0 : Nat) : Int) = 0 from rfl] at h1
  have key : ∀ (m : List Int), foldX (ρ := (RF × List (Bool × List Int)) ⊕ (RF × Bool)) (fun (b : Bool) z => if b = true ∨ 1 ≤ z then .inr false else .inl (.inr (zF, false))) false m = if (m.all fun z => decide (1 ≤ z)) then .inr false else .inl (.inr (zF, false)) := by
    intro m
    induction m with
    | nil => rfl
    | cons a m ih =>
      unfold foldX
      rw [List.all_cons]
      by_cases h : 1 ≤ a
      · simp only [if_pos (show false = true ∨ 1 ≤ a from .inr h), decide_eq_true h, Bool.true_and]; exact ih
      · simp [h]
  refine ⟨_, h1, ?_⟩
  unfold tailPos
  cases hzs : zs with
  | nil => rfl
  | cons a m =>
    unfold foldX
    simp only [true_or, if_true, key]
    by_cases hb : (m.all fun z => decide (1 ≤ z)) = true
    · have hb' : ((a :: m).tail.all fun z => decide (1 ≤ z)) = true := hb
      rw [if_pos hb, if_pos hb']; rfl
    · have hb' : ¬ ((a :: m).tail.all fun z => decide (1 ≤ z)) = true := hb
      rw [if_neg hb, if_neg hb']; rfl
theorem WA (h0 : 1 ≤ zs.length) (hl : zs.length ≤ 60) (hp : tailPos zs = true) : loopM (fun (s : (RF × (RF × ((List (Bool × (List Int))) × Int)))) => Bn s.1 s.2.1 s.2.2.1 s.2.2.2) (zF, (rqF (fromQ (zs.drop (zs.length - 1))), (zs.map big, ((zs.length : Int) - 2)))) = some (zF, rqF (fromQ zs)) := by
  obtain ⟨b', h1, h2⟩ := DQ (body := fun (s : (RF × (RF × ((List (Bool × (List Int))) × Int)))) => Bn s.1 s.2.1 s.2.2.1 s.2.2.2)
    (st := fun n (b : RF) => (zF, (b, (zs.map big, ((n : Int) - 1))))) (fin := fun b => (zF, b)) (I := fun n b => n < zs.length ∧ b = rqF (fromQ (zs.drop n)))
    (by
      rintro n b ⟨hn, rfl⟩
      obtain ⟨z, hzn, e⟩ := RZ hz hn
      have hbz := hz z (List.mem_of_getElem? hzn)
      have hm : (zs.map big)[n]? = some (big z) := by rw [List.getElem?_map, hzn]; rfl
      obtain ⟨s1, s2⟩ := K4 hz hp hn
      have s2 := s2 (by omega)
      have s1 := s1.mono (show 41 * (zs.length - (n + 1)) ≤ 2460 by omega)
      refine ⟨rqF (fromQ (zs.drop n)), ?_, by omega, rfl⟩
      show Bn zF (rqF (fromQ (zs.drop (n + 1)))) (zs.map big) (((n + 1 : Nat) : Int) - 1) = _
      rw [show ((n + 1 : Nat) : Int) - 1 = (n : Int) by omega]
      unfold Bn
      rw [decide_eq_true (show (n : Int) ≥ 0 by omega)]
      simp only [cT, Aj, hm, obs, peta, GV, P0, Xr (k := 2460) (by omega) (KA (by omega)) s1 s2]
      rw [Fw, Ue (k := 2460) (by omega) (C7 (upB hbz (by omega)) (by omega)) (Ml s1 s2), e]
      simp only [obs, wrapI (show -9223372036854775808 ≤ (n : Int) - 1 by omega) (show (n : Int) - 1 ≤ 9223372036854775807 by omega)])
    (by
      rintro b ⟨hn, rfl⟩
      show Bn zF (rqF (fromQ (zs.drop 0))) (zs.map big) (((0 : Nat) : Int) - 1) = _
      unfold Bn
      rw [decide_eq_false (show ¬ (((0 : Nat) : Int) - 1 ≥ 0) by omega)]
      rfl) (zs.length - 1) (rqF (fromQ (zs.drop (zs.length - 1)))) ⟨by omega, rfl⟩
  rw [h2.2, List.drop_zero] at h1
  rw [← h1]
  congr 4
  show ((zs.length : Int) - 2) = (((zs.length - 1 : Nat) : Int) - 1)
  omega
theorem US (hl : zs.length ≤ 1000) : BM (zs.map big) = some (ftV zs) := by
  unfold BM ftV
  obtain ⟨r, h2, rfl⟩ := WH hz hl
  have h2' : loopM (fun (s : (RF × ((List (Bool × (List Int))) × ((List (Bool × (List Int))) × (Int × Int))))) => A9 s.1 s.2.1 s.2.2.1 s.2.2.2.1 s.2.2.2.2) ((false, (([] : List Int), (false, ([] : List Int)))), (zs.map big, (zs.map big, (((zs.map big).length : Int), (0 : Int))))) = _ := h2
  rw [h2', obs]
  by_cases hp : tailPos zs = true
  case neg => rw [if_neg hp, if_neg (fun h => hp h.2.2)]; rfl
  case pos =>
    rw [if_pos hp]
    simp only [Sum.elim_inl]
    rw [List.length_map, O5]
    simp only [obs]
    by_cases h1 : 1 ≤ zs.length ∧ zs.length ≤ 60
    · rw [show (decide ((1 : Int) ≤ (zs.length : Int)) && decide ((zs.length : Int) ≤ 60)) = true by simp; omega, nT, cF, if_pos ⟨h1.1, h1.2, hp⟩]
      obtain ⟨z, hzl, e2⟩ := Oy hz h1.1
      have hbz := hz z (List.mem_of_getElem? hzl)
      have hm : (zs.map big)[zs.length - 1]? = some (big z) := by rw [List.getElem?_map, hzl]; rfl
      have hi : IntKind.wrap .i64 (((zs.length : Nat) : Int) - 1) = ((zs.length - 1 : Nat) : Int) := by rw [wrapI (by omega) (by omega)]; omega
      have hi2 : IntKind.wrap .i64 (((zs.length : Nat) : Int) - 2) = (zs.length : Int) - 2 := by rw [wrapI (by omega) (by omega)]
      rw [hi, hi2, Aj, hm]
      simp only [obs, peta, GV]
      have s1 := (K4 hz hp (show 0 < zs.length by omega)).1
      rw [List.drop_zero] at s1
      rw [Fw, ← e2, WA hz h1.1 h1.2 hp]
      simp only [obs, peta, Qh (k := 2460) (by omega) (s1.mono (by omega))]
    · rw [show (decide ((1 : Int) ≤ (zs.length : Int)) && decide ((zs.length : Int) ≤ 60)) = false by rw [Bool.and_eq_false_iff]; simp only [decide_eq_false_iff_not]; omega, if_neg (by omega)]
      rfl
end
end Go.Proofs.YtgfchmagglhohaaGreat.Ev

end
section
namespace Go.Proofs.YtgfchmagglhohaaGreat.Ev
open Go
set_option linter.unusedVariables false
set_option linter.unusedSimpArgs false
set_option linter.unusedSectionVars false
def midR : Option Rat → RF ⊕ (RF × Bool)
  | none => .inl zF
  | some s => .inr (fitsQ s)
theorem Ad0 {lo hi : Rat} {k : Nat} (h : Adj lo hi) (h1 : Sz k lo) (h2 : Sz k hi) : Sz (k + 1) (med lo hi) := by
  obtain ⟨e1, e2⟩ := JJ h
  unfold Sz
  rw [e1, e2]
  refine ⟨addB h1.1 h2.1, ?_⟩
  have := addB (natB h1.2) (natB h2.2)
  omega
theorem Wy {lo hi : Rat} : (lo.den : Int) + (hi.den : Int) ≠ 0 := by have := lo.den_pos; omega
noncomputable abbrev Ta : RF × (RF × (RF × (RF × (RF × Int)))) → Option ((RF × (RF × (RF × (RF × (RF × Int))))) ⊕ (RF ⊕ (RF × Bool))) := fun (s : (RF × (RF × (RF × (RF × (RF × Int)))))) => Be s.1 s.2.1 s.2.2.1 s.2.2.2.1 s.2.2.2.2.1 s.2.2.2.2.2
theorem An8 {a b : Rat} (ha : Sz 40 a) (hb : Sz 40 b) : ∀ (n k : Nat) (lo hi : Rat), k + n = 200 → Adj lo hi → Sz (41 + k) lo → Sz (41 + k) hi →
    loopM Ta (rqF a, (rqF b, (zF, (rqF lo, (rqF hi, (k : Int)))))) = some (midR (midQ a b n lo hi)) := by
  intro n
  induction n with
  | zero =>
    intro k lo hi hk hadj s1 s2
    refine An (show Be (rqF a) (rqF b) zF (rqF lo) (rqF hi) (k : Int) = _ from ?_)
    unfold Be
    rw [decide_eq_false (by omega)]
    rfl
  | succ n ih =>
    intro k lo hi hk hadj s1 s2
    have sm := Ad0 hadj s1 s2
    obtain ⟨a1, a2⟩ := Tk hadj
    have key : ∀ w : RF, Be (rqF a) (rqF b) w (rqF lo) (rqF hi) (k : Int) = if med lo hi ≤ a then some (.inl (rqF a, (rqF b, (w, (rqF (med lo hi), (rqF hi, ((k + 1 : Nat) : Int))))))) else if b ≤ med lo hi then some (.inl (rqF a, (rqF b, (w, (rqF lo, (rqF (med lo hi), ((k + 1 : Nat) : Int))))))) else some (.inr (.inr (fitsQ (med lo hi)))) := by
      intro w
      unfold Be
      rw [decide_eq_true (show (k : Int) < 200 by omega)]
      simp only [cT, rq_n, rq_d, JB, Ho (k := 41 + k) (by omega) s1.1 s2.1, Ho (k := 41 + k) (by omega) (natB s1.2) (natB s2.2), obs, peta, Aj1]
      rw [L3 (k := 42 + k) (by omega) (upB (addB s1.1 s2.1) (by omega)) (upB (addB (natB s1.2) (natB s2.2)) (by omega)) Wy]
      simp only [obs]
      rw [show Rat.divInt (lo.num + hi.num) ((lo.den : Int) + (hi.den : Int)) = med lo hi from rfl, HY (k := 42 + k) (by omega) (ha.mono (by omega)) (sm.mono (by omega)), HY (k := 42 + k) (by omega) (sm.mono (by omega)) (hb.mono (by omega)), DW]
      simp only [obs, peta, wrap1 (show k < 4611686018427387904 by omega)]
      by_cases c1 : med lo hi ≤ a
      · rw [if_pos c1, decide_eq_false (Rat.not_lt.2 c1)]; rfl
      · rw [if_neg c1, decide_eq_true (Rat.not_le.1 c1)]
        by_cases c2 : b ≤ med lo hi
        · rw [if_pos c2, decide_eq_false (Rat.not_lt.2 c2)]; rfl
        · rw [if_neg c2, decide_eq_true (Rat.not_le.1 c2)]; rfl
    have key := key zF
    unfold midQ
    by_cases c1 : med lo hi ≤ a
    · rw [if_pos c1] at key ⊢
      refine (AY (f := Ta) (s := (rqF a, (rqF b, (zF, (rqF lo, (rqF hi, (k : Int))))))) key).trans ?_
      exact ih (k + 1) (med lo hi) hi (by omega) a2 (sm.mono (show 41 + k + 1 ≤ 41 + (k + 1) by omega)) (s2.mono (show 41 + k ≤ 41 + (k + 1) by omega))
    · rw [if_neg c1] at key ⊢
      by_cases c2 : b ≤ med lo hi
      · rw [if_pos c2] at key ⊢
        refine (AY (f := Ta) (s := (rqF a, (rqF b, (zF, (rqF lo, (rqF hi, (k : Int))))))) key).trans ?_
        exact ih (k + 1) lo (med lo hi) (by omega) a1 (s1.mono (show 41 + k ≤ 41 + (k + 1) by omega)) (sm.mono (show 41 + k + 1 ≤ 41 + (k + 1) by omega))
      · rw [if_neg c2] at key ⊢
        exact An (f := Ta) (s := (rqF a, (rqF b, (zF, (rqF lo, (rqF hi, (k : Int))))))) key
theorem Ak6 {lo hi : Rat} (h : Adj lo hi) : (((big (lo.num + hi.num)).1, ((big (lo.num + hi.num)).2, big ((lo.den : Int) + (hi.den : Int)))) : RF) = rqF (med lo hi) := by
  obtain ⟨e1, e2⟩ := JJ h
  unfold rqF
  rw [e1, e2]
noncomputable abbrev Ua : RF × (RF × (RF × (RF × (RF × Int)))) → Option ((RF × (RF × (RF × (RF × (RF × Int))))) ⊕ (RF ⊕ (RF × Bool))) := fun (s : (RF × (RF × (RF × (RF × (RF × Int)))))) => Bj s.1 s.2.1 s.2.2.1 s.2.2.2.1 s.2.2.2.2.1 s.2.2.2.2.2
theorem An0 {a b : Rat} (ha : Sz 40 a) (hb : Sz 40 b) : ∀ (n k : Nat) (lo hi : Rat), k + n = 200 → Adj lo hi → Sz (41 + k) lo → Sz (41 + k) hi →
    loopM Ua (rqF a, (rqF b, (zF, (rqF lo, (rqF hi, (k : Int)))))) = some (midR (midQ a b n lo hi)) := by
  intro n
  induction n with
  | zero =>
    intro k lo hi hk hadj s1 s2
    refine An (show Bj (rqF a) (rqF b) zF (rqF lo) (rqF hi) (k : Int) = _ from ?_)
    unfold Bj
    rw [decide_eq_false (by omega)]
    rfl
  | succ n ih =>
    intro k lo hi hk hadj s1 s2
    have sm := Ad0 hadj s1 s2
    obtain ⟨a1, a2⟩ := Tk hadj
    have key : ∀ w : RF, Bj (rqF a) (rqF b) w (rqF lo) (rqF hi) (k : Int) = if med lo hi ≤ a then some (.inl (rqF a, (rqF b, (w, (rqF (med lo hi), (rqF hi, ((k + 1 : Nat) : Int))))))) else if b ≤ med lo hi then some (.inl (rqF a, (rqF b, (w, (rqF lo, (rqF (med lo hi), ((k + 1 : Nat) : Int))))))) else some (.inr (.inr (fitsQ (med lo hi)))) := by
      intro w
      unfold Bj
      rw [decide_eq_true (show (k : Int) < 200 by omega)]
      simp only [cT, rq_n, rq_d, JB, O1 (k := 41 + k) (by omega) s1.1 s2.1, O1 (k := 41 + k) (by omega) (natB s1.2) (natB s2.2), obs, peta, Aj1, Ak6 hadj]
      rw [O2 (k := 42 + k) (by omega) (sm.mono (by omega)) (ha.mono (by omega)), O2 (k := 42 + k) (by omega) (sm.mono (by omega)) (hb.mono (by omega)), Qh (k := 42 + k) (by omega) (sm.mono (by omega))]
      simp only [obs, peta, wrap1 (show k < 4611686018427387904 by omega)]
      have d1 : (cmpQ (med lo hi) a ≤ 0) ↔ med lo hi ≤ a := by
        rw [← Rat.not_lt, ← Af1]; omega
      have d2 : (cmpQ (med lo hi) b ≥ 0) ↔ b ≤ med lo hi := by
        rw [← Rat.not_lt, ← GA]; omega
      by_cases c1 : med lo hi ≤ a
      · rw [if_pos c1, decide_eq_true (d1.2 c1)]; rfl
      · rw [if_neg c1, decide_eq_false (fun h => c1 (d1.1 h))]
        by_cases c2 : b ≤ med lo hi
        · rw [if_pos c2, decide_eq_true (d2.2 c2)]; rfl
        · rw [if_neg c2, decide_eq_false (fun h => c2 (d2.1 h))]; rfl
    have key := key zF
    unfold midQ
    by_cases c1 : med lo hi ≤ a
    · rw [if_pos c1] at key ⊢
      refine (AY (f := Ua) (s := (rqF a, (rqF b, (zF, (rqF lo, (rqF hi, (k : Int))))))) key).trans ?_
      exact ih (k + 1) (med lo hi) hi (by omega) a2 (sm.mono (show 41 + k + 1 ≤ 41 + (k + 1) by omega)) (s2.mono (show 41 + k ≤ 41 + (k + 1) by omega))
    · rw [if_neg c1] at key ⊢
      by_cases c2 : b ≤ med lo hi
      · rw [if_pos c2] at key ⊢
        refine (AY (f := Ua) (s := (rqF a, (rqF b, (zF, (rqF lo, (rqF hi, (k : Int))))))) key).trans ?_
        exact ih (k + 1) lo (med lo hi) (by omega) a1 (s1.mono (show 41 + k ≤ 41 + (k + 1) by omega)) (sm.mono (show 41 + k + 1 ≤ 41 + (k + 1) by omega))
      · rw [if_neg c2] at key ⊢
        exact An (f := Ua) (s := (rqF a, (rqF b, (zF, (rqF lo, (rqF hi, (k : Int))))))) key
def betV (p q : Rat) : RF × Bool := if p < q then (match betweenQ p q with | some s => fitsQ s | none => (zF, false)) else (zF, false)
theorem midV (o : Option Rat) : (Sum.elim (fun _ => some (zF, false)) (fun (x10 : RF × Bool) => some (x10.1, x10.2)) (midR o)) = some (match o with | some s => fitsQ s | none => (zF, false)) := by
  cases o with
  | none => rfl
  | some s => show some ((fitsQ s).1, (fitsQ s).2) = some (fitsQ s); rw [peta]
section
variable {p q : Rat} (hp : Sz 40 p) (hq : Sz 40 q)
include hp hq
theorem Uf : Bm (rqF p) (rqF q) = some (betV p q) := by
  have hf := EB hp
  have z1 := C7 hf (show 1 ≤ 40 by omega)
  have z2 := Ac0 z1 (KA (k := 0 + 1) (by omega))
  have z2 : Sz 41 ((p.floor : Rat) + 1) := by
    have h := addB (k := 40) hf (Jz (by omega))
    rw [show ((p.floor : Int) : Rat) + 1 = ((p.floor + 1 : Int) : Rat) by rw [Rat.intCast_add]; rfl]
    exact C7 h (by omega)
  unfold Bm betV
  rw [OY hp hq]
  simp only [obs, nT, cF, peta, HY (k := 40) (by omega) hp hq]
  by_cases c0 : p < q
  · rw [if_pos c0, decide_eq_true c0]
    simp only [nT, cF, Gr (k := 40) (by omega) (by omega) hp, obs, peta, O3 (k := 40) (by omega) hf, PM, Mo (k := 40) (by omega) z1 (KA (by omega)), HY (k := 41) (by omega) z2 (hq.mono (by omega))]
    unfold betweenQ
    by_cases c1 : ((p.floor : Int) : Rat) + 1 < q
    · rw [decide_eq_true c1, if_pos c1]
      simp only [cT, DW, obs, peta]
    · rw [decide_eq_false c1, if_neg c1]
      simp only [cF]
      have h := An8 hp hq 200 0 _ _ (by omega) (Ms p) (z1.mono (by omega)) (z2.mono (by omega))
      have h' : loopM (fun (s : (RF × (RF × (RF × (RF × (RF × Int)))))) => Be s.1 s.2.1 s.2.2.1 s.2.2.2.1 s.2.2.2.2.1 s.2.2.2.2.2) (rqF p, (rqF q, ((false, (([] : List Int), (false, ([] : List Int)))), (rqF (p.floor : Rat), (rqF ((p.floor : Rat) + 1), (0 : Int)))))) = _ := h
      rw [h', obs]
      exact midV _
  · rw [if_neg c0, decide_eq_false c0]; rfl
theorem Tu : Bk (rqF p) (rqF q) = some (betV p q) := by
  have hf := EB hp
  have z1 := C7 hf (show 1 ≤ 40 by omega)
  have z2 : Sz 41 ((p.floor : Rat) + 1) := by
    have h := addB (k := 40) hf (Jz (by omega))
    rw [show ((p.floor : Int) : Rat) + 1 = ((p.floor + 1 : Int) : Rat) by rw [Rat.intCast_add]; rfl]
    exact C7 h (by omega)
  have d0 : (cmpQ p q ≥ 0) ↔ ¬ p < q := by rw [← GA]; omega
  unfold Bk betV
  simp only [rq_e, Af4 hp hq, obs, nT, cF, peta, O2 (k := 40) (by omega) hp hq]
  by_cases c0 : p < q
  · rw [if_pos c0, decide_eq_false (fun h => d0.1 h c0)]
    simp only [cF, Nl (k := 40) (by omega) (by omega) hp, obs, peta, GV, P0, Fw, Ue (k := 40) (by omega) z1 (KA (by omega)), O2 (k := 41) (by omega) z2 (hq.mono (by omega))]
    unfold betweenQ
    by_cases c1 : ((p.floor : Int) : Rat) + 1 < q
    · rw [decide_eq_true (GA.2 c1), if_pos c1]
      simp only [cT, Qh (k := 41) (by omega) z2, obs, peta]
    · rw [decide_eq_false (fun h => c1 (GA.1 h)), if_neg c1]
      simp only [cF]
      have h := An0 hp hq 200 0 _ _ (by omega) (Ms p) (z1.mono (by omega)) (z2.mono (by omega))
      have h' : loopM (fun (s : (RF × (RF × (RF × (RF × (RF × Int)))))) => Bj s.1 s.2.1 s.2.2.1 s.2.2.2.1 s.2.2.2.2.1 s.2.2.2.2.2) (rqF p, (rqF q, ((false, (([] : List Int), (false, ([] : List Int)))), (rqF (p.floor : Rat), (rqF ((p.floor : Rat) + 1), (0 : Int)))))) = _ := h
      rw [h', obs]
      exact midV _
  · rw [if_neg c0, decide_eq_true (d0.2 c0)]; rfl
end
theorem M0 {a b : RF} (ha : BrF a) (hb : BrF b) (h : (goodQ (toQ a) && goodQ (toQ b)) = false) : Bm a b = some (zF, false) := by unfold Bm; rw [Ac5 ha hb, h]; rfl
theorem Mk {a b : RF} (ha : BrF a) (hb : BrF b) (h : (goodQ (toQ a) && goodQ (toQ b)) = false) : Bk a b = some (zF, false) := by unfold Bk; simp only [rq_e]; rw [UB ha hb, h]; rfl
end Go.Proofs.YtgfchmagglhohaaGreat.Ev

end
section
namespace Go.Proofs.YtgfchmagglhohaaGreat.Ev
open Go
set_option linter.unusedVariables false
set_option linter.unusedSimpArgs false
set_option linter.unusedSectionVars false
theorem Pz {z : Int} {k : Nat} (hk : k ≤ 1000000) (h : ((z.natAbs : Nat) : Int) < B k) : Bl (big z) (big z) = some true := JX (Nat.le_trans (Ae.2 h) hk)
theorem EZ {s0 : RF} {s1 : Bool × List Int} {m : List Int} {ok on : Bool} {zs : List (Bool × List Int)} (hz : ∀ z ∈ zs, Bl z z = some true) (hl : zs.length ≤ 1000) :
    loopM (fun (s : ((Bool × ((List Int) × (Bool × (List Int)))) × ((Bool × (List Int)) × ((List Int) × ((List (Bool × (List Int))) × (Bool × ((List (Bool × (List Int))) × (Bool × (Int × Int))))))))) => Bt s.1 s.2.1 s.2.2.1 s.2.2.2.1 s.2.2.2.2.1 s.2.2.2.2.2.1 s.2.2.2.2.2.2.1 s.2.2.2.2.2.2.2.1 s.2.2.2.2.2.2.2.2) (s0, (s1, (m, (zs, (ok, (zs, (on, ((zs.length : Int), (0 : Int))))))))) = some (.inl (s0, (s1, (m, (zs, (ok, on)))))) := by
  obtain ⟨h1, h2⟩ := M6 (l := zs) (body := fun (s : ((Bool × ((List Int) × (Bool × (List Int)))) × ((Bool × (List Int)) × ((List Int) × ((List (Bool × (List Int))) × (Bool × ((List (Bool × (List Int))) × (Bool × (Int × Int))))))))) => Bt s.1 s.2.1 s.2.2.1 s.2.2.2.1 s.2.2.2.2.1 s.2.2.2.2.2.1 s.2.2.2.2.2.2.1 s.2.2.2.2.2.2.2.1 s.2.2.2.2.2.2.2.2)
    (st := fun k (b : Unit) => (s0, (s1, (m, (zs, (ok, (zs, (on, ((zs.length : Int), (k : Int)))))))))) (step := fun b p => ()) (fin := fun b => .inl (s0, (s1, (m, (zs, (ok, on)))))) (I := fun k b => True)
    (by
      rintro k b p hk _
      have hkl := getL hk
      have hs := hz p (List.mem_of_getElem? hk)
      refine ⟨?_, trivial⟩
      show Bt s0 s1 m zs ok zs on (zs.length : Int) (k : Int) = _
      unfold Bt
      rw [decide_eq_true (show (k : Int) < (zs.length : Int) by omega)]
      simp only [cT, Aj, hk, obs, peta, hs, nT, cF, wrap1 (show k < 4611686018427387904 by omega)])
    (by
      rintro b _
      show Bt s0 s1 m zs ok zs on (zs.length : Int) (zs.length : Int) = _
      unfold Bt
      rw [decide_eq_false (by omega)]
      simp only [cF, peta]) () trivial
  exact h1
theorem WE {x y s : Rat} (hx : Sz 40 x) (hy : Sz 40 y) (hb : ∀ z : Rat, x < z → z < y → s.den ≤ z.den) (m : List Int) {d : Int} (hd : d = (s.den : Int)) :
    loopM (fun (s : (RF × (RF × ((List Int) × (Int × (Bool × Int)))))) => Av s.1 s.2.1 s.2.2.1 s.2.2.2.1 s.2.2.2.2.1 s.2.2.2.2.2) (rqF x, (rqF y, (m, (d, (true, (1 : Int)))))) = some (.inl m) := by
  have key : ∀ (n k : Nat), 1 ≤ k → k + n = 12 → loopM (fun (s : (RF × (RF × ((List Int) × (Int × (Bool × Int)))))) => Av s.1 s.2.1 s.2.2.1 s.2.2.2.1 s.2.2.2.2.1 s.2.2.2.2.2) (rqF x, (rqF y, (m, (d, (true, (k : Int)))))) = some (.inl m) := by
    intro n
    induction n with
    | zero =>
      intro k h1 hk
      refine An (show Av (rqF x) (rqF y) m d true (k : Int) = _ from ?_)
      unfold Av
      simp only [cT]
      rw [decide_eq_false (show ¬ (k : Int) < 12 by omega)]
      by_cases h : (k : Int) < d
      · rw [decide_eq_true h]; rfl
      · rw [decide_eq_false h]; rfl
    | succ n ih =>
      intro k h1 hk
      by_cases h : (k : Int) < d
      · refine (AY (f := fun (s : (RF × (RF × ((List Int) × (Int × (Bool × Int)))))) => Av s.1 s.2.1 s.2.2.1 s.2.2.2.1 s.2.2.2.2.1 s.2.2.2.2.2) (s' := (rqF x, (rqF y, (m, (d, (true, ((k + 1 : Nat) : Int))))))) (show Av (rqF x) (rqF y) m d true (k : Int) = _ from ?_)).trans (ih (k + 1) (by omega) (by omega))
        have next : (some (Sum.inl (rqF x, (rqF y, (m, (d, (true, (IntKind.wrap .i64 ((k : Int) + 1)))))))) : Option ((RF × (RF × ((List Int) × (Int × (Bool × Int))))) ⊕ (List Int ⊕ Bool))) = some (.inl (rqF x, (rqF y, (m, (d, (true, ((k + 1 : Nat) : Int))))))) := by
          rw [wrap1 (by omega)]
        have hk0 : ((k : Int) : Rat) ≠ 0 := by
          intro e
          have : (k : Int) = 0 := Rat.intCast_eq_zero_iff.1 e
          omega
        have hkp : (0 : Rat) < ((k : Int) : Rat) := Rat.intCast_pos.2 (by omega)
        have hkB : (((k : Int).natAbs : Nat) : Int) < B 40 := by
          have := EY (show 1 ≤ 40 by omega)
          rw [B1] at this
          omega
        have hkz : Sz 40 ((k : Int) : Rat) := C7 hkB (by omega)
        have e1 : Rat.divInt (k : Int) 1 = ((k : Int) : Rat) := by
          have := Rat.num_divInt_den ((k : Int) : Rat)
          simpa using this
        unfold Av
        simp only [cT]
        rw [decide_eq_true h, decide_eq_true (show (k : Int) < 12 by omega), Ae7, WN (by omega) (by omega) (by omega), e1]
        simp only [cT, obs, peta, Ad1 hx hkz]
        by_cases f1 : Sz 40 (x * ((k : Int) : Rat))
        · rw [Hf f1]
          have hf := EB f1
          simp only [Pp f1, obs, BigOf1, peta, cT]
          rw [VM hf (Jz (by omega))]
          simp only [obs, peta]
          by_cases f2 : (((((x * ((k : Int) : Rat)).floor + 1).natAbs : Nat)) : Int) < B 40
          · rw [RP f2]
            simp only [Fw, cT]
            rw [PL (C7 f2 (by omega)) hkz, if_neg hk0]
            simp only [obs, peta]
            by_cases f3 : Sz 40 ((((x * ((k : Int) : Rat)).floor + 1 : Int) : Rat) / ((k : Int) : Rat))
            · rw [Hf f3]
              simp only [cT]
              rw [Hu f3 hy]
              simp only [obs, nT, cF]
              have hnl : ¬ (((x * ((k : Int) : Rat)).floor + 1 : Int) : Rat) / ((k : Int) : Rat) < y := by
                intro hlt
                have hgt : x < (((x * ((k : Int) : Rat)).floor + 1 : Int) : Rat) / ((k : Int) : Rat) := by
                  rw [Rat.lt_div_iff hkp]
                  exact Rat.lt_floor_add_one _
                have hden := hb _ hgt hlt
                have hle : ((((x * ((k : Int) : Rat)).floor + 1 : Int) : Rat) / ((k : Int) : Rat)).den ≤ k := by
                  rw [Xv, Rat.num_intCast, Rat.den_intCast, Rat.num_intCast, Rat.den_intCast, Rat.den_divInt]
                  split
                  · omega
                  · refine Nat.le_trans (Nat.div_le_self _ _) ?_
                    simp
                omega
              rw [decide_eq_false (fun h => hnl (GA.1 h))]
              exact next
            · rw [JP f3]; exact next
          · rw [X7 f2]
            simp only [cF]
            obtain ⟨r, hr⟩ : ∃ r, Ei (false, (([] : List Int), big 1)) (rqF ((k : Int) : Rat)) = some r := by
              have hz : (((false, (([] : List Int), big 1))) : RF) = rqF ((0 : Int) : Rat) := by
                show _ = ((big 0).1, ((big 0).2, ((big 1).1, (big 1).2)))
                rw [show (big 0).2 = [] by unfold big; rw [show (0 : Int).natAbs = 0 from rfl, AP]]
                rfl
              rw [hz, PL (C7 (by have := CI 40; simpa using this) (by omega)) hkz]
              exact ⟨_, rfl⟩
            rw [hr]
            exact next
        · rw [JP f1]
          simp only [cF]
          have hbad : goodQ (toQ zF) = false := by unfold goodQ toQ zF; rfl
          rw [Jg Aj0.br hbad]
          have hb0 : Sz 40 ((0 : Int) : Rat) := C7 (by have := CI 40; simpa using this) (by omega)
          have z0 : ((false, ([] : List Int)) : Bool × List Int) = big 0 := by unfold big; rw [show (0 : Int).natAbs = 0 from rfl, AP]; rfl
          simp only [obs, BigOf1, peta]
          rw [z0, VM (x := 0) (by have := CI 40; simpa using this) (Jz (by omega)), RP (z := 0 + 1) (by simpa using Jz (k := 40) (by omega))]
          simp only [obs, peta, Fw]
          rw [PL (C7 (z := 0 + 1) (by simpa using Jz (k := 40) (by omega)) (by omega)) hkz]
          exact next
      · refine An (show Av (rqF x) (rqF y) m d true (k : Int) = _ from ?_)
        unfold Av
        rw [decide_eq_false h]
        rfl
  exact key 11 1 (by omega) (by omega)
theorem Ai6 {z : Int} (h : -10 ≤ z ∧ z ≤ 10) : ((z.natAbs : Nat) : Int) < B 40 := by
  have := EY (show 1 ≤ 40 by omega)
  rw [B1] at this
  omega
theorem Ag6 {l : List Int} (h : Cur 0 (l, 0, 0)) : ∃ zs : List Int, A4 l = some (zs.map big) ∧ (∀ z ∈ zs, -10 ≤ z ∧ z ≤ 10) ∧ zs.length ≤ 10 := by
  unfold A4
  obtain ⟨c0, v0, e0, q0, a0, b0⟩ := D7 h (by omega) 9
  obtain ⟨c1, v1, e1, q1, a1, b1⟩ := D7 q0 (by omega) 6
  have b0 := b0 (by omega)
  have b1 := b1 (by omega)
  obtain ⟨n, rfl⟩ : ∃ n : Nat, v1 = (n : Int) := ⟨v1.toNat, by omega⟩
  obtain ⟨⟨c2, zs⟩, e2, q2, g2, n2⟩ := DQ (body := fun (s : (((List Int) × (Int × Int)) × ((List (Bool × (List Int))) × Int))) => AO s.1 s.2.1 s.2.2)
    (st := fun k (b : (List Int × Int × Int) × List Int) => (b.1, (b.2.map big, (k : Int)))) (fin := fun b => (b.1, b.2.map big)) (I := fun k b => Cur (100 - 2 * k) b.1 ∧ (∀ z ∈ b.2, -10 ≤ z ∧ z ≤ 10) ∧ b.2.length + k = 1 + n)
    (by
      rintro k ⟨c, zs⟩ ⟨i1, i2, i3⟩
      simp only at i1 i2 i3
      obtain ⟨c', v, e, q, a, b⟩ := D7 i1 (by omega) 9
      have b := b (by omega)
      refine ⟨(c', zs ++ [1 + v]), ?_, q.mono (by omega), ?_, by simp; omega⟩
      · show AO c (zs.map big) ((k + 1 : Nat) : Int) = _
        unfold AO
        rw [decide_eq_true (show ((k + 1 : Nat) : Int) > 0 by omega)]
        simp only [cT, peta, e, obs]
        rw [wrapI (n := 1 + v) (by omega) (by omega), Ht (by omega) (by omega)]
        simp only [obs, peta, appB (show (zs.map big).length ≤ 100000 by simp; omega)]
        rw [wrapI (by omega) (by omega), show ((k + 1 : Nat) : Int) - 1 = (k : Int) by omega]
        simp
      · intro z hz
        rcases List.mem_append.1 hz with hz | hz
        · exact i2 z hz
        · cases List.mem_singleton.1 hz; omega)
    (by
      rintro ⟨c, zs⟩ ⟨i1, i2, i3⟩
      show AO c (zs.map big) ((0 : Nat) : Int) = _
      unfold AO
      rfl) n (c1, [v0 - 4]) ⟨q1.mono (by omega), by intro z hz; cases List.mem_singleton.1 hz; omega, by simp⟩
  obtain ⟨c3, v3, e3, q3⟩ := Mt q2 (by omega) 12
  simp only at e2 g2 n2 e3
  have e2' : loopM (fun (s : (((List Int) × (Int × Int)) × ((List (Bool × (List Int))) × Int))) => AO s.1 s.2.1 s.2.2) (c1, ([big (v0 - 4)], (n : Int))) = some (c2, zs.map big) := e2
  simp only [e0, obs, peta]
  rw [wrapI (n := v0 - 4) (by omega) (by omega), Ht (by omega) (by omega)]
  simp only [obs, e1, peta, e2', e3]
  cases v3
  · exact ⟨zs, rfl, g2, by omega⟩
  · obtain ⟨c4, v4, e4, q4, a4, b4⟩ := D7 q3 (by omega) 2
    have b4 := b4 (by omega)
    simp only [cT, e4, obs]
    rw [wrapI (n := v4 - 1) (by omega) (by omega), Ht (by omega) (by omega)]
    simp only [obs, peta, appB (show (zs.map big).length ≤ 100000 by simp; omega)]
    refine ⟨zs ++ [v4 - 1], by simp, ?_, by simp; omega⟩
    intro z hz
    rcases List.mem_append.1 hz with hz | hz
    · exact g2 z hz
    · cases List.mem_singleton.1 hz; omega
theorem Ad2 (zs : List Int) : AI (ftV zs).1 (ftV zs).1 = some true := by
  unfold ftV
  split
  · exact Iw _
  · exact EX
theorem YB (p q : Rat) : AI (betV p q).1 (betV p q).1 = some true := by
  unfold betV
  split
  · split
    · exact Iw _
    · exact EX
  · exact EX
theorem Xb {b : List Int} (hb : Cur 0 (b, 0, 0)) :
    ((A4 b).bind fun x28 => ((Bs x28)).bind fun x29 => ((BM x28)).bind fun x30 => bif (x29.2 == x30.2) then ((AI (x29.1.1, (x29.1.2.1, (x29.1.2.2.1, x29.1.2.2.2))) (x30.1.1, (x30.1.2.1, (x30.1.2.2.1, x30.1.2.2.2))))).bind fun x31 => some x31 else some false) = some true := by
  obtain ⟨zs, e, h1, h2⟩ := Ag6 hb
  have hz : ∀ z ∈ zs, ((z.natAbs : Nat) : Int) < B 40 := fun z h => Ai6 (h1 z h)
  rw [e, obs, Nx hz (by omega), obs, US hz (by omega), obs, beq_self_eq_true, cT, rq_e, Ad2]
  rfl
theorem Ah5 {p q : Rat} (h : (betV p q).2 = true) : ∃ s, Sz 40 s ∧ betV p q = (rqF s, true) ∧ p < s ∧ s < q ∧ ∀ z : Rat, p < z → z < q → s.den ≤ z.den := by
  unfold betV at h ⊢
  split at h
  · rename_i hlt
    rw [if_pos hlt]
    cases hm : betweenQ p q with
    | none => rw [hm] at h; cases h
    | some s =>
      rw [hm] at h
      simp only at h ⊢
      by_cases hs : Sz 40 s
      · obtain ⟨f1, f2, f3⟩ := P3 hlt hm
        exact ⟨s, hs, Hf hs, f1, f2, f3⟩
      · rw [JP hs] at h; cases h
  · cases h
theorem Zp {b : List Int} (hb : Cur 0 (b, 0, 0)) {K : List Int → Option Bool} (hK : K b = some true) :
    (((Bb b)).bind fun x15 =>
      ((Bm (x15.1.1, (x15.1.2.1, (x15.1.2.2.1, x15.1.2.2.2))) (x15.2.1, (x15.2.2.1, (x15.2.2.2.1, x15.2.2.2.2))))).bind fun x16 =>
      ((Bk (x15.1.1, (x15.1.2.1, (x15.1.2.2.1, x15.1.2.2.2))) (x15.2.1, (x15.2.2.1, (x15.2.2.2.1, x15.2.2.2.2))))).bind fun x17 =>
      bif (!(x16.2 == x17.2)) then
        some false
      else
      ((AI (x16.1.1, (x16.1.2.1, (x16.1.2.2.1, x16.1.2.2.2))) (x17.1.1, (x17.1.2.1, (x17.1.2.2.1, x17.1.2.2.2))))).bind fun x18 =>
      bif (!x18) then
        some false
      else
      (bif x16.2 then
          ((A3 (x15.1.1, (x15.1.2.1, (x15.1.2.2.1, x15.1.2.2.2))) (x16.1.1, (x16.1.2.1, (x16.1.2.2.1, x16.1.2.2.2))))).bind fun x19 =>
          ((A3 (x16.1.1, (x16.1.2.1, (x16.1.2.2.1, x16.1.2.2.2))) (x15.2.1, (x15.2.2.1, (x15.2.2.2.1, x15.2.2.2.2))))).bind fun x20 =>
          bif (!x19.2) then
            some (Sum.inl false)
          else
          bif (!x20.2) then
            some (Sum.inl false)
          else
          bif decide (x19.1 ≥ (0 : Int)) then
            some (Sum.inl false)
          else
          bif decide (x20.1 ≥ (0 : Int)) then
            some (Sum.inl false)
          else
          ((Ef (x16.1.2.2.1, x16.1.2.2.2))).bind fun x21 =>
          (loopM (fun (s : ((Bool × ((List Int) × (Bool × (List Int)))) × ((Bool × ((List Int) × (Bool × (List Int)))) × ((List Int) × (Int × (Bool × Int)))))) => Av s.1 s.2.1 s.2.2.1 s.2.2.2.1 s.2.2.2.2.1 s.2.2.2.2.2) ((x15.1.1, (x15.1.2.1, (x15.1.2.2.1, x15.1.2.2.2))), ((x15.2.1, (x15.2.2.1, (x15.2.2.2.1, x15.2.2.2.2))), (b, (x21.1, (x21.2, (1 : Int))))))).bind fun x22 =>
          Sum.elim
            (fun x23 =>
            some (Sum.inr x23))
            (fun x24 =>
            some (Sum.inl x24))
            x22
        else
        some (Sum.inr b)).bind fun x25 =>
      Sum.elim
        (fun x26 =>
        some x26)
        (fun x27 => K x27)
        x25) = some true := by
  obtain ⟨u, v, e, hu, hv⟩ := Ya hb
  have hdraw : Bb b = some (u, v) := by unfold Bb; rw [e]; rfl
  simp only [hdraw, obs, rq_e]
  cases hg : (goodQ (toQ u) && goodQ (toQ v)) with
  | false =>
    simp only [M0 hu.br hv.br hg, Mk hu.br hv.br hg, obs, beq_self_eq_true, nT, cF, EX, Sum.elim_inr, hK]
  | true =>
    simp only [Bool.and_eq_true] at hg
    obtain ⟨p, hp, rfl⟩ := Td hg.1
    obtain ⟨q, hq, rfl⟩ := Td hg.2
    simp only [Uf hp hq, Tu hp hq, obs, beq_self_eq_true, nT, cF, YB]
    cases hs : (betV p q).2 with
    | false => simp only [cF, obs, Sum.elim_inr, hK]
    | true =>
      obtain ⟨s, h1, h2, h3, h4, h5⟩ := Ah5 hs
      simp only [h2, cT, Hu hp h1, Hu h1 hq, obs, nT, cF]
      have c1 : decide (cmpQ p s ≥ 0) = false := decide_eq_false (fun h => by have := GA.2 h3; omega)
      have c2 : decide (cmpQ s q ≥ 0) = false := decide_eq_false (fun h => by have := GA.2 h4; omega)
      simp only [c1, c2, cF, rq_d, Ah0 (natB h1.2), obs]
      unfold smallR
      by_cases hsm : ((s.den : Int)).natAbs ≤ 4611686018427387904
      · rw [if_pos hsm]
        simp only
        rw [WE hp hq h5 b rfl]
        simp only [obs, Sum.elim_inl, Sum.elim_inr, hK]
      · rw [if_neg hsm]
        have hl : loopM (fun (s : (RF × (RF × ((List Int) × (Int × (Bool × Int)))))) => Av s.1 s.2.1 s.2.2.1 s.2.2.2.1 s.2.2.2.2.1 s.2.2.2.2.2) (rqF p, (rqF q, (b, ((0 : Int), (false, (1 : Int)))))) = some (.inl b) := An (show Av (rqF p) (rqF q) b 0 false 1 = _ from by unfold Av; rfl)
        simp only
        rw [hl]
        simp only [obs, Sum.elim_inl, Sum.elim_inr, hK]
theorem pureFnTerms {a b : List Int} (ha : ∀ x ∈ a, 0 ≤ x ∧ x ≤ 255) (hb : ∀ x ∈ b, 0 ≤ x ∧ x ≤ 255) (la : a.length ≤ 1000000000000000) (lb : b.length ≤ 1000000000000000) : EJ a b = some true := by
  unfold EJ
  rw [wrapI (by omega) (by omega)]
  by_cases hl : (a.length : Int) + (b.length : Int) > 1048576
  · rw [decide_eq_true hl]; rfl
  rw [decide_eq_false hl]
  have ca : Cur 0 (a, 0, 0) := .start ha (by omega)
  have cb : Cur 0 (b, 0, 0) := .start hb (by omega)
  have last := Xb cb
  have mid := Zp (K := fun x27 => (A4 x27).bind fun x28 => ((Bs x28)).bind fun x29 => ((BM x28)).bind fun x30 => bif (x29.2 == x30.2) then ((AI (x29.1.1, (x29.1.2.1, (x29.1.2.2.1, x29.1.2.2.2))) (x30.1.1, (x30.1.2.1, (x30.1.2.2.1, x30.1.2.2.2))))).bind fun x31 => some x31 else some false) cb last
  obtain ⟨u, e1, hu⟩ := ZW ca
  have hdraw : Cg a = some u := by unfold Cg; rw [e1]; rfl
  simp only [cF, hdraw, obs, rq_e]
  cases hg : goodQ (toQ u) with
  | false =>
    simp only [Rr hu.br hg, Rq hu.br hg, Jg hu.br hg, PY hu.br hg, obs, beq_self_eq_true, nT, cF, bne_self_eq_false, JX (a := (false, ([] : List Int))) (by simp), peta]
    have hsl := EZ (s0 := u) (s1 := (false, [])) (m := b) (ok := false) (on := false) (zs := []) (by simp) (by simp)
    have hsl' : loopM (fun (s : ((Bool × ((List Int) × (Bool × (List Int)))) × ((Bool × (List Int)) × ((List Int) × ((List (Bool × (List Int))) × (Bool × ((List (Bool × (List Int))) × (Bool × (Int × Int))))))))) => Bt s.1 s.2.1 s.2.2.1 s.2.2.2.1 s.2.2.2.2.1 s.2.2.2.2.2.1 s.2.2.2.2.2.2.1 s.2.2.2.2.2.2.2.1 s.2.2.2.2.2.2.2.2) (u, ((false, ([] : List Int)), (b, (([] : List (Bool × List Int)), (false, (([] : List (Bool × List Int)), (false, ((([] : List (Bool × List Int)).length : Int), (0 : Int))))))))) = some (.inl (u, ((false, ([] : List Int)), (b, (([] : List (Bool × List Int)), (false, false)))))) := hsl
    rw [hsl', obs]
    simp only [Sum.elim_inl, cF, obs, Sum.elim_inr]
    exact mid
  | true =>
    obtain ⟨q, hq, rfl⟩ := Td hg
    simp only [YY hq, YN hq, Pp hq, W1 hq, obs, beq_self_eq_true, nT, cF, bne_self_eq_false, Pz (k := 40) (by omega) (EB hq), peta]
    cases ht : termsQ 60 q with
    | none =>
      simp only [termsV]
      have hsl := EZ (s0 := rqF q) (s1 := big q.floor) (m := b) (ok := false) (on := true) (zs := []) (by simp) (by simp)
      rw [show (((([] : List (Bool × List Int)).length : Nat)) : Int) = 0 from rfl] at hsl ⊢
      rw [hsl, obs]
      simp only [Sum.elim_inl, cF, obs, Sum.elim_inr]
      exact mid
    | some zs =>
      have hz := Zr 60 q zs hq ht
      obtain ⟨t, t1, t2, t3, t4⟩ := TS 60 q zs ht
      simp only [termsV, List.nil_append]
      rw [EZ (zs := zs.map big) (by
        intro x hx
        obtain ⟨z, h1, rfl⟩ := List.mem_map.1 hx
        exact Pz (k := 40) (by omega) (hz z h1)) (by simp; omega), obs]
      have hft : ftV zs = (rqF q, true) := by
        unfold ftV
        rw [if_pos ⟨by rw [t1]; simp, t4, by unfold tailPos; rw [t1]; simp; exact t3⟩, t2, Hf hq]
      simp only [Sum.elim_inl, cT, Nx hz (by omega), obs, hft, nT, cF, Lp (k := 40) (by omega) hq]
      have h0 : getI (zs.map big) 0 = some (big q.floor) := by rw [show (0 : Int) = ((0 : Nat) : Int) from rfl, Aj, t1]; rfl
      rw [h0]
      simp only [obs, peta, Pz (k := 40) (by omega) (EB hq), nT, cF, Sum.elim_inr]
      exact mid
end Go.Proofs.YtgfchmagglhohaaGreat.Ev

end
section
namespace Go.Proofs.YtgfchmagglhohaaGreat.Ev
open Go Go.RowKit Go.ChangeShapes Go.WideShapes Go.ChangeAt
set_option linter.unusedVariables false
def shs : List Sh := [.sl 1 (.int .u8), .sl 1 (.int .u8)]
theorem fits : FitsL Tryz.prog [22, 22] shs := by
  have h : Fits Tryz.prog 22 (.sl 1 (.int .u8)) := .sl Tryz.underlying22 (by kernel_rfl) (by kernel_rfl) (.int Tryz.underlying5)
  exact ⟨h, h, trivial⟩
theorem bytes_wf {l : List Int} (h : WFC (.sl 1 (.int .u8)) l) : (∀ x ∈ l, 0 ≤ x ∧ x ≤ 255) ∧ l.length ≤ 1000000000000000 := by
  have h1 : ∀ x ∈ l, (Lit.int .u8 x).wf = true := h.1
  have h2 : l.length * 1 ≤ maxBytes := h.2
  refine ⟨fun x hx => ?_, by unfold maxBytes at h2; omega⟩
  have := h1 x hx
  simp [Lit.wf, IntKind.min, IntKind.max, IntKind.bits, IntKind.signed] at this
  omega
theorem own : ownKnob Tryz.prog.godebug = none := by kernel_rfl
theorem laid : laidOutB Tryz.prog = true := by kernel_rfl
set_option maxRecDepth 100000 in
theorem lifted (os : Os) (started : os.Started) (H : Type) (enc : TypeId × Value → H) :
    ReturnsInHanded {} Tryz.checked os 3 .any (Rows.fnTermsSpec.pre6 enc Tryz.prog Tryz.f3 Rows.fnTermsRow.domain false) (Rows.fnTermsSpec.post enc Tryz.prog Tryz.f3 false true false false) := by
  refine returnsInHanded_of_change_sized (C := Tryz.checked) own started (by kernel_rfl) Tryz.func3 (ChangeSpec.witness6 (enc := enc) (C := Tryz.checked) false ⟨#[], #[.slice none 0 0, .slice none 0 0], []⟩ 8 (by kernel_rfl) (by kernel_rfl) (by kernel_rfl) (by kernel_rfl)) ?_
  intro W base args ds gs before hval hW hcnd hsz _
  exact T8 (P := Tryz.prog) (J := []) (cf := cf0) (ext := ext0) (F := fun x => EJ x.1 x.2) (shs := shs) (by kernel_rfl) Ab6 S7 (fun d => by kernel_rfl)
    (fun d hd => pureFnTerms (bytes_wf hd.1).1 (bytes_wf hd.2.1).1 (bytes_wf hd.1).2 (bytes_wf hd.2.1).2) rfl rfl rfl (by kernel_rfl) fits laid
    (fun t ht => by
      have : t = 22 := by simpa using ht
      subst this
      exact ⟨by kernel_rfl, of_decide_eq_true (by kernel_rfl)⟩) rfl
    (fun ds hl => by
      match ds, hl with
      | [_, _], _ => rfl) (fun x hx => absurd hx (List.not_mem_nil)) hval hW hsz
theorem over : Rows.fnTermsRow.holds Tryz.pinned (OpenSpec.ofChange Rows.fnTermsSpec) :=
  OpenClaim.holds_of_wide 3 Tryz.f3 rfl rfl rfl rfl rfl rfl rfl ⟨rfl, rfl, rfl, rfl, rfl⟩ rfl rfl rfl rfl rfl (by kernel_rfl) Tryz.func3 (by kernel_rfl)
    (of_decide_eq_true (by kernel_rfl)) (by unfold Func.isWrapper; first | (rw [if_pos (by decide +kernel)]; kernel_rfl) | (rw [if_neg (by decide +kernel)]; exact ⟨rfl, rfl⟩))
    (fun os started H enc _ => lifted os started H enc)
end Go.Proofs.YtgfchmagglhohaaGreat.Ev
namespace Go.Proofs.YtgfchmagglhohaaGreat
theorem fnTerms_holds : Rows.FnTermsSaid := Ev.over
#print axioms fnTerms_holds
end Go.Proofs.YtgfchmagglhohaaGreat

end
