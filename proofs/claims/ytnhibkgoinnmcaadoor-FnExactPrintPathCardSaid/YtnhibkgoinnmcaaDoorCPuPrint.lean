/- The text of ways: the two programs print the same. -/
import Derived.Test.YtnhibkgoinnmcaaDoorCPuGood
import Derived.Test.YtnhibkgoinnmcaaDoorCPuNumS
import Derived.Test.YtnhibkgoinnmcaaDoorCPuJoin
namespace Go.Proofs.YtnhibkgoinnmcaaDoor.Ev
open Go
set_option linter.unusedVariables false
set_option linter.unusedSimpArgs false
set_option linter.unusedSectionVars false

/-- The words of the point that stands at a place of a way. -/
def ptW (k : Nat) (p : P2) : List Str := [if k = 0 then [77] else [76], Lib.itoa p.1, Lib.itoa p.2]
def ptsW (w : List P2) (k : Nat) : List Str := ((List.range k).map fun i => match w[i]? with | some p => ptW i p | none => []).flatten
def wayW (w : List P2) : List Str := ptsW w w.length ++ [[90]]
def waysW (l : Ways) (k : Nat) : List Str := ((l.take k).map wayW).flatten
/-- Each word with a blank behind it. -/
def sp (ws : List Str) : Str := (ws.map (· ++ [32])).flatten
theorem sp_append (a b : List Str) : sp (a ++ b) = sp a ++ sp b := by unfold sp; simp
theorem sp_join (a : List Str) (z : Str) : Lib.join (a ++ [z]) [32] = sp a ++ z := by
  induction a with
  | nil => rw [List.nil_append, Lib.join_one]; rfl
  | cons x a ih =>
    have e : ∀ (y : Str) (r : List Str), Lib.join (x :: y :: r) [32] = x ++ 32 :: Lib.join (y :: r) [32] := by
      intro y r
      rw [Lib.join_cons, Lib.join_cons]
      simp [Lib.joinTail]
    cases a with
    | nil =>
      rw [List.nil_append] at ih
      rw [List.cons_append, List.nil_append, e, ih]
      simp [sp]
    | cons y r =>
      rw [List.cons_append] at ih
      rw [List.cons_append, List.cons_append, e, ih]
      unfold sp
      simp
theorem ptsW_succ {w : List P2} {k : Nat} {p : P2} (h : w[k]? = some p) : ptsW w (k + 1) = ptsW w k ++ ptW k p := by
  unfold ptsW
  rw [List.range_succ, List.map_append, List.flatten_append]
  simp [h]
theorem waysW_succ {l : Ways} {k : Nat} {w : List P2} (h : l[k]? = some w) : waysW l (k + 1) = waysW l k ++ wayW w := by
  unfold waysW
  rw [List.take_add_one, h]
  simp
theorem ptsW_len (w : List P2) : ∀ k, (ptsW w k).length ≤ 3 * k
  | 0 => by simp [ptsW]
  | k + 1 => by
    cases h : w[k]? with
    | some p =>
      have := ptsW_len w k
      rw [ptsW_succ h, List.length_append]
      simp [ptW]; omega
    | none =>
      have := ptsW_len w k
      have e : ptsW w (k + 1) = ptsW w k := by
        unfold ptsW
        rw [List.range_succ, List.map_append, List.flatten_append]
        simp [h]
      rw [e]; omega
theorem wayW_len (w : List P2) : (wayW w).length ≤ 3 * w.length + 1 := by
  have := ptsW_len w w.length
  unfold wayW
  rw [List.length_append]
  simp; omega
theorem waysW_len {l : Ways} (h : ∀ w ∈ l, w.length ≤ 12) : ∀ k, (waysW l k).length ≤ 37 * k
  | 0 => by simp [waysW]
  | k + 1 => by
    have := waysW_len h k
    cases hk : l[k]? with
    | some w =>
      have h1 := wayW_len w
      have h2 := h w (List.mem_of_getElem? hk)
      rw [waysW_succ hk, List.length_append]
      omega
    | none =>
      unfold waysW at this ⊢
      rw [List.take_add_one, hk]
      simp at this ⊢; omega
/-- Short words. -/
def SW (ws : List Str) : Prop := ∀ x ∈ ws, x.length ≤ 21
theorem SW.append {a b : List Str} (ha : SW a) (hb : SW b) : SW (a ++ b) := fun x hx => (List.mem_append.1 hx).elim (ha x) (hb x)
theorem ptW_sw {k : Nat} {p : P2} (h : -1000 ≤ p.1 ∧ p.1 ≤ 1000 ∧ -1000 ≤ p.2 ∧ p.2 ≤ 1000) : SW (ptW k p) := by
  intro x hx
  unfold ptW at hx
  rcases List.mem_cons.1 hx with rfl | hx
  · split <;> simp
  rcases List.mem_cons.1 hx with rfl | hx
  · exact itoa_len (by omega) (by omega)
  cases List.mem_singleton.1 hx
  exact itoa_len (by omega) (by omega)
theorem ptsW_sw {w : List P2} (h : ∀ p ∈ w, -1000 ≤ p.1 ∧ p.1 ≤ 1000 ∧ -1000 ≤ p.2 ∧ p.2 ≤ 1000) : ∀ k, k ≤ w.length → SW (ptsW w k)
  | 0, _ => fun x hx => by simp [ptsW] at hx
  | k + 1, hk => by
    have he : w[k]? = some w[k] := List.getElem?_eq_getElem (by omega)
    rw [ptsW_succ he]
    exact (ptsW_sw h k (by omega)).append (ptW_sw (h _ (List.getElem_mem _)))
theorem wayW_sw {w : List P2} (h : ∀ p ∈ w, -1000 ≤ p.1 ∧ p.1 ≤ 1000 ∧ -1000 ≤ p.2 ∧ p.2 ≤ 1000) : SW (wayW w) :=
  (ptsW_sw h w.length (Nat.le_refl _)).append (fun x hx => by cases List.mem_singleton.1 hx; simp)
theorem waysW_sw {l : Ways} (h : ∀ w ∈ l, ∀ p ∈ w, -1000 ≤ p.1 ∧ p.1 ≤ 1000 ∧ -1000 ≤ p.2 ∧ p.2 ≤ 1000) (k : Nat) : SW (waysW l k) := by
  intro x hx
  unfold waysW at hx
  obtain ⟨ws, hws, hx⟩ := List.mem_flatten.1 hx
  obtain ⟨w, hw, rfl⟩ := List.mem_map.1 hws
  exact wayW_sw (h w (List.mem_of_mem_take hw)) x hx
theorem sp_len {ws : List Str} (h : SW ws) : (sp ws).length ≤ 22 * ws.length := by
  induction ws with
  | nil => simp [sp]
  | cons x ws ih =>
    have h1 := ih (fun y hy => h y (List.mem_cons_of_mem _ hy))
    have h2 := h x (List.mem_cons_self ..)
    unfold sp at h1 ⊢
    rw [List.map_cons, List.flatten_cons, List.length_append, List.length_append, List.length_cons]
    simp only [List.length_cons, List.length_nil]
    omega

def printW (l : Ways) : Str := Lib.join (waysW l l.length) [32]
/-- What is printed when so many ways are. -/
def preW (l : Ways) (k : Nat) : Str := Lib.join (waysW l k) [32]
theorem preW_sp {l : Ways} {k : Nat} (hk : k < l.length) (h0 : k ≠ 0) : preW l k ++ [32] = sp (waysW l k) := by
  obtain ⟨j, rfl⟩ : ∃ j, k = j + 1 := ⟨k - 1, by omega⟩
  have he : l[j]? = some l[j] := List.getElem?_eq_getElem (by omega)
  unfold preW
  rw [waysW_succ he]
  unfold wayW
  rw [← List.append_assoc, sp_join, sp_append (waysW l j ++ ptsW l[j] l[j].length), List.append_assoc]
  rfl

section
variable {l : Ways} (hl : l.length ≤ 4) (hw : ∀ w ∈ l, w.length ≤ 12 ∧ 3 ≤ w.length ∧ ∀ p ∈ w, -1000 ≤ p.1 ∧ p.1 ≤ 1000 ∧ -1000 ≤ p.2 ∧ p.2 ≤ 1000)
include hl hw

theorem s_pts {j : Nat} (hj : j < l.length) {w : List P2} (hjw : l[j]? = some w) (a b : Int) :
    loopM (fun (s : (Str × (Ways × (Int × (Int × (List P2 × (Int × Int))))))) => B_s_l16Print_1 s.1 s.2.1 s.2.2.1 s.2.2.2.1 s.2.2.2.2.1 s.2.2.2.2.2.1 s.2.2.2.2.2.2) (sp (waysW l j), (l, (a, (b, (w, ((w.length : Int), (0 : Int))))))) =
      some (sp (waysW l j ++ ptsW w w.length), (l, (a, b))) := by
  have hin := hw w (List.mem_of_getElem? hjw)
  have hsw := waysW_sw (l := l) (fun w hw' => (hw w hw').2.2) j
  have hwl := waysW_len (l := l) (fun w hw' => (hw w hw').1) j
  obtain ⟨_, h1, _⟩ := up_loop (body := fun (s : (Str × (Ways × (Int × (Int × (List P2 × (Int × Int))))))) => B_s_l16Print_1 s.1 s.2.1 s.2.2.1 s.2.2.2.1 s.2.2.2.2.1 s.2.2.2.2.2.1 s.2.2.2.2.2.2)
    (fun k (_ : Unit) => (sp (waysW l j ++ ptsW w k), l, a, b, w, (w.length : Int), (k : Int))) (fun _ => (sp (waysW l j ++ ptsW w w.length), l, a, b)) (fun _ _ => True) w.length (by
      intro k _ hk _
      have he : w[k]? = some w[k] := List.getElem?_eq_getElem hk
      generalize w[k] = p at he
      have hp := hin.2.2 p (List.mem_of_getElem? he)
      have n1 := itoa_len (n := p.1) (by omega) (by omega)
      have n2 := itoa_len (n := p.2) (by omega) (by omega)
      have hsl := sp_len (hsw.append (ptsW_sw hin.2.2 k (by omega)))
      have hpl := ptsW_len w k
      rw [List.length_append] at hsl
      refine ⟨(), ?_, trivial⟩
      unfold B_s_l16Print_1
      simp only
      rw [decide_eq_true (by omega), cT, getI_nat, he, obs, ptsW_succ he]
      by_cases hk0 : k = 0
      · subst hk0
        rw [show (((0 : Nat) : Int) == 0) = true from rfl, cT, catS_is (by simp; omega), obs, obs]
        simp only [Sum.elim_inr]
        rw [s_l16Num (by omega) (by omega), obs, catS_is (by simp; omega), obs, s_l16Num (by omega) (by omega), obs, catS_is (by simp; omega), obs, catS_is (by simp; omega), obs, catS_is (by simp; omega), obs, wrap1 (by omega),
          ← List.append_assoc (waysW l j), sp_append (waysW l j ++ ptsW w _)]
        simp [ptW, sp]
      · rw [show ((k : Int) == 0) = false by simp; omega, cF, catS_is (by simp; omega), obs, obs]
        simp only [Sum.elim_inr]
        rw [s_l16Num (by omega) (by omega), obs, catS_is (by simp; omega), obs, s_l16Num (by omega) (by omega), obs, catS_is (by simp; omega), obs, catS_is (by simp; omega), obs, catS_is (by simp; omega), obs, wrap1 (by omega),
          ← List.append_assoc (waysW l j), sp_append (waysW l j ++ ptsW w _)]
        simp [ptW, sp, hk0]) (by
      intro _ _
      unfold B_s_l16Print_1
      simp) 0 () (by omega) trivial
  have e0 : ptsW w 0 = [] := by simp [ptsW]
  rw [e0, List.append_nil] at h1
  exact h1

theorem s_l16Print : F_s_l16Print l = some (printW l) := by
  unfold F_s_l16Print
  obtain ⟨_, h1, _⟩ := up_loop (body := fun (s : (Str × (Ways × (Int × Int)))) => B_s_l16Print_0 s.1 s.2.1 s.2.2.1 s.2.2.2)
    (fun k (_ : Unit) => (preW l k, l, (l.length : Int), (k : Int))) (fun _ => printW l) (fun _ _ => True) l.length (by
      intro k _ hk _
      have he : l[k]? = some l[k] := List.getElem?_eq_getElem hk
      generalize l[k] = w at he
      have hin := hw w (List.mem_of_getElem? he)
      have hsw := waysW_sw (l := l) (fun w hw' => (hw w hw').2.2) k
      have hwl := waysW_len (l := l) (fun w hw' => (hw w hw').1) k
      have hsl := sp_len hsw
      have hsl2 := sp_len (hsw.append (ptsW_sw hin.2.2 w.length (Nat.le_refl _)))
      have hpl := ptsW_len w w.length
      rw [List.length_append] at hsl2
      refine ⟨(), ?_, trivial⟩
      unfold B_s_l16Print_0
      simp only
      rw [decide_eq_true (by omega), cT, getI_nat, he, obs]
      by_cases hk0 : k = 0
      · subst hk0
        rw [show decide (((0 : Nat) : Int) > 0) = false from rfl, cF]
        have e0 : preW l 0 = sp (waysW l 0) := by simp [preW, waysW, sp, Lib.join_nil]
        rw [e0]
        rw [obs]
        simp only [Sum.elim_inr]
        rw [s_pts hl hw hk he, obs]
        simp only
        rw [catS_is (by simp; omega), obs, wrap1 (by omega)]
        congr 3
        unfold preW
        rw [waysW_succ he]
        unfold wayW
        rw [← List.append_assoc, sp_join]
      · have hps := preW_sp hk hk0
        have hlen := congrArg List.length hps
        rw [List.length_append] at hlen
        rw [decide_eq_true (by omega), cT, catS_is (by simp at hlen ⊢; omega), obs, hps]
        rw [obs]
        simp only [Sum.elim_inr]
        rw [s_pts hl hw hk he, obs]
        simp only
        rw [catS_is (by simp; omega), obs, wrap1 (by omega)]
        congr 3
        unfold preW
        rw [waysW_succ he]
        unfold wayW
        rw [← List.append_assoc, sp_join]) (by
      intro _ _
      unfold B_s_l16Print_0
      simp [preW, printW]) 0 () (by omega) trivial
  have e0 : preW l 0 = [] := by simp [preW, waysW, Lib.join_nil]
  rw [e0] at h1
  have h1' : loopM (fun (s : (Str × (Ways × (Int × Int)))) => B_s_l16Print_0 s.1 s.2.1 s.2.2.1 s.2.2.2) (([] : Str), l, (l.length : Int), (0 : Int)) = _ := h1
  rw [h1', obs]

theorem i_pts {j : Nat} (hj : j < l.length) {w : List P2} (hjw : l[j]? = some w) (a b : Int) :
    loopM (fun (s : (List Str × (Ways × (Int × (Int × (List P2 × (Int × Int))))))) => B_i_PrintPath_1 s.1 s.2.1 s.2.2.1 s.2.2.2.1 s.2.2.2.2.1 s.2.2.2.2.2.1 s.2.2.2.2.2.2) (waysW l j, (l, (a, (b, (w, ((w.length : Int), (0 : Int))))))) =
      some (waysW l j ++ ptsW w w.length, (l, (a, b))) := by
  have hin := hw w (List.mem_of_getElem? hjw)
  have hwl := waysW_len (l := l) (fun w hw' => (hw w hw').1) j
  obtain ⟨_, h1, _⟩ := up_loop (body := fun (s : (List Str × (Ways × (Int × (Int × (List P2 × (Int × Int))))))) => B_i_PrintPath_1 s.1 s.2.1 s.2.2.1 s.2.2.2.1 s.2.2.2.2.1 s.2.2.2.2.2.1 s.2.2.2.2.2.2)
    (fun k (_ : Unit) => (waysW l j ++ ptsW w k, l, a, b, w, (w.length : Int), (k : Int))) (fun _ => (waysW l j ++ ptsW w w.length, l, a, b)) (fun _ _ => True) w.length (by
      intro k _ hk _
      have he : w[k]? = some w[k] := List.getElem?_eq_getElem hk
      generalize w[k] = p at he
      have hp := hin.2.2 p (List.mem_of_getElem? he)
      have hpl := ptsW_len w k
      refine ⟨(), ?_, trivial⟩
      unfold B_i_PrintPath_1
      simp only
      rw [decide_eq_true (by omega), cT, getI_nat, he, obs, ptsW_succ he]
      by_cases hk0 : k = 0
      · subst hk0
        rw [show (((0 : Nat) : Int) == 0) = true from rfl, cT, obs]
        simp only [Sum.elim_inr]
        rw [l_Itoa (by omega) (by omega), obs, l_Itoa (by omega) (by omega), obs, appL_is (by simp [maxBytes]; omega) (by simp [maxBytes]; omega), obs, wrap1 (by omega)]
        simp [ptW]
      · rw [show ((k : Int) == 0) = false by simp; omega, cF, obs]
        simp only [Sum.elim_inr]
        rw [l_Itoa (by omega) (by omega), obs, l_Itoa (by omega) (by omega), obs, appL_is (by simp [maxBytes]; omega) (by simp [maxBytes]; omega), obs, wrap1 (by omega)]
        simp [ptW, hk0]) (by
      intro _ _
      unfold B_i_PrintPath_1
      simp) 0 () (by omega) trivial
  have e0 : ptsW w 0 = [] := by simp [ptsW]
  rw [e0, List.append_nil] at h1
  exact h1

theorem i_words : loopM (fun (s : (List Str × (Ways × (Int × Int)))) => B_i_PrintPath_0 s.1 s.2.1 s.2.2.1 s.2.2.2) (([] : List Str), (l, ((l.length : Int), (0 : Int)))) = some (waysW l l.length) := by
  obtain ⟨_, h1, _⟩ := up_loop (body := fun (s : (List Str × (Ways × (Int × Int)))) => B_i_PrintPath_0 s.1 s.2.1 s.2.2.1 s.2.2.2)
    (fun k (_ : Unit) => (waysW l k, l, (l.length : Int), (k : Int))) (fun _ => waysW l l.length) (fun _ _ => True) l.length (by
      intro k _ hk _
      have he : l[k]? = some l[k] := List.getElem?_eq_getElem hk
      generalize l[k] = w at he
      have hin := hw w (List.mem_of_getElem? he)
      have hwl := waysW_len (l := l) (fun w hw' => (hw w hw').1) k
      have hpl := ptsW_len w w.length
      refine ⟨(), ?_, trivial⟩
      unfold B_i_PrintPath_0
      simp only
      rw [decide_eq_true (by omega), cT, getI_nat, he, obs, i_pts hl hw hk he, obs, appL_is (by simp [maxBytes]; omega) (by simp [maxBytes]; omega), obs, wrap1 (by omega), waysW_succ he]
      simp [wayW]) (by
      intro _ _
      unfold B_i_PrintPath_0
      simp) 0 () (by omega) trivial
  have e0 : waysW l 0 = [] := by simp [waysW]
  rw [e0] at h1
  exact h1
end

def printV (l : Ways) : Str × Bool := if goodWays l then (if (printW l).length ≤ 400 then (printW l, true) else ([], false)) else ([], false)
theorem s_PrintPath {l : Ways} (hl : Short l) (hs : ∀ w ∈ l, Short w) : F_s_PrintPath l = some (printV l) := by
  unfold F_s_PrintPath printV
  rw [s_GoodWays hl hs, obs]
  cases hg : goodWays l with
  | false => rfl
  | true =>
    obtain ⟨h1, h2⟩ := goodWays_facts hg
    rw [nT, cF, s_l16Print h1 h2, obs, if_pos rfl]
    by_cases h : (printW l).length ≤ 400
    · rw [decide_eq_false (by omega), cF, if_pos h]
    · rw [decide_eq_true (by omega), cT, if_neg h]
theorem i_PrintPath {l : Ways} (hl : Short l) (hs : ∀ w ∈ l, Short w) : F_i_PrintPath l = some (printV l) := by
  unfold F_i_PrintPath printV
  rw [i_GoodWays hl hs, obs]
  cases hg : goodWays l with
  | false => rfl
  | true =>
    obtain ⟨h1, h2⟩ := goodWays_facts hg
    have hwl := waysW_len (l := l) (fun w hw' => (h2 w hw').1) l.length
    have hsw := waysW_sw (l := l) (fun w hw' => (h2 w hw').2.2) l.length
    have hj := join_len (c := 21) (xs := waysW l l.length) hsw 32
    rw [nT, cF, i_words h1 h2, obs, l_Join (by omega) (by omega), obs, if_pos rfl]
    show (bif decide (((printW l).length : Int) > 400) then _ else some (printW l, true)) = _
    by_cases h : (printW l).length ≤ 400
    · rw [decide_eq_false (by omega), cF, if_pos h]
    · rw [decide_eq_true (by omega), cT, if_neg h]
end Go.Proofs.YtnhibkgoinnmcaaDoor.Ev
