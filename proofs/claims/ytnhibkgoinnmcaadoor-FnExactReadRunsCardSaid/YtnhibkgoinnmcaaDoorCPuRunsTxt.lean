/- The text of runs. -/
import Derived.Test.YtnhibkgoinnmcaaDoorCPuRuns
import Derived.Test.YtnhibkgoinnmcaaDoorCPuNum
namespace Go.Proofs.YtnhibkgoinnmcaaDoor.Ev
open Go
set_option linter.unusedVariables false
set_option linter.unusedSimpArgs false
set_option linter.unusedSectionVars false

theorem join_snoc (xs : List Str) (x sep : Str) : Lib.join (xs ++ [x]) sep = if xs = [] then x else Lib.join xs sep ++ (sep ++ x) := by
  cases xs with
  | nil => rw [if_pos rfl, List.nil_append, Lib.join_one]
  | cons y ys =>
    rw [if_neg (by simp), List.cons_append, Lib.join_cons, Lib.join_cons]
    simp [Lib.joinTail]
theorem join_len {c : Nat} : ∀ {xs : List Str}, (∀ x ∈ xs, x.length ≤ c) → ∀ b, (Lib.join xs [b]).length ≤ (c + 1) * xs.length
  | [], _, b => by simp [Lib.join_nil]
  | x :: xs, h, b => by
    rw [Lib.join_cons]
    have ht : ∀ ys : List Str, (∀ y ∈ ys, y.length ≤ c) → (Lib.joinTail [b] ys).length ≤ (c + 1) * ys.length := by
      intro ys
      induction ys with
      | nil => intro _; simp [Lib.joinTail]
      | cons y ys ih =>
        intro hy
        have h1 := ih (fun z hz => hy z (List.mem_cons_of_mem _ hz))
        have h2 := hy y (List.mem_cons_self ..)
        simp only [Lib.joinTail, List.map_cons, List.flatten_cons, List.length_append, List.length_cons, List.length_nil] at h1 ⊢
        rw [Nat.mul_add]
        omega
    have h1 := ht xs (fun z hz => h z (List.mem_cons_of_mem _ hz))
    have h2 := h x (List.mem_cons_self ..)
    rw [List.length_append, List.length_cons, Nat.mul_add]
    omega

def runTxt (r : Rn) : Str := Lib.itoa r.2 ++ (120 :: Lib.itoa r.1)
def runsTxt (l : List Rn) : Str := Lib.join (l.map runTxt) [44]
theorem runTxt_len {r : Rn} (h : 0 ≤ r.1 ∧ r.1 ≤ 255 ∧ 1 ≤ r.2 ∧ r.2 ≤ 100) : (runTxt r).length ≤ 43 := by
  have h1 := itoa_len (n := r.1) (by omega) (by omega)
  have h2 := itoa_len (n := r.2) (by omega) (by omega)
  unfold runTxt
  rw [List.length_append, List.length_cons]
  omega
theorem runsTxt_len {l : List Rn} (h : ∀ r ∈ l, 0 ≤ r.1 ∧ r.1 ≤ 255 ∧ 1 ≤ r.2 ∧ r.2 ≤ 100) : (runsTxt l).length ≤ 44 * l.length := by
  have := join_len (c := 43) (xs := l.map runTxt) (fun x hx => by
    obtain ⟨r, hr, rfl⟩ := List.mem_map.1 hx
    exact runTxt_len (h r hr)) 44
  rw [List.length_map] at this
  exact this
theorem runsTxt_succ {l : List Rn} {k : Nat} {r : Rn} (hk : l[k]? = some r) : runsTxt (l.take (k + 1)) = if k = 0 then runTxt r else runsTxt (l.take k) ++ (44 :: runTxt r) := by
  have hlt := getL hk
  unfold runsTxt
  rw [List.take_add_one, hk, List.map_append]
  show Lib.join (List.map runTxt (l.take k) ++ [runTxt r]) [44] = _
  rw [join_snoc]
  by_cases h : k = 0
  · subst h; simp
  · rw [if_neg h, if_neg (by simp; exact ⟨h, fun h2 => by subst h2; simp at hlt⟩)]
    rfl

theorem s_l15Text {l : List Rn} (h : ∀ r ∈ l, 0 ≤ r.1 ∧ r.1 ≤ 255 ∧ 1 ≤ r.2 ∧ r.2 ≤ 100) (hl : l.length ≤ 100) : F_s_l15Text l = some (runsTxt l) := by
  unfold F_s_l15Text
  obtain ⟨_, h1, _⟩ := up_loop (body := fun (s : (Str × (List Rn × (Int × Int)))) => B_s_l15Text_0 s.1 s.2.1 s.2.2.1 s.2.2.2)
    (fun k (_ : Unit) => (runsTxt (l.take k), l, (l.length : Int), (k : Int))) (fun _ => runsTxt l) (fun _ _ => True) l.length (by
      intro k _ hk _
      have he : l[k]? = some l[k] := List.getElem?_eq_getElem hk
      generalize l[k] = r at he
      have hr := h r (List.mem_of_getElem? he)
      have hb := runsTxt_len (l := l.take k) (fun r hr => h r (List.mem_of_mem_take hr))
      have hb' : (runsTxt (l.take k)).length ≤ 4400 := by rw [List.length_take] at hb; omega
      have n1 := itoa_len (n := r.1) (by omega) (by omega)
      have n2 := itoa_len (n := r.2) (by omega) (by omega)
      refine ⟨(), ?_, trivial⟩
      unfold B_s_l15Text_0
      simp only
      rw [decide_eq_true (show (k : Int) < (l.length : Int) by omega), cT, getI_nat, he, obs, runsTxt_succ he]
      by_cases hk0 : k = 0
      · subst hk0
        rw [show decide (((0 : Nat) : Int) > 0) = false from rfl, cF, obs, if_pos rfl]
        simp only [Sum.elim_inr]
        rw [s_l1NumI (by omega) (by omega), obs, catS_is (by simp; omega), obs, s_l1NumI (by omega) (by omega), obs, catS_is (by simp; omega), obs, catS_is (by
          simp [runsTxt, Lib.join_nil]; omega), obs, wrap1 (by omega)]
        simp [runsTxt, Lib.join_nil, runTxt]
      · rw [decide_eq_true (by omega), cT, catS_is (by simp; omega), obs, obs, if_neg hk0]
        simp only [Sum.elim_inr]
        rw [s_l1NumI (by omega) (by omega), obs, catS_is (by simp; omega), obs, s_l1NumI (by omega) (by omega), obs, catS_is (by simp; omega), obs, catS_is (by
          simp; omega), obs, wrap1 (by omega)]
        simp [runTxt]) (by
      intro _ _
      unfold B_s_l15Text_0
      simp) 0 () (by omega) trivial
  have h1' : loopM (fun (s : (Str × (List Rn × (Int × Int)))) => B_s_l15Text_0 s.1 s.2.1 s.2.2.1 s.2.2.2) (([] : Str), l, (l.length : Int), (0 : Int)) = _ := h1
  rw [h1', obs]

theorem l_Join {l : List Str} {sep : Str} (h1 : l.length ≤ 140737488355328) (h2 : (Lib.join l sep).length ≤ 140737488355328) : F_strings_Join l sep = some (Lib.join l sep) := by
  unfold F_strings_Join F_join
  rw [if_pos ⟨h1, h2⟩]

theorem i_runsText {l : List Rn} (h : ∀ r ∈ l, I64 r.1 ∧ I64 r.2) (hl : l.length ≤ 1000) : F_i_runsText l = some (runsTxt l) := by
  unfold F_i_runsText
  obtain ⟨_, h1, _⟩ := up_loop (body := fun (s : (List Str × (List Rn × (Int × Int)))) => B_i_runsText_0 s.1 s.2.1 s.2.2.1 s.2.2.2)
    (fun k (_ : Unit) => ((l.take k).map runTxt, l, (l.length : Int), (k : Int))) (fun _ => l.map runTxt) (fun _ _ => True) l.length (by
      intro k _ hk _
      have he : l[k]? = some l[k] := List.getElem?_eq_getElem hk
      generalize l[k] = r at he
      have hr := h r (List.mem_of_getElem? he)
      unfold I64 at hr
      have n1 := itoa_len (n := r.1) (by omega) (by omega)
      have n2 := itoa_len (n := r.2) (by omega) (by omega)
      refine ⟨(), ?_, trivial⟩
      unfold B_i_runsText_0
      simp only
      rw [decide_eq_true (show (k : Int) < (l.length : Int) by omega), cT, getI_nat, he, obs, l_Itoa (by omega) (by omega), obs, catS_is (by simp; omega), obs, l_Itoa (by omega) (by omega), obs, catS_is (by simp; omega), obs,
        appL_is (by simp [maxBytes]; omega) (by simp [maxBytes]; omega), obs, wrap1 (by omega), List.take_add_one, he]
      simp [runTxt]) (by
      intro _ _
      unfold B_i_runsText_0
      simp) 0 () (by omega) trivial
  have h1' : loopM (fun (s : (List Str × (List Rn × (Int × Int)))) => B_i_runsText_0 s.1 s.2.1 s.2.2.1 s.2.2.2) (([] : List Str), l, (l.length : Int), (0 : Int)) = _ := h1
  have hj : (Lib.join (l.map runTxt) [44]).length ≤ 44 * l.length := by
    have := join_len (c := 43) (xs := l.map runTxt) (fun x hx => by
      obtain ⟨r, hr, rfl⟩ := List.mem_map.1 hx
      have hr := h r hr
      unfold I64 at hr
      have n1 := itoa_len (n := r.1) (by omega) (by omega)
      have n2 := itoa_len (n := r.2) (by omega) (by omega)
      unfold runTxt
      rw [List.length_append, List.length_cons]
      omega) 44
    rw [List.length_map] at this
    exact this
  rw [h1', obs, l_Join (by simp; omega) (by omega), obs]
  rfl

end Go.Proofs.YtnhibkgoinnmcaaDoor.Ev
