/- The law FnExactCountIn, over its typed text. -/
import Derived.Test.YtnhibkgoinnmcaaDoorCPuPath
namespace Go.Proofs.YtnhibkgoinnmcaaDoor.Ev
open Go
set_option linter.unusedVariables false

def cnt (l : List Wy) : Int := l.foldl (fun a w => IntKind.wrap .i64 (a + (w.length : Int))) 0
theorem cnt_succ {l : List Wy} {k : Nat} {w : Wy} (h : l[k]? = some w) : cnt (l.take (k + 1)) = IntKind.wrap .i64 (cnt (l.take k) + (w.length : Int)) := by
  unfold cnt
  rw [List.take_add_one, h, List.foldl_append]
  rfl
theorem s_cnt {l : List Wy} (hl : l.length ≤ 1000) : loopM (fun (s : ((List Wy) × (Int × (Int × Int)))) => B_s_CountIn_0 s.1 s.2.1 s.2.2.1 s.2.2.2) (l, ((0 : Int), ((l.length : Int), (0 : Int)))) = some (l, cnt l) := by
  obtain ⟨_, h1, _⟩ := up_loop (body := fun (s : ((List Wy) × (Int × (Int × Int)))) => B_s_CountIn_0 s.1 s.2.1 s.2.2.1 s.2.2.2) (fun k (_ : Unit) => (l, cnt (l.take k), (l.length : Int), (k : Int))) (fun _ => (l, cnt l)) (fun _ _ => True) l.length (by
    intro k _ hk _
    have he : l[k]? = some l[k] := List.getElem?_eq_getElem hk
    generalize l[k] = w at he
    refine ⟨(), ?_, trivial⟩
    unfold B_s_CountIn_0
    simp only
    rw [decide_eq_true (by omega), cT, idxI_nat hk, obs, show getN l k = some w from he, obs, cnt_succ he, wrap1 (by omega)]) (by
    intro _ _
    unfold B_s_CountIn_0
    simp) 0 () (by omega) trivial
  exact h1
theorem i_cnt {l : List Wy} (hl : l.length ≤ 1000) : loopM (fun (s : ((List Wy) × (Int × ((List Wy) × (Int × Int))))) => B_i_CountIn_0 s.1 s.2.1 s.2.2.1 s.2.2.2.1 s.2.2.2.2) (l, ((0 : Int), (l, ((l.length : Int), (0 : Int))))) = some (l, cnt l) := by
  obtain ⟨_, h1, _⟩ := up_loop (body := fun (s : ((List Wy) × (Int × ((List Wy) × (Int × Int))))) => B_i_CountIn_0 s.1 s.2.1 s.2.2.1 s.2.2.2.1 s.2.2.2.2) (fun k (_ : Unit) => (l, cnt (l.take k), l, (l.length : Int), (k : Int))) (fun _ => (l, cnt l)) (fun _ _ => True) l.length (by
    intro k _ hk _
    have he : l[k]? = some l[k] := List.getElem?_eq_getElem hk
    generalize l[k] = w at he
    refine ⟨(), ?_, trivial⟩
    unfold B_i_CountIn_0
    simp only
    rw [decide_eq_true (by omega), cT, getI_nat, he, obs, cnt_succ he, wrap1 (by omega)]) (by
    intro _ _
    unfold B_i_CountIn_0
    simp) 0 () (by omega) trivial
  exact h1

theorem parse_len {W : List Str} (hW : W.length ≤ 1000) (hs : ∀ w ∈ W, w.length ≤ 1000) : ∀ (n i : Nat) (ways : List Wy) (way : Wy) (v : List Wy × Wy), i ≤ W.length → ways.length ≤ i → parse W n i ways way = .inr v → v.1.length ≤ W.length := by
  intro n
  induction n with
  | zero => intro i ways way v hi h1 h; unfold parse at h; cases h; simp only; omega
  | succ n ih =>
    intro i ways way v hi h1 h
    unfold parse at h
    cases he : W[i]? with
    | none => rw [he] at h; cases h; simp only; omega
    | some w =>
      rw [he] at h
      simp only at h
      have hf := cf_cmd hW hs he ways way
      cases hz : cmdV W i ways way w with
      | inl e => rw [hz] at h; cases h
      | inr u =>
        obtain ⟨j, ways', way'⟩ := u
        rw [hz] at h hf
        obtain ⟨f1, f2, f3, f4⟩ := hf
        exact ih j ways' way' v f2 (by omega) h
theorem pathV_len (s : Str) : (pathV s).1.length ≤ 1000 := by
  unfold pathV
  split
  · rename_i hb
    have hc := parts_count (c := 32) s.length s (Nat.le_refl _)
    have hl : ∀ w ∈ parts 32 s, w.length ≤ 1000 := fun w hw => by have := parts_len s.length s (Nat.le_refl _) w hw; omega
    split
    · simp
    · rename_i ways way hz
      have := parse_len (W := parts 32 s) (by omega) hl _ _ _ _ _ (by omega) (by simp) hz
      split
      · simp
      · simp only at this ⊢; omega
  · simp

theorem pureFnExactCountIn (s : Str) : F_l_FnExactCountIn s = some true := by
  unfold F_l_FnExactCountIn
  by_cases h : (s.length : Int) > 1048576
  · rw [decide_eq_true h]; rfl
  · have hl := pathV_len s
    have key : ∃ v, F_s_CountIn s = some v ∧ F_i_CountIn s = some v := by
      unfold F_s_CountIn F_i_CountIn
      rw [s_ParsePath (by omega), i_ParsePath (by omega), obs, obs]
      cases (pathV s).2.2.2 with
      | false => exact ⟨_, rfl, rfl⟩
      | true =>
        rw [nT, cF, cF, s_cnt hl, i_cnt hl]
        exact ⟨_, rfl, rfl⟩
    obtain ⟨v, h1, h2⟩ := key
    have hx : ∀ n : Int, (n != n) = false := fun n => by simp [bne]
    rw [decide_eq_false h, cF, h1, obs, h2, obs, hx, cF, hx, cF, beq_self_eq_true, nT, cF]
end Go.Proofs.YtnhibkgoinnmcaaDoor.Ev
