/- Paths that fit a window: the two programs agree. -/
import Derived.Test.YtnhibkgoinnmcaaDoorCPuPath
namespace Go.Proofs.YtnhibkgoinnmcaaDoor.Ev
open Go
set_option linter.unusedVariables false
set_option linter.unusedSimpArgs false
set_option linter.unusedSectionVars false

/-! ### the ways of a path -/
def GW (ways : List Wy) : Prop := ∀ w ∈ ways, 3 ≤ w.length ∧ w.length ≤ 1000
def WF (ways : List Wy) (way : Wy) : CV → Prop
  | .inl _ => True
  | .inr (_, ways', _) => ways' = ways ∨ (ways' = ways ++ [way] ∧ 3 ≤ way.length)
theorem wf_pt (j : Nat) (ways : List Wy) (way : Wy) (p : Pn) : WF ways way (ptV goodP j ways way p) := by
  unfold ptV
  split
  · exact .inl rfl
  · exact trivial
theorem wf_one (W : List Str) (j : Nat) (ways : List Wy) (way : Wy) (f : Int → Pn) : WF ways way (one W j ways way f) := by
  unfold one
  split
  · exact trivial
  · exact wf_pt _ _ _ _
theorem wf_two (W : List Str) (j : Nat) (ways : List Wy) (way : Wy) (f : Int → Int → Pn) : WF ways way (two W j ways way f) := by
  unfold two
  split
  · exact trivial
  · exact wf_one _ _ _ _ _
theorem wf_cmd (W : List Str) (i : Nat) (w : Str) (ways : List Wy) (way : Wy) : WF ways way (cmdV W i ways way w) := by
  unfold cmdV
  repeat' split
  all_goals first
    | exact trivial
    | exact wf_two _ _ _ _ _
    | exact wf_one _ _ _ _ _
    | exact .inr ⟨rfl, by omega⟩
theorem parse_gw {W : List Str} (hW : W.length ≤ 1000) (hs : ∀ w ∈ W, w.length ≤ 1000) : ∀ (n i : Nat) (ways : List Wy) (way : Wy) (v : List Wy × Wy), i ≤ W.length → way.length ≤ i → GW ways → parse W n i ways way = .inr v → GW v.1 := by
  intro n
  induction n with
  | zero => intro i ways way v hi h1 hg h; unfold parse at h; cases h; exact hg
  | succ n ih =>
    intro i ways way v hi h1 hg h
    unfold parse at h
    cases he : W[i]? with
    | none => rw [he] at h; cases h; exact hg
    | some w =>
      rw [he] at h
      simp only at h
      have hf := cf_cmd hW hs he ways way
      have hw := wf_cmd W i w ways way
      cases hz : cmdV W i ways way w with
      | inl e => rw [hz] at h; cases h
      | inr u =>
        obtain ⟨j, ways', way'⟩ := u
        rw [hz] at h hf hw
        obtain ⟨f1, f2, f3, f4⟩ := hf
        refine ih j ways' way' v f2 (by omega) ?_ h
        rcases hw with rfl | ⟨rfl, h3⟩
        · exact hg
        · intro x hx
          rcases List.mem_append.1 hx with hx | hx
          · exact hg x hx
          · cases List.mem_singleton.1 hx
            exact ⟨h3, by omega⟩
theorem pathV_gw (s : Str) : GW (pathV s).1 ∧ (pathV s).1.length ≤ 1000 := by
  unfold pathV
  split
  · rename_i hb
    have hc := parts_count (c := 32) s.length s (Nat.le_refl _)
    have hl : ∀ w ∈ parts 32 s, w.length ≤ 1000 := fun w hw => by have := parts_len s.length s (Nat.le_refl _) w hw; omega
    split
    · exact ⟨fun w hw => absurd hw List.not_mem_nil, by simp⟩
    · rename_i ways way hz
      have h1 := parse_gw (W := parts 32 s) (by omega) hl _ _ _ _ _ (by omega) (by simp) (fun w hw => absurd hw List.not_mem_nil) hz
      have h2 : ways.length ≤ (parts 32 s).length := by
        have key : ∀ (n i : Nat) (ways : List Wy) (way : Wy) (v : List Wy × Wy), i ≤ (parts 32 s).length → ways.length ≤ i → parse (parts 32 s) n i ways way = .inr v → v.1.length ≤ (parts 32 s).length := by
          intro n
          induction n with
          | zero => intro i ways way v hi h1 h; unfold parse at h; cases h; simp only; omega
          | succ n ih =>
            intro i ways way v hi h1 h
            unfold parse at h
            cases he : (parts 32 s)[i]? with
            | none => rw [he] at h; cases h; simp only; omega
            | some w =>
              rw [he] at h
              simp only at h
              have hf := cf_cmd (W := parts 32 s) (by omega) hl he ways way
              cases hz : cmdV (parts 32 s) i ways way w with
              | inl e => rw [hz] at h; cases h
              | inr u =>
                obtain ⟨j, ways', way'⟩ := u
                rw [hz] at h hf
                obtain ⟨f1, f2, f3, f4⟩ := hf
                exact ih j ways' way' v f2 (by omega) h
        exact key _ _ _ _ _ (by omega) (by simp) hz
      split
      · exact ⟨fun w hw => absurd hw List.not_mem_nil, by simp⟩
      · exact ⟨h1, by simp only; omega⟩
  · exact ⟨fun w hw => absurd hw List.not_mem_nil, by simp⟩

/-! ### the box of a way -/
abbrev Win := Int × (Int × (Int × Int))
def okP (x y xw yh : Int) (p : Pn) : Bool := decide (x ≤ p.1 ∧ p.1 ≤ xw) && decide (y ≤ p.2 ∧ p.2 ≤ yh)
structure BoxOf (w : Wy) (lo hi : Pn) : Prop where
  a : ∃ p ∈ w, p.1 = lo.1
  b : ∃ p ∈ w, p.2 = lo.2
  c : ∃ p ∈ w, p.1 = hi.1
  d : ∃ p ∈ w, p.2 = hi.2
def Within (lo hi p : Pn) : Prop := lo.1 ≤ p.1 ∧ lo.2 ≤ p.2 ∧ p.1 ≤ hi.1 ∧ p.2 ≤ hi.2
theorem box_all {w : Wy} {lo hi : Pn} (h : BoxOf w lo hi) (hall : ∀ p ∈ w, Within lo hi p) (x y xw yh : Int) :
    w.all (okP x y xw yh) = true ↔ ¬ lo.1 < x ∧ ¬ lo.2 < y ∧ ¬ hi.1 > xw ∧ ¬ hi.2 > yh := by
  rw [List.all_eq_true]
  have e : ∀ p, okP x y xw yh p = true ↔ (x ≤ p.1 ∧ p.1 ≤ xw) ∧ (y ≤ p.2 ∧ p.2 ≤ yh) := fun p => by simp [okP]
  constructor
  · intro hk
    obtain ⟨p1, m1, e1⟩ := h.a
    obtain ⟨p2, m2, e2⟩ := h.b
    obtain ⟨p3, m3, e3⟩ := h.c
    obtain ⟨p4, m4, e4⟩ := h.d
    have k1 := (e p1).1 (hk p1 m1)
    have k2 := (e p2).1 (hk p2 m2)
    have k3 := (e p3).1 (hk p3 m3)
    have k4 := (e p4).1 (hk p4 m4)
    omega
  · intro hk p hp
    have := hall p hp
    unfold Within at this
    exact (e p).2 (by omega)

def minI (a b : Int) : Int := if a < b then a else b
def maxI (a b : Int) : Int := if a > b then a else b
theorem s_l9Box {w : Wy} (h0 : 1 ≤ w.length) (hl : w.length ≤ 1000) : ∃ lo hi : Pn, F_s_l9Box w = some (lo, hi) ∧ BoxOf w lo hi ∧ ∀ p ∈ w, Within lo hi p := by
  unfold F_s_l9Box
  have he0 : w[0]? = some (w[0]'(by omega)) := List.getElem?_eq_getElem (by omega)
  generalize (w[0]'(by omega)) = q at he0
  have hq : q ∈ w := List.mem_of_getElem? he0
  have hg : getI w 0 = some q := he0
  rw [hg, obs, obs]
  obtain ⟨b, h1, h2, h3⟩ := up_loop (body := fun (s : (Pn × (Pn × (Pn × (Pn × (Wy × (Int × Int))))))) => B_s_l9Box_0 s.1 s.2.1 s.2.2.1 s.2.2.2.1 s.2.2.2.2.1 s.2.2.2.2.2.1 s.2.2.2.2.2.2)
    (fun k (b : Pn × Pn) => ((0, 0), ((0, 0), (b.1, (b.2, (w, ((w.length : Int), (k : Int)))))))) (fun b => ((0, 0), ((0, 0), (b.1, b.2)))) (fun k b => BoxOf w b.1 b.2 ∧ ∀ j p, j < k → w[j]? = some p → Within b.1 b.2 p) w.length (by
      rintro k ⟨lo, hi⟩ hk ⟨hb, hw⟩
      have he : w[k]? = some w[k] := List.getElem?_eq_getElem hk
      generalize w[k] = p at he
      have hp : p ∈ w := List.mem_of_getElem? he
      refine ⟨((minI p.1 lo.1, minI p.2 lo.2), (maxI p.1 hi.1, maxI p.2 hi.2)), ?_, ⟨?_, ?_, ?_, ?_⟩, ?_⟩
      · unfold B_s_l9Box_0
        simp only
        rw [decide_eq_true (show (k : Int) < (w.length : Int) by omega), cT, getI_nat, he, obs]
        have hw1 := wrap1 (show k < 4611686018427387904 by omega)
        unfold minI maxI
        by_cases c1 : p.1 < lo.1 <;> by_cases c2 : p.2 < lo.2 <;> by_cases c3 : p.1 > hi.1 <;> by_cases c4 : p.2 > hi.2 <;>
          simp only [c1, c2, c3, c4, hw1, decide_true, decide_false, cT, cF, obs, Sum.elim_inr, if_true, if_false, ite_true, ite_false]
      · simp only [minI]; split
        · exact ⟨p, hp, rfl⟩
        · exact hb.a
      · simp only [minI]; split
        · exact ⟨p, hp, rfl⟩
        · exact hb.b
      · simp only [maxI]; split
        · exact ⟨p, hp, rfl⟩
        · exact hb.c
      · simp only [maxI]; split
        · exact ⟨p, hp, rfl⟩
        · exact hb.d
      · intro j r hj hr
        have mn : ∀ a b : Int, minI a b ≤ a ∧ minI a b ≤ b := fun a b => by unfold minI; split <;> omega
        have mx : ∀ a b : Int, a ≤ maxI a b ∧ b ≤ maxI a b := fun a b => by unfold maxI; split <;> omega
        have m1 := mn p.1 lo.1
        have m2 := mn p.2 lo.2
        have m3 := mx p.1 hi.1
        have m4 := mx p.2 hi.2
        unfold Within
        simp only
        by_cases hjk : j = k
        · subst hjk
          rw [he] at hr
          cases hr
          omega
        · have := hw j r (by omega) hr
          unfold Within at this
          simp only at this
          omega) (by
      rintro ⟨lo, hi⟩ _
      unfold B_s_l9Box_0
      simp only
      rw [decide_eq_false (show ¬ (w.length : Int) < (w.length : Int) by omega), cF]) 0 (q, q) (by omega) ⟨⟨⟨q, hq, rfl⟩, ⟨q, hq, rfl⟩, ⟨q, hq, rfl⟩, ⟨q, hq, rfl⟩⟩, fun j p hj => by omega⟩
  have h1' : loopM (fun (s : (Pn × (Pn × (Pn × (Pn × (Wy × (Int × Int))))))) => B_s_l9Box_0 s.1 s.2.1 s.2.2.1 s.2.2.2.1 s.2.2.2.2.1 s.2.2.2.2.2.1 s.2.2.2.2.2.2) (((0 : Int), (0 : Int)), (((0 : Int), (0 : Int)), ((q.1, q.2), ((q.1, q.2), (w, ((w.length : Int), (0 : Int))))))) = _ := h1
  rw [h1', obs]
  refine ⟨b.1, b.2, rfl, h2, fun p hp => ?_⟩
  obtain ⟨j, hj, rfl⟩ := List.getElem_of_mem hp
  exact h3 j _ hj (List.getElem?_eq_getElem hj)

/-! ### both programs -/
def fitsV (l : List Wy) (v : Win) : Bool := l.all fun w => w.all (okP v.1 v.2.1 (IntKind.wrap .i64 (v.1 + v.2.2.1)) (IntKind.wrap .i64 (v.2.1 + v.2.2.2)))
theorem s_fits {l : List Wy} (hl : l.length ≤ 1000) (hg : GW l) (v : Win) : loopM (fun (s : (Win × ((List Wy) × (Int × Int)))) => B_s_FitsWindow_0 s.1 s.2.1 s.2.2.1 s.2.2.2) ((v.1, (v.2.1, (v.2.2.1, v.2.2.2))), (l, ((l.length : Int), (0 : Int)))) = some (if fitsV l v then .inl () else .inr (false, true)) := by
  have key := all_loop (body := fun (s : (Win × ((List Wy) × (Int × Int)))) => B_s_FitsWindow_0 s.1 s.2.1 s.2.2.1 s.2.2.2) (l := l) (st := fun k => ((v.1, (v.2.1, (v.2.2.1, v.2.2.2))), (l, ((l.length : Int), (k : Int)))))
    (p := fun w => w.all (okP v.1 v.2.1 (IntKind.wrap .i64 (v.1 + v.2.2.1)) (IntKind.wrap .i64 (v.2.1 + v.2.2.2)))) (fin := .inl ()) (bad := fun k => .inr (false, true))
    (fun k w hk hp => by
      have hlt := getL hk
      have hgw := hg w (List.mem_of_getElem? hk)
      obtain ⟨lo, hi, hb, hB, hA⟩ := s_l9Box (w := w) (by omega) hgw.2
      obtain ⟨c1, c2, c3, c4⟩ := (box_all hB hA _ _ _ _).1 hp
      unfold B_s_FitsWindow_0
      simp only
      rw [decide_eq_true (show (k : Int) < (l.length : Int) by omega), cT, idxI_nat hlt, obs, show getN l k = some w from hk, obs, hb, obs]
      simp only
      rw [decide_eq_false c1, cF, decide_eq_false c2, cF, decide_eq_false c3, cF, decide_eq_false c4, cF, wrap1 (by omega)])
    (fun k w hk hp => by
      have hlt := getL hk
      have hgw := hg w (List.mem_of_getElem? hk)
      obtain ⟨lo, hi, hb, hB, hA⟩ := s_l9Box (w := w) (by omega) hgw.2
      have hn : ¬ (¬ lo.1 < v.1 ∧ ¬ lo.2 < v.2.1 ∧ ¬ hi.1 > IntKind.wrap .i64 (v.1 + v.2.2.1) ∧ ¬ hi.2 > IntKind.wrap .i64 (v.2.1 + v.2.2.2)) := fun h => by rw [(box_all hB hA _ _ _ _).2 h] at hp; cases hp
      unfold B_s_FitsWindow_0
      simp only
      rw [decide_eq_true (show (k : Int) < (l.length : Int) by omega), cT, idxI_nat hlt, obs, show getN l k = some w from hk, obs, hb, obs]
      simp only
      by_cases c1 : lo.1 < v.1
      · rw [decide_eq_true c1, cT]
      rw [decide_eq_false c1, cF]
      by_cases c2 : lo.2 < v.2.1
      · rw [decide_eq_true c2, cT]
      rw [decide_eq_false c2, cF]
      by_cases c3 : hi.1 > IntKind.wrap .i64 (v.1 + v.2.2.1)
      · rw [decide_eq_true c3, cT]
      rw [decide_eq_false c3, cF]
      by_cases c4 : hi.2 > IntKind.wrap .i64 (v.2.1 + v.2.2.2)
      · rw [decide_eq_true c4, cT]
      exact absurd ⟨c1, c2, c3, c4⟩ hn)
    (by
      unfold B_s_FitsWindow_0
      simp only
      rw [decide_eq_false (show ¬ (l.length : Int) < (l.length : Int) by omega), cF])
  unfold fitsV
  cases hall : l.all (fun w => w.all (okP v.1 v.2.1 (IntKind.wrap .i64 (v.1 + v.2.2.1)) (IntKind.wrap .i64 (v.2.1 + v.2.2.2)))) with
  | true => rw [if_pos rfl]; exact key.1 hall
  | false =>
    obtain ⟨k, _, h⟩ := key.2 hall
    rw [if_neg (by simp)]
    exact h
theorem i_In4 (a b c : Int) : F_i_within a b c = some (decide (b ≤ a ∧ a ≤ c)) := by
  unfold F_i_within
  by_cases h : a ≥ b
  · rw [decide_eq_true h, cT]; congr 1; rw [decide_eq_decide]; omega
  · rw [decide_eq_false h, cF]; congr 1; symm; rw [decide_eq_false]; omega
theorem i_fit1 {w : Wy} (hw : w.length ≤ 1000) (l : List Wy) (a b : Int) (v : Win) : loopM (fun (s : (Win × ((List Wy) × (Int × (Int × (Wy × (Int × Int))))))) => B_i_FitsWindow_1 s.1 s.2.1 s.2.2.1 s.2.2.2.1 s.2.2.2.2.1 s.2.2.2.2.2.1 s.2.2.2.2.2.2) ((v.1, (v.2.1, (v.2.2.1, v.2.2.2))), (l, (a, (b, (w, ((w.length : Int), (0 : Int))))))) =
    some (if w.all (okP v.1 v.2.1 (IntKind.wrap .i64 (v.1 + v.2.2.1)) (IntKind.wrap .i64 (v.2.1 + v.2.2.2))) then .inl ((v.1, (v.2.1, (v.2.2.1, v.2.2.2))), (l, (a, b))) else .inr (false, true)) := by
  have key := all_loop (body := fun (s : (Win × ((List Wy) × (Int × (Int × (Wy × (Int × Int))))))) => B_i_FitsWindow_1 s.1 s.2.1 s.2.2.1 s.2.2.2.1 s.2.2.2.2.1 s.2.2.2.2.2.1 s.2.2.2.2.2.2) (l := w) (st := fun k => ((v.1, (v.2.1, (v.2.2.1, v.2.2.2))), (l, (a, (b, (w, ((w.length : Int), (k : Int)))))))) (p := okP v.1 v.2.1 (IntKind.wrap .i64 (v.1 + v.2.2.1)) (IntKind.wrap .i64 (v.2.1 + v.2.2.2)))
    (fin := .inl ((v.1, (v.2.1, (v.2.2.1, v.2.2.2))), (l, (a, b)))) (bad := fun k => .inr (false, true))
    (fun k p hk hp => by
      have hlt := getL hk
      unfold okP at hp
      rw [Bool.and_eq_true] at hp
      unfold B_i_FitsWindow_1
      simp only
      rw [decide_eq_true (show (k : Int) < (w.length : Int) by omega), cT, getI_nat, hk, obs, i_In4, obs, hp.1, nT, cF, i_In4, obs, hp.2, nT, cF, wrap1 (by omega)])
    (fun k p hk hp => by
      have hlt := getL hk
      unfold okP at hp
      rw [Bool.and_eq_false_iff] at hp
      unfold B_i_FitsWindow_1
      simp only
      rw [decide_eq_true (show (k : Int) < (w.length : Int) by omega), cT, getI_nat, hk, obs, i_In4, obs]
      cases h1 : decide (v.1 ≤ p.1 ∧ p.1 ≤ IntKind.wrap .i64 (v.1 + v.2.2.1)) with
      | false => rw [nF, cT]
      | true =>
        rw [h1] at hp
        have hp := hp.resolve_left (by simp)
        rw [nT, cF, i_In4, obs, hp, nF, cT])
    (by
      unfold B_i_FitsWindow_1
      simp only
      rw [decide_eq_false (show ¬ (w.length : Int) < (w.length : Int) by omega), cF])
  cases hall : w.all (okP v.1 v.2.1 (IntKind.wrap .i64 (v.1 + v.2.2.1)) (IntKind.wrap .i64 (v.2.1 + v.2.2.2))) with
  | true => rw [if_pos rfl]; exact key.1 hall
  | false =>
    obtain ⟨k, _, h⟩ := key.2 hall
    rw [if_neg (by simp)]
    exact h
theorem i_fits {l : List Wy} (hl : l.length ≤ 1000) (hg : GW l) (v : Win) : loopM (fun (s : (Win × ((List Wy) × (Int × Int)))) => B_i_FitsWindow_0 s.1 s.2.1 s.2.2.1 s.2.2.2) ((v.1, (v.2.1, (v.2.2.1, v.2.2.2))), (l, ((l.length : Int), (0 : Int)))) = some (if fitsV l v then .inl () else .inr (false, true)) := by
  have key := all_loop (body := fun (s : (Win × ((List Wy) × (Int × Int)))) => B_i_FitsWindow_0 s.1 s.2.1 s.2.2.1 s.2.2.2) (l := l) (st := fun k => ((v.1, (v.2.1, (v.2.2.1, v.2.2.2))), (l, ((l.length : Int), (k : Int)))))
    (p := fun w => w.all (okP v.1 v.2.1 (IntKind.wrap .i64 (v.1 + v.2.2.1)) (IntKind.wrap .i64 (v.2.1 + v.2.2.2)))) (fin := .inl ()) (bad := fun k => .inr (false, true))
    (fun k w hk hp => by
      have hlt := getL hk
      have hgw := hg w (List.mem_of_getElem? hk)
      unfold B_i_FitsWindow_0
      simp only
      rw [decide_eq_true (show (k : Int) < (l.length : Int) by omega), cT, getI_nat, hk, obs, i_fit1 hgw.2, obs, if_pos hp]
      simp only [Sum.elim_inl]
      rw [wrap1 (by omega)])
    (fun k w hk hp => by
      have hlt := getL hk
      have hgw := hg w (List.mem_of_getElem? hk)
      unfold B_i_FitsWindow_0
      simp only
      rw [decide_eq_true (show (k : Int) < (l.length : Int) by omega), cT, getI_nat, hk, obs, i_fit1 hgw.2, obs, if_neg (by rw [hp]; simp)]
      rfl)
    (by
      unfold B_i_FitsWindow_0
      simp only
      rw [decide_eq_false (show ¬ (l.length : Int) < (l.length : Int) by omega), cF])
  unfold fitsV
  cases hall : l.all (fun w => w.all (okP v.1 v.2.1 (IntKind.wrap .i64 (v.1 + v.2.2.1)) (IntKind.wrap .i64 (v.2.1 + v.2.2.2)))) with
  | true => rw [if_pos rfl]; exact key.1 hall
  | false =>
    obtain ⟨k, _, h⟩ := key.2 hall
    rw [if_neg (by simp)]
    exact h

theorem goodWin (v : Win) : ∃ t : Bool, F_s_GoodWindow v = some t ∧ F_i_GoodWindow v = some t := by
  have e : F_s_GoodWindow v = F_i_GoodWindow v := rfl
  rw [e]
  unfold F_i_GoodWindow
  simp only [i_In4, obs]
  cases decide (-20 ≤ v.1 ∧ v.1 ≤ 20) <;> cases decide (-20 ≤ v.2.1 ∧ v.2.1 ≤ 20) <;> cases decide (1 ≤ v.2.2.1 ∧ v.2.2.1 ≤ 8) <;> exact ⟨_, rfl, rfl⟩
theorem fits_both {s : Str} (hs : s.length ≤ 1048576) (v : Win) : ∃ r : Bool × Bool, F_s_FitsWindow s v = some r ∧ F_i_FitsWindow s v = some r := by
  unfold F_s_FitsWindow F_i_FitsWindow
  rw [s_ParsePath (by omega), i_ParsePath (by omega), obs, obs]
  obtain ⟨hg, hl⟩ := pathV_gw s
  cases (pathV s).2.2.2 with
  | false => exact ⟨_, rfl, rfl⟩
  | true =>
    rw [nT, cF, cF]
    obtain ⟨t, h1, h2⟩ := goodWin v
    have h1 : F_s_GoodWindow (v.1, (v.2.1, (v.2.2.1, v.2.2.2))) = some t := h1
    have h2 : F_i_GoodWindow (v.1, (v.2.1, (v.2.2.1, v.2.2.2))) = some t := h2
    rw [h1, h2, obs, obs]
    cases t with
    | false => exact ⟨_, rfl, rfl⟩
    | true =>
      rw [nT, cF, cF, s_fits hl hg v, i_fits hl hg v, obs]
      split <;> exact ⟨_, rfl, rfl⟩
theorem pureFnExactFitsWindow (s : Str) (v : Win) : F_l_FnExactFitsWindow s v = some true := by
  unfold F_l_FnExactFitsWindow F_l_toWindow
  by_cases h : (s.length : Int) > 1048576
  · rw [decide_eq_true h]; rfl
  · obtain ⟨r, h1, h2⟩ := fits_both (s := s) (by omega) v
    have h1 : F_s_FitsWindow s (v.1, (v.2.1, (v.2.2.1, v.2.2.2))) = some r := h1
    have h2 : F_i_FitsWindow s (v.1, (v.2.1, (v.2.2.1, v.2.2.2))) = some r := h2
    rw [decide_eq_false h, cF, obs]
    simp only
    rw [h1, obs, obs]
    simp only
    rw [h2, obs, beq_self_eq_true, nT, cF, beq_self_eq_true, nT, cF]
end Go.Proofs.YtnhibkgoinnmcaaDoor.Ev
