/- Winding numbers: what the program and the reference count. -/
import Derived.Test.YtcmihlhmeonmfaaCPuWay
namespace Go.Proofs.Ytcmihlhmeonmfaa.Ev
open Go
set_option linter.unusedVariables false
set_option linter.unusedSimpArgs false

theorem s_l8Next {l : List P2} {k : Nat} {q : P2} (h : k < l.length) (hq : l[(k + 1) % l.length]? = some q) (hs : Short l) : F_s_l8Next l (k : Int) = some q := by
  unfold F_s_l8Next
  unfold Short at hs
  have : ((l.length : Int) == 0) = false := by simp; intro h2; rw [h2] at h; simp at h
  simp only [this, cond_false]
  rw [wrap1 (by omega), Int.tmod_eq_emod_of_nonneg (by omega)]
  have e : (((k + 1 : Nat) : Int) % (l.length : Int)) = (((k + 1) % l.length : Nat) : Int) := by simp
  rw [e, getI_nat, hq]
  rfl

def onWay (l : List P2) (p : P2) : Bool := (ring l).any fun s => onSeg s.1 s.2 p

theorem any_all {α : Type} (l : List α) (f : α → Bool) : l.any f = !(l.all fun a => !f a) := by
  induction l with
  | nil => rfl
  | cons a l ih => simp only [List.any_cons, List.all_cons, ih]; cases f a <;> simp

theorem lt_ring {l : List P2} {k : Nat} {s : P2 × P2} (h : (ring l)[k]? = some s) : decide ((k : Int) < (l.length : Int)) = true := by have := (ring_get h).1; simpa using this

theorem i_onWay {l : List P2} {p : P2} (hg : ∀ q ∈ l, goodPt q = true) (hp : goodPt p = true) (hl : Short l) : F_i_onWay l p = some (onWay l p) := by
  unfold F_i_onWay
  have hl' := hl
  unfold Short at hl'
  have key := all_loop (l := ring l) (body := fun (s : ((Int × Int) × ((List (Int × Int)) × ((List (Int × Int)) × (Int × Int))))) => B_i_onWay_0 s.1 s.2.1 s.2.2.1 s.2.2.2.1 s.2.2.2.2)
    (st := fun k => ((p.1, p.2), (l, (l, ((l.length : Int), (k : Int)))))) (p := fun s => !onSeg s.1 s.2 p) (fin := .inl ()) (bad := fun k => .inr true)
    (fun k s hk hs => by
      obtain ⟨g1, g2, g3⟩ := ring_get hk
      have hm := ring_mem (List.mem_of_getElem? hk)
      simp only [Bool.not_eq_true'] at hs
      unfold B_i_onWay_0
      simp only [lt_dec g2, cond_true, getI_nat, g2, g3, i_after g1 hl, Option.bind_some, i_isOn (hg _ hm.1) (hg _ hm.2) hp, hs, cond_false, wrap1 (show k < 4611686018427387904 by omega)])
    (fun k s hk hs => by
      obtain ⟨g1, g2, g3⟩ := ring_get hk
      have hm := ring_mem (List.mem_of_getElem? hk)
      simp only [Bool.not_eq_false'] at hs
      unfold B_i_onWay_0
      simp only [lt_dec g2, cond_true, getI_nat, g2, g3, i_after g1 hl, Option.bind_some, i_isOn (hg _ hm.1) (hg _ hm.2) hp, hs])
    (by unfold B_i_onWay_0; simp only [ring_len, ge_dec, cond_false])
  rw [show ((0 : Nat) : Int) = 0 from rfl] at key
  unfold onWay
  rw [any_all]
  cases hall : (ring l).all fun s => !onSeg s.1 s.2 p with
  | true => rw [key.1 hall]; rfl
  | false => obtain ⟨k, _, h⟩ := key.2 hall; rw [h]; rfl

theorem s_l9On {l : List P2} {p : P2} (hg : ∀ q ∈ l, goodPt q = true) (hp : goodPt p = true) (hl : Short l) : F_s_l9On l p = some (onWay l p) := by
  unfold F_s_l9On
  have hl' := hl
  unfold Short at hl'
  have key := all_loop (l := ring l) (body := fun (s : ((Int × Int) × ((List (Int × Int)) × ((List (Int × Int)) × (Int × Int))))) => B_s_l9On_0 s.1 s.2.1 s.2.2.1 s.2.2.2.1 s.2.2.2.2)
    (st := fun k => ((p.1, p.2), (l, (l, ((l.length : Int), (k : Int)))))) (p := fun s => !onSeg s.1 s.2 p) (fin := .inl ()) (bad := fun k => .inr true)
    (fun k s hk hs => by
      obtain ⟨g1, g2, g3⟩ := ring_get hk
      have hm := ring_mem (List.mem_of_getElem? hk)
      simp only [Bool.not_eq_true'] at hs
      unfold B_s_l9On_0
      simp only [lt_dec g2, cond_true, getI_nat, g2, s_l8Next g1 g3 hl, Option.bind_some, s_l8On (hg _ hm.1) (hg _ hm.2) hp, hs, cond_false, wrap1 (show k < 4611686018427387904 by omega)])
    (fun k s hk hs => by
      obtain ⟨g1, g2, g3⟩ := ring_get hk
      have hm := ring_mem (List.mem_of_getElem? hk)
      simp only [Bool.not_eq_false'] at hs
      unfold B_s_l9On_0
      simp only [lt_dec g2, cond_true, getI_nat, g2, s_l8Next g1 g3 hl, Option.bind_some, s_l8On (hg _ hm.1) (hg _ hm.2) hp, hs])
    (by unfold B_s_l9On_0; simp only [ring_len, ge_dec, cond_false])
  rw [show ((0 : Nat) : Int) = 0 from rfl] at key
  unfold onWay
  rw [any_all]
  cases hall : (ring l).all fun s => !onSeg s.1 s.2 p with
  | true => rw [key.1 hall]; rfl
  | false => obtain ⟨k, _, h⟩ := key.2 hall; rw [h]; rfl

/-- What a side counts: up on the left, down on the right. -/
def wnd (p a b : P2) : Int := if a.2 ≤ p.2 ∧ p.2 < b.2 ∧ orient a b p = 1 then 1 else if p.2 < a.2 ∧ b.2 ≤ p.2 ∧ orient a b p = -1 then -1 else 0
def crs (p a b : P2) : Int := if wnd p a b = 0 then 0 else 1
def winding (l : List P2) (p : P2) : Int := tot (fun s : P2 × P2 => wnd p s.1 s.2) (ring l)
def crossings (l : List P2) (p : P2) : Int := tot (fun s : P2 × P2 => crs p s.1 s.2) (ring l)
theorem wnd_bound (p a b : P2) : -1 ≤ wnd p a b ∧ wnd p a b ≤ 1 := by unfold wnd; split <;> (try split) <;> omega
theorem crs_bound (p a b : P2) : -1 ≤ crs p a b ∧ crs p a b ≤ 1 := by unfold crs; split <;> omega

theorem winding_take {l : List P2} {p : P2} (hl : Short l) (k : Nat) : (-1099511627776 ≤ tot (fun s : P2 × P2 => wnd p s.1 s.2) ((ring l).take k) ∧ tot (fun s : P2 × P2 => wnd p s.1 s.2) ((ring l).take k) ≤ 1099511627776) ∧
    (-1099511627776 ≤ tot (fun s : P2 × P2 => crs p s.1 s.2) ((ring l).take k) ∧ tot (fun s : P2 × P2 => crs p s.1 s.2) ((ring l).take k) ≤ 1099511627776) := by
  unfold Short at hl
  have h1 := tot_take_bound (f := fun s : P2 × P2 => wnd p s.1 s.2) (B := 1) (by omega) (l := ring l) (fun a _ => wnd_bound p a.1 a.2) k
  have h2 := tot_take_bound (f := fun s : P2 × P2 => crs p s.1 s.2) (B := 1) (by omega) (l := ring l) (fun a _ => crs_bound p a.1 a.2) k
  rw [ring_len] at h1 h2
  omega

theorem i_turns {l : List P2} {p : P2} (hg : ∀ q ∈ l, goodPt q = true) (hp : goodPt p = true) (hl : Short l) : F_i_turns l p = some (winding l p, crossings l p) := by
  unfold F_i_turns
  have hlen : (ring l).length = l.length := ring_len l
  have hall : (ring l).take (ring l).length = ring l := List.take_length
  obtain ⟨h1, h2⟩ := fold_loop (l := ring l) (body := fun (s : ((Int × Int) × ((List (Int × Int)) × (Int × (Int × ((List (Int × Int)) × (Int × Int))))))) => B_i_turns_0 s.1 s.2.1 s.2.2.1 s.2.2.2.1 s.2.2.2.2.1 s.2.2.2.2.2.1 s.2.2.2.2.2.2)
    (st := fun k (b : Int × Int) => ((p.1, p.2), (l, (b.1, (b.2, (l, ((l.length : Int), (k : Int)))))))) (step := fun b s => (b.1 + wnd p s.1 s.2, b.2 + crs p s.1 s.2)) (fin := fun b => b)
    (I := fun k b => b = (tot (fun s : P2 × P2 => wnd p s.1 s.2) ((ring l).take k), tot (fun s : P2 × P2 => crs p s.1 s.2) ((ring l).take k)))
    (by
      rintro k b s hk rfl
      have hm := ring_mem (List.mem_of_getElem? hk)
      obtain ⟨g1, g2, g3⟩ := ring_get hk
      have hb := winding_take (p := p) hl k
      have hl' := hl
      unfold Short at hl'
      have e1 := tot_snoc_take (fun s : P2 × P2 => wnd p s.1 s.2) hk
      have e2 := tot_snoc_take (fun s : P2 × P2 => crs p s.1 s.2) hk
      refine ⟨?_, by rw [e1, e2]⟩
      generalize tot (fun s : P2 × P2 => wnd p s.1 s.2) ((ring l).take k) = w at hb
      generalize tot (fun s : P2 × P2 => crs p s.1 s.2) ((ring l).take k) = cr at hb
      unfold B_i_turns_0
      simp only [lt_dec g2, cond_true, getI_nat, g2, g3, i_after g1 hl, Option.bind_some, i_orient (hg _ hm.1) (hg _ hm.2) hp, wrap1 (show k < 4611686018427387904 by omega),
        wrapI (show -9223372036854775808 ≤ w + 1 by omega) (show w + 1 ≤ 9223372036854775807 by omega), wrapI (show -9223372036854775808 ≤ w - 1 by omega) (show w - 1 ≤ 9223372036854775807 by omega), wrapI (show -9223372036854775808 ≤ cr + 1 by omega) (show cr + 1 ≤ 9223372036854775807 by omega)]
      unfold crs wnd
      by_cases c1 : s.1.2 ≤ p.2
      · have c1' : ¬ p.2 < s.1.2 := by omega
        by_cases c2 : p.2 < s.2.2
        · by_cases c3 : orient s.1 s.2 p = 1
          · simp [c1, c1', c2, c3]
          · have c4 : (orient s.1 s.2 p == 1) = false := by simpa using c3
            simp [c1, c1', c2, c3, c4]
        · simp [c1, c1', c2]
      · have c1' : p.2 < s.1.2 := by omega
        by_cases c2 : s.2.2 ≤ p.2
        · by_cases c3 : orient s.1 s.2 p = -1
          · simp [c1, c1', c2, c3]; omega
          · have c4 : (orient s.1 s.2 p == -1) = false := by simpa using c3
            simp [c1, c1', c2, c3, c4]
        · simp [c1, c1', c2])
    (by
      rintro b rfl
      unfold B_i_turns_0
      rw [hlen]
      simp only [ge_dec, cond_false]) (0, 0) rfl
  have h0 : ((0 : Nat) : Int) = 0 := rfl
  rw [h0] at h1
  rw [h2, hall] at h1
  rw [h1]
  rfl

theorem s_l9Winding {l : List P2} {p : P2} (hg : ∀ q ∈ l, goodPt q = true) (hp : goodPt p = true) (hl : Short l) : F_s_l9Winding l p = some (winding l p) := by
  unfold F_s_l9Winding
  have hlen : (ring l).length = l.length := ring_len l
  have hall : (ring l).take (ring l).length = ring l := List.take_length
  obtain ⟨h1, h2⟩ := fold_loop (l := ring l) (body := fun (s : ((Int × Int) × ((List (Int × Int)) × (Int × ((List (Int × Int)) × (Int × Int)))))) => B_s_l9Winding_0 s.1 s.2.1 s.2.2.1 s.2.2.2.1 s.2.2.2.2.1 s.2.2.2.2.2)
    (st := fun k (b : Int) => ((p.1, p.2), (l, (b, (l, ((l.length : Int), (k : Int))))))) (step := fun b s => b + wnd p s.1 s.2) (fin := fun b => b)
    (I := fun k b => b = tot (fun s : P2 × P2 => wnd p s.1 s.2) ((ring l).take k))
    (by
      rintro k b s hk rfl
      have hm := ring_mem (List.mem_of_getElem? hk)
      obtain ⟨g1, g2, g3⟩ := ring_get hk
      have hb := winding_take (p := p) hl k
      have hl' := hl
      unfold Short at hl'
      have e1 := tot_snoc_take (fun s : P2 × P2 => wnd p s.1 s.2) hk
      refine ⟨?_, by rw [e1]⟩
      generalize tot (fun s : P2 × P2 => wnd p s.1 s.2) ((ring l).take k) = w at hb
      unfold B_s_l9Winding_0
      simp only [lt_dec g2, cond_true, getI_nat, g2, s_l8Next g1 g3 hl, Option.bind_some, s_l8Orient (hg _ hm.1) (hg _ hm.2) hp, wrap1 (show k < 4611686018427387904 by omega),
        wrapI (show -9223372036854775808 ≤ w + 1 by omega) (show w + 1 ≤ 9223372036854775807 by omega), wrapI (show -9223372036854775808 ≤ w - 1 by omega) (show w - 1 ≤ 9223372036854775807 by omega)]
      unfold wnd
      by_cases c1 : s.1.2 ≤ p.2
      · have c1' : ¬ p.2 < s.1.2 := by omega
        by_cases c2 : p.2 < s.2.2
        · by_cases c3 : orient s.1 s.2 p = 1
          · simp [c1, c1', c2, c3]
          · have c4 : (orient s.1 s.2 p == 1) = false := by simpa using c3
            simp [c1, c1', c2, c3, c4]
        · simp [c1, c1', c2]
      · have c1' : p.2 < s.1.2 := by omega
        by_cases c2 : s.2.2 ≤ p.2
        · by_cases c3 : orient s.1 s.2 p = -1
          · simp [c1, c1', c2, c3]; omega
          · have c4 : (orient s.1 s.2 p == -1) = false := by simpa using c3
            simp [c1, c1', c2, c3, c4]
        · simp [c1, c1', c2])
    (by
      rintro b rfl
      unfold B_s_l9Winding_0
      rw [hlen]
      simp only [ge_dec, cond_false]) 0 rfl
  have h0 : ((0 : Nat) : Int) = 0 := rfl
  rw [h0] at h1
  rw [h2, hall] at h1
  rw [h1]
  rfl

theorem i_isOff {l : List P2} {p : P2} (hl : Short l) : F_i_isOff l p = some (isWay l && goodPt p && !onWay l p) := by
  unfold F_i_isOff
  simp only [i_isWay hl, Option.bind_some, i_GoodPt]
  cases hw : isWay l with
  | false => rfl
  | true =>
    cases hp : goodPt p with
    | false => rfl
    | true =>
      have := isWay_iff.1 hw
      simp only [cond_true, i_onWay this.2 hp hl, Option.bind_some, Bool.true_and]

theorem i_WindingAt {l : List P2} {p : P2} (hl : Short l) : F_i_WindingAt l p = some (if (isWay l && goodPt p && !onWay l p) = true then (winding l p, true) else (0, false)) := by
  unfold F_i_WindingAt
  simp only [i_isOff hl, Option.bind_some]
  cases h : (isWay l && goodPt p && !onWay l p) with
  | false => rfl
  | true =>
    simp only [Bool.and_eq_true] at h
    have := isWay_iff.1 h.1.1
    simp only [Bool.not_true, cond_false, i_turns this.2 h.1.2 hl, Option.bind_some]
    rfl

/-! ### boxes -/
def boxStep (b : P2 × P2) (q : P2) : P2 × P2 := ((min b.1.1 q.1, min b.1.2 q.2), (max b.2.1 q.1, max b.2.2 q.2))
def boxR (l : List P2) : P2 × P2 := match l with | [] => ((0, 0), (0, 0)) | q :: _ => l.foldl boxStep (q, q)

theorem box_good {l : List P2} (hg : ∀ q ∈ l, goodPt q = true) : ∀ {b : P2 × P2}, goodPt b.1 = true → goodPt b.2 = true → goodPt (l.foldl boxStep b).1 = true ∧ goodPt (l.foldl boxStep b).2 = true := by
  induction l with
  | nil => intro b h1 h2; exact ⟨h1, h2⟩
  | cons q l ih =>
    intro b h1 h2
    have hq := hg q (List.mem_cons_self ..)
    refine ih (fun r hr => hg r (List.mem_cons_of_mem _ hr)) ?_ ?_
    · rw [goodPt_iff] at h1 hq ⊢
      simp only [boxStep]
      omega
    · rw [goodPt_iff] at h2 hq ⊢
      simp only [boxStep]
      omega
theorem boxR_good {l : List P2} (hg : ∀ q ∈ l, goodPt q = true) : goodPt (boxR l).1 = true ∧ goodPt (boxR l).2 = true := by
  cases l with
  | nil => exact ⟨by decide, by decide⟩
  | cons q l => exact box_good hg (hg q (List.mem_cons_self ..)) (hg q (List.mem_cons_self ..))

theorem i_boxOf {l : List P2} (hl : Short l) (h0 : l ≠ []) : F_i_boxOf l = some (boxR l) := by
  obtain ⟨q, t, rfl⟩ := List.exists_cons_of_ne_nil h0
  unfold F_i_boxOf
  have hm : ∀ x y : Int, minL [x, y] = min x y := by intro x y; simp only [minL, List.foldl]; split <;> omega
  have hM : ∀ x y : Int, maxL [x, y] = max x y := by intro x y; simp only [maxL, List.foldl]; split <;> omega
  obtain ⟨h1, _⟩ := fold_loop (l := q :: t) (body := fun (s : ((Int × Int) × ((Int × Int) × ((Int × Int) × ((Int × Int) × ((List (Int × Int)) × (Int × Int))))))) => B_i_boxOf_0 s.1 s.2.1 s.2.2.1 s.2.2.2.1 s.2.2.2.2.1 s.2.2.2.2.2.1 s.2.2.2.2.2.2)
    (st := fun k (b : P2 × P2) => ((0, 0), ((0, 0), ((b.1.1, b.1.2), ((b.2.1, b.2.2), (q :: t, (((q :: t).length : Int), (k : Int)))))))) (step := boxStep) (fin := fun b => ((0, 0), ((0, 0), ((b.1.1, b.1.2), (b.2.1, b.2.2))))) (I := fun _ _ => True)
    (by
      rintro k b r hk -
      have hkl := getL hk
      unfold Short at hl
      unfold B_i_boxOf_0
      simp only [lt_dec hk, cond_true, getI_nat, hk, Option.bind_some, hm, hM, wrap1 (show k < 4611686018427387904 by omega)]
      exact ⟨rfl, trivial⟩)
    (by
      rintro b -
      unfold B_i_boxOf_0
      simp only [ge_dec, cond_false]) (q, q) trivial
  rw [show ((0 : Nat) : Int) = 0 from rfl] at h1
  have hq : getI (q :: t) 0 = some q := rfl
  rw [hq]
  simp only [Option.bind_some]
  rw [h1]
  rfl

theorem s_l9Box {l : List P2} (hl : Short l) (h0 : l ≠ []) : F_s_l9Box l = some (boxR l) := by
  obtain ⟨q, t, rfl⟩ := List.exists_cons_of_ne_nil h0
  unfold F_s_l9Box
  obtain ⟨h1, _⟩ := fold_loop (l := q :: t) (body := fun (s : ((Int × Int) × ((Int × Int) × ((Int × Int) × ((Int × Int) × ((List (Int × Int)) × (Int × Int))))))) => B_s_l9Box_0 s.1 s.2.1 s.2.2.1 s.2.2.2.1 s.2.2.2.2.1 s.2.2.2.2.2.1 s.2.2.2.2.2.2)
    (st := fun k (b : P2 × P2) => ((0, 0), ((0, 0), ((b.1.1, b.1.2), ((b.2.1, b.2.2), (q :: t, (((q :: t).length : Int), (k : Int)))))))) (step := boxStep) (fin := fun b => ((0, 0), ((0, 0), ((b.1.1, b.1.2), (b.2.1, b.2.2))))) (I := fun _ _ => True)
    (by
      rintro k b r hk -
      have hkl := getL hk
      unfold Short at hl
      refine ⟨?_, trivial⟩
      have hw1 := wrap1 (show k < 4611686018427387904 by omega)
      unfold B_s_l9Box_0 boxStep
      simp only [lt_dec hk, cond_true, getI_nat, hk, Option.bind_some, wrap1 (show k < 4611686018427387904 by omega)]
      by_cases c1 : r.1 < b.1.1
      · rw [decide_eq_true c1, Int.min_eq_right (by omega)]
        simp only [cond_true, Option.bind_some, Sum.elim_inr]
        by_cases c2 : r.2 < b.1.2
        · rw [decide_eq_true c2, Int.min_eq_right (by omega)]
          simp only [cond_true, Option.bind_some, Sum.elim_inr]
          by_cases c3 : r.1 > b.2.1
          · rw [decide_eq_true c3, Int.max_eq_right (by omega)]
            simp only [cond_true, Option.bind_some, Sum.elim_inr]
            by_cases c4 : r.2 > b.2.2
            · rw [decide_eq_true c4, Int.max_eq_right (by omega)]; simp only [cond_true, cond_false, hw1]
            · rw [decide_eq_false c4, Int.max_eq_left (by omega)]; simp only [cond_true, cond_false, hw1]
          · rw [decide_eq_false c3, Int.max_eq_left (by omega)]
            simp only [cond_false, Option.bind_some, Sum.elim_inr]
            by_cases c4 : r.2 > b.2.2
            · rw [decide_eq_true c4, Int.max_eq_right (by omega)]; simp only [cond_true, cond_false, hw1]
            · rw [decide_eq_false c4, Int.max_eq_left (by omega)]; simp only [cond_true, cond_false, hw1]
        · rw [decide_eq_false c2, Int.min_eq_left (by omega)]
          simp only [cond_false, Option.bind_some, Sum.elim_inr]
          by_cases c3 : r.1 > b.2.1
          · rw [decide_eq_true c3, Int.max_eq_right (by omega)]
            simp only [cond_true, Option.bind_some, Sum.elim_inr]
            by_cases c4 : r.2 > b.2.2
            · rw [decide_eq_true c4, Int.max_eq_right (by omega)]; simp only [cond_true, cond_false, hw1]
            · rw [decide_eq_false c4, Int.max_eq_left (by omega)]; simp only [cond_true, cond_false, hw1]
          · rw [decide_eq_false c3, Int.max_eq_left (by omega)]
            simp only [cond_false, Option.bind_some, Sum.elim_inr]
            by_cases c4 : r.2 > b.2.2
            · rw [decide_eq_true c4, Int.max_eq_right (by omega)]; simp only [cond_true, cond_false, hw1]
            · rw [decide_eq_false c4, Int.max_eq_left (by omega)]; simp only [cond_true, cond_false, hw1]
      · rw [decide_eq_false c1, Int.min_eq_left (by omega)]
        simp only [cond_false, Option.bind_some, Sum.elim_inr]
        by_cases c2 : r.2 < b.1.2
        · rw [decide_eq_true c2, Int.min_eq_right (by omega)]
          simp only [cond_true, Option.bind_some, Sum.elim_inr]
          by_cases c3 : r.1 > b.2.1
          · rw [decide_eq_true c3, Int.max_eq_right (by omega)]
            simp only [cond_true, Option.bind_some, Sum.elim_inr]
            by_cases c4 : r.2 > b.2.2
            · rw [decide_eq_true c4, Int.max_eq_right (by omega)]; simp only [cond_true, cond_false, hw1]
            · rw [decide_eq_false c4, Int.max_eq_left (by omega)]; simp only [cond_true, cond_false, hw1]
          · rw [decide_eq_false c3, Int.max_eq_left (by omega)]
            simp only [cond_false, Option.bind_some, Sum.elim_inr]
            by_cases c4 : r.2 > b.2.2
            · rw [decide_eq_true c4, Int.max_eq_right (by omega)]; simp only [cond_true, cond_false, hw1]
            · rw [decide_eq_false c4, Int.max_eq_left (by omega)]; simp only [cond_true, cond_false, hw1]
        · rw [decide_eq_false c2, Int.min_eq_left (by omega)]
          simp only [cond_false, Option.bind_some, Sum.elim_inr]
          by_cases c3 : r.1 > b.2.1
          · rw [decide_eq_true c3, Int.max_eq_right (by omega)]
            simp only [cond_true, Option.bind_some, Sum.elim_inr]
            by_cases c4 : r.2 > b.2.2
            · rw [decide_eq_true c4, Int.max_eq_right (by omega)]; simp only [cond_true, cond_false, hw1]
            · rw [decide_eq_false c4, Int.max_eq_left (by omega)]; simp only [cond_true, cond_false, hw1]
          · rw [decide_eq_false c3, Int.max_eq_left (by omega)]
            simp only [cond_false, Option.bind_some, Sum.elim_inr]
            by_cases c4 : r.2 > b.2.2
            · rw [decide_eq_true c4, Int.max_eq_right (by omega)]; simp only [cond_true, cond_false, hw1]
            · rw [decide_eq_false c4, Int.max_eq_left (by omega)]; simp only [cond_true, cond_false, hw1])
    (by
      rintro b -
      unfold B_s_l9Box_0
      simp only [ge_dec, cond_false]) (q, q) trivial
  rw [show ((0 : Nat) : Int) = 0 from rfl] at h1
  have hq : getI (q :: t) 0 = some q := rfl
  rw [hq]
  simp only [Option.bind_some]
  rw [h1]
  rfl
end Go.Proofs.Ytcmihlhmeonmfaa.Ev
