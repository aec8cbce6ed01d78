/- Whatever comes in, the law of this claim answers true, and nothing that was handed in changes. -/
import Derived.Test.YtgfchmagglhohaaGreatDoorKD
import Derived.Lib.Strings
import Derived.Test.YtgfchmagglhohaaGreatDoorRows
import Derived.Test.YtgfchmagglhohaaGreatDoorCards
import Derived.Test.YtgfchmagglhohaaGreatDoorTie
import Derived.WalkKit
import Derived.ProofKit
import Derived.OpenShut
import Derived.ShutString
import Derived.ChangeOld
import Derived.Below
import Derived.SizedLaws
import Derived.SevenTiedAt
import Derived.LaidMore
import Derived.Lay
import Derived.Stop.Joined
import Derived.Test.YtgfchmagglhohaaGreatDoorChecked
section
namespace Go.Proofs.YtgfchmagglhohaaGreatDoor.Ev
open Go
set_option linter.unusedVariables false
set_option linter.unusedSimpArgs false
set_option linter.unusedSectionVars false
def cmpZ (a b : Int) : Int := if a < b then -1 else if b < a then 1 else 0
theorem Cx {a b : Int} (h : a < b) : cmpZ a b = -1 := by unfold cmpZ; rw [if_pos h]
theorem Dh {a b : Int} (h : b < a) : cmpZ a b = 1 := by unfold cmpZ; rw [if_neg (by omega), if_pos h]
theorem FK (a : Int) : cmpZ a a = 0 := by unfold cmpZ; simp
theorem Bk (a b : Int) : (cmpZ a b = -1 ∧ a < b) ∨ (cmpZ a b = 1 ∧ b < a) ∨ (cmpZ a b = 0 ∧ a = b) := by unfold cmpZ; split <;> (try split) <;> omega
theorem J2 (a b : Int) : AX a b = some (cmpZ a b) := by
  unfold AX B1 cmpZ
  by_cases h1 : a < b <;> by_cases h2 : b < a <;> simp [h1, h2]
theorem Q1 {k : Nat} {d : Int} (h : d ≤ -1) : B k * d ≤ - B k := by
  have := Int.mul_le_mul_of_nonneg_left h (Int.le_of_lt (DX k))
  omega
theorem Tr {l m : List Int} (hl : LB l) (hm : LB m) {k : Nat} {x y : Int} (hx : l[k]? = some x) (hy : m[k]? = some y) (hd : l.drop (k + 1) = m.drop (k + 1)) : (x < y → val l < val m) ∧ (y < x → val m < val l) := by
  have kl := getL hx
  have km := getL hy
  have e1 := Kf l k (by omega)
  have e2 := Kf m k (by omega)
  have d1 : l.drop k = x :: l.drop (k + 1) := by rw [List.drop_eq_getElem_cons kl]; congr 1; rw [List.getElem?_eq_getElem kl] at hx; exact Option.some.inj hx
  have d2 : m.drop k = y :: m.drop (k + 1) := by rw [List.drop_eq_getElem_cons km]; congr 1; rw [List.getElem?_eq_getElem km] at hy; exact Option.some.inj hy
  rw [d1] at e1
  rw [d2, ← hd] at e2
  simp only [val] at e1 e2
  have t1 := Ap (hl.take k)
  have t2 := Ap (hm.take k)
  have t3 := F7 (hl.take k)
  have t4 := F7 (hm.take k)
  rw [List.length_take, Nat.min_eq_left (by omega)] at t3 t4
  rw [Int.mul_add] at e1 e2
  constructor
  · intro h
    have := Q1 (k := k) (show x - y ≤ -1 by omega)
    rw [Int.mul_sub] at this
    omega
  · intro h
    have := Q1 (k := k) (show y - x ≤ -1 by omega)
    rw [Int.mul_sub] at this
    omega
theorem LT {a b : Nat} : ((lim a).length < (lim b).length → a < b) := by
  intro h
  rcases Nat.lt_or_ge a b with h1 | h1
  · exact h1
  · exfalso
    have h2 := (Af (n := a) (k := (lim a).length)).1 (Nat.le_refl _)
    have := (Af (n := b) (k := (lim a).length)).2 (by omega)
    omega
section
variable {l m : List Int} (hl : LB l) (hm : LB m) (hlen : l.length = m.length) (hb : Brief l)
include hl hm hlen hb
theorem Sg : (val l = val m → loopM (fun (s : ((List Int) × ((List Int) × Int))) => AA s.1 s.2.1 s.2.2) (l, (m, (l.length : Int) - 1)) = some (.inl ())) ∧
    (val l ≠ val m → loopM (fun (s : ((List Int) × ((List Int) × Int))) => AA s.1 s.2.1 s.2.2) (l, (m, (l.length : Int) - 1)) = some (.inr (cmpZ (val l) (val m)))) := by
  unfold Brief at hb
  have key : ∀ (n : Nat), n ≤ l.length → l.drop n = m.drop n → (l = m → loopM (fun (s : ((List Int) × ((List Int) × Int))) => AA s.1 s.2.1 s.2.2) (l, (m, (n : Int) - 1)) = some (.inl ())) ∧ (l ≠ m → loopM (fun (s : ((List Int) × ((List Int) × Int))) => AA s.1 s.2.1 s.2.2) (l, (m, (n : Int) - 1)) = some (.inr (cmpZ (val l) (val m))) ∧ val l ≠ val m) := by
    intro n
    induction n with
    | zero =>
      intro _ h
      simp only [List.drop_zero] at h
      refine ⟨fun _ => Aw rfl, fun hn => absurd h hn⟩
    | succ n ih =>
      intro hn h
      have k1 : n < l.length := by omega
      have k2 : n < m.length := by omega
      have hx : l[n]? = some l[n] := List.getElem?_eq_getElem k1
      have hy : m[n]? = some m[n] := List.getElem?_eq_getElem k2
      have hs : ((n + 1 : Nat) : Int) - 1 = (n : Int) := by omega
      rw [hs]
      by_cases he : l[n] = m[n]
      · have hd : l.drop n = m.drop n := by rw [List.drop_eq_getElem_cons k1, List.drop_eq_getElem_cons k2, he, h]
        have hstep : AA l m (n : Int) = some (.inl (l, (m, (n : Int) - 1))) := by
          unfold AA
          rw [decide_eq_true (show (n : Int) ≥ 0 by omega), Al, Al, hx, hy, wrapI (by omega) (by omega)]
          simp only [cond_true, Option.bind_some, he, bne_self_eq_false, cond_false]
        obtain ⟨i1, i2⟩ := ih (by omega) hd
        exact ⟨fun hh => by rw [Bx hstep]; exact i1 hh, fun hh => by rw [Bx hstep]; exact i2 hh⟩
      · obtain ⟨c1, c2⟩ := Tr hl hm hx hy h
        have hne : l ≠ m := fun hh => he (by subst hh; rfl)
        have hc : cmpZ l[n] m[n] = cmpZ (val l) (val m) := by
          rcases Int.lt_or_gt_of_ne he with h1 | h1
          · rw [Cx h1, Cx (c1 h1)]
          · rw [Dh h1, Dh (c2 h1)]
        have hstep : AA l m (n : Int) = some (.inr (.inr (cmpZ (val l) (val m)))) := by
          unfold AA
          rw [decide_eq_true (show (n : Int) ≥ 0 by omega), Al, Al, hx, hy]
          have hb : (l[n] != m[n]) = true := by simpa using he
          simp only [cond_true, Option.bind_some, hb, J2, hc]
        refine ⟨fun hh => absurd hh hne, fun _ => ⟨Aw hstep, ?_⟩⟩
        rcases Int.lt_or_gt_of_ne he with h1 | h1
        · have := c1 h1; omega
        · have := c2 h1; omega
  obtain ⟨h1, h2⟩ := key l.length (Nat.le_refl _) (by rw [List.drop_length, hlen, List.drop_length])
  constructor
  · intro hv
    by_cases he : l = m
    · exact h1 he
    · exact absurd hv (h2 he).2
  · intro hv
    exact (h2 fun he => hv (by rw [he])).1
theorem Sw : (val l = val m → loopM (fun (s : ((List Int) × ((List Int) × Int))) => BH s.1 s.2.1 s.2.2) (l, (m, (l.length : Int) - 1)) = some (.inl ())) ∧
    (val l ≠ val m → loopM (fun (s : ((List Int) × ((List Int) × Int))) => BH s.1 s.2.1 s.2.2) (l, (m, (l.length : Int) - 1)) = some (.inr (cmpZ (val l) (val m)))) := by
  unfold Brief at hb
  have key : ∀ (n : Nat), n ≤ l.length → l.drop n = m.drop n → (l = m → loopM (fun (s : ((List Int) × ((List Int) × Int))) => BH s.1 s.2.1 s.2.2) (l, (m, (n : Int) - 1)) = some (.inl ())) ∧ (l ≠ m → loopM (fun (s : ((List Int) × ((List Int) × Int))) => BH s.1 s.2.1 s.2.2) (l, (m, (n : Int) - 1)) = some (.inr (cmpZ (val l) (val m))) ∧ val l ≠ val m) := by
    intro n
    induction n with
    | zero =>
      intro _ h
      simp only [List.drop_zero] at h
      refine ⟨fun _ => Aw rfl, fun hn => absurd h hn⟩
    | succ n ih =>
      intro hn h
      have k1 : n < l.length := by omega
      have k2 : n < m.length := by omega
      have hx : l[n]? = some l[n] := List.getElem?_eq_getElem k1
      have hy : m[n]? = some m[n] := List.getElem?_eq_getElem k2
      have hs : ((n + 1 : Nat) : Int) - 1 = (n : Int) := by omega
      rw [hs]
      by_cases he : l[n] = m[n]
      · have hd : l.drop n = m.drop n := by rw [List.drop_eq_getElem_cons k1, List.drop_eq_getElem_cons k2, he, h]
        have hstep : BH l m (n : Int) = some (.inl (l, (m, (n : Int) - 1))) := by
          unfold BH
          rw [decide_eq_true (show (n : Int) ≥ 0 by omega), Al, Al, hx, hy, wrapI (by omega) (by omega)]
          simp only [cond_true, Option.bind_some, he]
          rw [decide_eq_false (Int.lt_irrefl _)]
          rfl
        obtain ⟨i1, i2⟩ := ih (by omega) hd
        exact ⟨fun hh => by rw [Bx hstep]; exact i1 hh, fun hh => by rw [Bx hstep]; exact i2 hh⟩
      · obtain ⟨c1, c2⟩ := Tr hl hm hx hy h
        have hne : l ≠ m := fun hh => he (by subst hh; rfl)
        have hstep : BH l m (n : Int) = some (.inr (.inr (cmpZ (val l) (val m)))) := by
          unfold BH
          rw [decide_eq_true (show (n : Int) ≥ 0 by omega), Al, Al, hx, hy]
          simp only [cond_true, Option.bind_some]
          rcases Int.lt_or_gt_of_ne he with h1 | h1
          · rw [decide_eq_true h1, Cx (c1 h1)]; rfl
          · rw [decide_eq_false (by omega), decide_eq_true h1, Dh (c2 h1)]; rfl
        refine ⟨fun hh => absurd hh hne, fun _ => ⟨Aw hstep, ?_⟩⟩
        rcases Int.lt_or_gt_of_ne he with h1 | h1
        · have := c1 h1; omega
        · have := c2 h1; omega
  obtain ⟨h1, h2⟩ := key l.length (Nat.le_refl _) (by rw [List.drop_length, hlen, List.drop_length])
  constructor
  · intro hv
    by_cases he : l = m
    · exact h1 he
    · exact absurd hv (h2 he).2
  · intro hv
    exact (h2 fun he => hv (by rw [he])).1
end
theorem EC {a b : Nat} (ha : Brief (lim a)) (hb : Brief (lim b)) : AU (lim a) (lim b) = some (cmpZ a b) := by
  unfold AU
  have ha' := ha
  have hb' := hb
  unfold Brief at ha' hb'
  by_cases h : (lim a).length = (lim b).length
  · have e : ((((lim a).length : Nat) : Int) != (((lim b).length : Nat) : Int)) = false := by simp [h]
    rw [e, wrapI (by omega) (by omega)]
    simp only [cond_false]
    obtain ⟨h1, h2⟩ := Sg (Ar a) (Ar b) h ha
    rw [Ai, Ai] at h1 h2
    by_cases hv : (a : Int) = b
    · rw [h1 hv, hv, FK]; rfl
    · rw [h2 hv]; rfl
  · have e : ((((lim a).length : Nat) : Int) != (((lim b).length : Nat) : Int)) = true := by simp; omega
    rw [e]
    simp only [cond_true, J2, Option.bind_some]
    rcases Nat.lt_or_gt_of_ne h with h1 | h1
    · have := LT h1
      rw [Cx (by omega), Cx (by omega)]
    · have := LT h1
      rw [Dh (by omega), Dh (by omega)]
theorem LS {a b : Nat} (ha : Brief (lim a)) (hb : Brief (lim b)) : Bh (lim a) (lim b) = some (cmpZ a b) := by
  unfold Bh
  have ha' := ha
  have hb' := hb
  unfold Brief at ha' hb'
  by_cases h : (lim a).length = (lim b).length
  · have e : ((((lim a).length : Nat) : Int) != (((lim b).length : Nat) : Int)) = false := by simp [h]
    rw [e, wrapI (by omega) (by omega)]
    simp only [cond_false]
    obtain ⟨h1, h2⟩ := Sw (Ar a) (Ar b) h ha
    rw [Ai, Ai] at h1 h2
    by_cases hv : (a : Int) = b
    · rw [h1 hv, hv, FK]; rfl
    · rw [h2 hv]; rfl
  · have e : ((((lim a).length : Nat) : Int) != (((lim b).length : Nat) : Int)) = true := by simp; omega
    rw [e]
    simp only [cond_true]
    rcases Nat.lt_or_gt_of_ne h with h1 | h1
    · have := LT h1
      rw [decide_eq_true (by omega), Cx (by omega)]; rfl
    · have := LT h1
      rw [decide_eq_false (by omega), Dh (by omega)]; rfl
def dg (l : List Int) (k : Nat) : Int := l.getD k 0
theorem CX {l : List Int} {k : Nat} {x : Int} (h : l[k]? = some x) : dg l k = x := by unfold dg; rw [List.getD_eq_getElem?_getD, h]; rfl
theorem D6 {l : List Int} {k : Nat} (h : l.length ≤ k) : dg l k = 0 := by unfold dg; rw [List.getD_eq_getElem?_getD, List.getElem?_eq_none h]; rfl
theorem AJ {l : List Int} (h : LB l) (k : Nat) : 0 ≤ dg l k ∧ dg l k < 65536 := by
  rcases Nat.lt_or_ge k l.length with hk | hk
  · rw [CX (List.getElem?_eq_getElem hk)]; exact h _ (List.getElem_mem _)
  · rw [D6 hk]; omega
theorem Au (l : List Int) (k : Nat) : val (l.take (k + 1)) = val (l.take k) + B k * dg l k := by
  rcases Nat.lt_or_ge k l.length with hk | hk
  · have he := List.getElem?_eq_getElem hk
    rw [List.take_add_one, he, CX he, Option.toList_some, GJ, List.length_take, Nat.min_eq_left (by omega)]
  · rw [D6 hk, List.take_of_length_le (by omega), List.take_of_length_le hk]
    omega
theorem Eu {l : List Int} (k : Nat) : Bc l (k : Int) = some (dg l k) := by
  unfold Bc
  rcases Nat.lt_or_ge k l.length with hk | hk
  · rw [decide_eq_true (by omega), Al, List.getElem?_eq_getElem hk, CX (List.getElem?_eq_getElem hk)]
    rfl
  · rw [decide_eq_false (by omega), D6 hk]
    rfl
theorem app1 {l : List Int} {x : Int} (h : l.length ≤ 100000000) : appL 8 1 l [x] = some (l ++ [x]) := T4 (by simp [maxBytes]; omega) (by simp [maxBytes]; omega)
theorem Jo {a b : List Int} (ha : LB a) (hb : LB b) (na : a.length ≤ 10000000) (nb : b.length ≤ 10000000) :
    ∃ r, BU a b = some r ∧ LB r ∧ val r = val a + val b ∧ r.length ≤ max a.length b.length + 1 ∧ (r.length ≤ max a.length b.length ∨ B (max a.length b.length) ≤ val a + val b) := by
  unfold BU
  obtain ⟨r, h1, h2⟩ := EI (f := fun (s : ((List Int) × ((List Int) × ((List Int) × (Int × Int))))) => BV s.1 s.2.1 s.2.2.1 s.2.2.2.1 s.2.2.2.2)
    (I := fun s => ∃ (k : Nat) (out : List Int) (c : Int), s = (out, (a, (b, (c, (k : Int))))) ∧ out.length = k ∧ k ≤ max a.length b.length + 1 ∧ LB out ∧ (c = 0 ∨ c = 1) ∧ (k = max a.length b.length + 1 → c = 0 ∧ B (max a.length b.length) ≤ val a + val b) ∧ val out + B k * c = val (a.take k) + val (b.take k))
    (R := fun r => LB r ∧ val r = val a + val b ∧ r.length ≤ max a.length b.length + 1 ∧ (r.length ≤ max a.length b.length ∨ B (max a.length b.length) ≤ val a + val b)) (fun s => max a.length b.length + 2 - s.1.length) (by
      rintro s ⟨k, out, c, rfl, h1, h2, h3, h4, h4', h5⟩
      simp only
      have da := AJ ha k
      have db := AJ hb k
      have go : k < max a.length b.length ∨ c = 1 → ∃ c', BV out a b c (k : Int) = some (.inl (out ++ [(dg a k + dg b k + c) % 65536], (a, (b, (c', ((k + 1 : Nat) : Int)))))) ∧ c' = (dg a k + dg b k + c) / 65536 := by
        intro hgo
        refine ⟨_, ?_, rfl⟩
        have hkk : k ≤ max a.length b.length := by rcases hgo with h | h <;> omega
        unfold BV
        have hcond : (bif decide ((k : Int) < ((a.length : Nat) : Int)) then some (Sum.inr (α := (List Int × List Int × List Int × Int × Int) ⊕ List Int) (out, (a, (b, (c, (k : Int)))))) else bif decide ((k : Int) < ((b.length : Nat) : Int)) then some (Sum.inr (out, (a, (b, (c, (k : Int)))))) else bif decide (c > 0) then some (Sum.inr (out, (a, (b, (c, (k : Int)))))) else some (Sum.inl (Sum.inr out))) = some (Sum.inr (out, (a, (b, (c, (k : Int)))))) := by
          by_cases c1 : (k : Int) < (a.length : Int)
          · rw [decide_eq_true c1]; rfl
          · by_cases c2 : (k : Int) < (b.length : Int)
            · rw [decide_eq_false c1, decide_eq_true c2]; rfl
            · have : c > 0 := by rcases hgo with h | h <;> omega
              rw [decide_eq_false c1, decide_eq_false c2, decide_eq_true this]; rfl
        rw [hcond]
        simp only [Option.bind_some, Sum.elim_inr, Eu]
        rw [wrapI (n := dg a k + dg b k) (by omega) (by omega), wrapI (n := dg a k + dg b k + c) (by omega) (by omega), Int.tmod_eq_emod_of_nonneg (by omega), Int.tdiv_eq_ediv_of_nonneg (by omega), wrapI (by omega) (by omega), app1 (by omega), wrap1 (by omega)]
        rfl
      by_cases hgo : k < max a.length b.length ∨ c = 1
      · obtain ⟨c', e1, e2⟩ := go hgo
        clear go
        have hkk : k ≤ max a.length b.length := by
          rcases hgo with h | h
          · omega
          · rcases Nat.lt_or_ge (max a.length b.length) k with h6 | h6
            · have := h4' (by omega); omega
            · exact h6
        refine .inl ⟨_, e1, ⟨k + 1, _, c', rfl, by simp [h1], by omega, h3.append (LB.cons (by omega) LB.nil), by omega, ?_, ?_⟩, by simp; omega⟩
        · intro hk
          have : k = max a.length b.length := by omega
          rw [D6 (by omega), D6 (by omega)] at e2
          refine ⟨by omega, ?_⟩
          have hc1 : c = 1 := by omega
          rw [hc1, List.take_of_length_le (by omega), List.take_of_length_le (by omega), this] at h5
          have := Ap h3
          omega
        · rw [GJ, h1, Au, Au]
          have : B (k + 1) * c' = B k * (65536 * c') := by simp only [B]; rw [Int.mul_comm 65536 (B k), Int.mul_assoc]
          rw [this]
          have hq : (dg a k + dg b k + c) % 65536 + 65536 * c' = dg a k + dg b k + c := by omega
          have : B k * ((dg a k + dg b k + c) % 65536) + B k * (65536 * c') = B k * dg a k + B k * dg b k + B k * c := by rw [← Int.mul_add, hq, Int.mul_add, Int.mul_add]
          omega
      · clear go
        have hc : c = 0 := by omega
        have hk : max a.length b.length ≤ k := by omega
        subst hc
        refine .inr ⟨out, ?_, h3, ?_, by omega, ?_⟩
        · unfold BV
          rw [decide_eq_false (by omega), decide_eq_false (by omega)]
          rfl
        · rw [List.take_of_length_le (by omega), List.take_of_length_le (by omega)] at h5
          omega
        · rcases Nat.lt_or_ge (max a.length b.length) k with h6 | h6
          · exact .inr (h4' (by omega)).2
          · left; omega) ([], (a, (b, (0, 0)))) ⟨0, [], 0, rfl, rfl, by omega, LB.nil, .inl rfl, by omega, by simp [val, B]⟩
  exact ⟨r, by rw [h1]; rfl, h2⟩
theorem SA {a b : List Int} (ha : LB a) (hb : LB b) (na : a.length ≤ 10000000) (nb : b.length ≤ 10000000) :
    ∃ r, Ds a b = some r ∧ LB r ∧ val r = val a + val b ∧ r.length ≤ max a.length b.length + 1 := by
  unfold Ds
  have hM : maxL [((a.length : Nat) : Int), ((b.length : Nat) : Int)] = ((max a.length b.length : Nat) : Int) := by simp only [maxL, List.foldl]; split <;> omega
  obtain ⟨r, h1, h2⟩ := EI (f := fun (s : ((List Int) × ((List Int) × ((List Int) × (Int × Int))))) => Cr s.1 s.2.1 s.2.2.1 s.2.2.2.1 s.2.2.2.2)
    (I := fun s => ∃ (k : Nat) (out : List Int) (c : Int), s = (out, (a, (b, (c, (k : Int))))) ∧ out.length = k ∧ k ≤ max a.length b.length + 1 ∧ LB out ∧ (c = 0 ∨ c = 1) ∧ (k = max a.length b.length + 1 → c = 0) ∧ val out + B k * c = val (a.take k) + val (b.take k))
    (R := fun r => LB r ∧ val r = val a + val b ∧ r.length ≤ max a.length b.length + 1) (fun s => max a.length b.length + 2 - s.1.length) (by
      rintro s ⟨k, out, c, rfl, h1, h2, h3, h4, h4', h5⟩
      simp only
      have da := AJ ha k
      have db := AJ hb k
      have go : k < max a.length b.length ∨ c = 1 → ∃ c', Cr out a b c (k : Int) = some (.inl (out ++ [(dg a k + dg b k + c) % 65536], (a, (b, (c', ((k + 1 : Nat) : Int)))))) ∧ c' = (dg a k + dg b k + c) / 65536 := by
        intro hgo
        refine ⟨_, ?_, rfl⟩
        have hkk : k ≤ max a.length b.length := by rcases hgo with h | h <;> omega
        unfold Cr
        rw [hM]
        have hcond : (bif decide ((k : Int) < ((max a.length b.length : Nat) : Int)) then some (Sum.inr (α := (List Int × List Int × List Int × Int × Int) ⊕ List Int) (out, (a, (b, (c, (k : Int)))))) else bif decide (c > 0) then some (Sum.inr (out, (a, (b, (c, (k : Int)))))) else some (Sum.inl (Sum.inr out))) = some (Sum.inr (out, (a, (b, (c, (k : Int)))))) := by
          by_cases c1 : (k : Int) < ((max a.length b.length : Nat) : Int)
          · rw [decide_eq_true c1]; rfl
          · have : c > 0 := by rcases hgo with h | h <;> omega
            rw [decide_eq_false c1, decide_eq_true this]; rfl
        rw [hcond]
        simp only [Option.bind_some, Sum.elim_inr]
        have s1 : (bif decide ((k : Int) < ((a.length : Nat) : Int)) then (getI a (k : Int)).bind fun x3 => some (Sum.inr (α := (List Int × List Int × List Int × Int × Int) ⊕ List Int) (out, (a, (b, (IntKind.wrap .i64 (c + x3), (k : Int)))))) else some (Sum.inr (out, (a, (b, (c, (k : Int))))))) = some (Sum.inr (out, (a, (b, (c + dg a k, (k : Int)))))) := by
          rcases Nat.lt_or_ge k a.length with hk | hk
          · rw [decide_eq_true (by omega), Al, List.getElem?_eq_getElem hk, ← CX (List.getElem?_eq_getElem hk)]
            simp only [cond_true, Option.bind_some]
            rw [wrapI (by omega) (by omega)]
          · rw [decide_eq_false (by omega), D6 hk]
            simp
        rw [s1]
        simp only [Option.bind_some, Sum.elim_inr]
        have s2 : (bif decide ((k : Int) < ((b.length : Nat) : Int)) then (getI b (k : Int)).bind fun x3 => some (Sum.inr (α := (List Int × List Int × List Int × Int × Int) ⊕ List Int) (out, (a, (b, (IntKind.wrap .i64 (c + dg a k + x3), (k : Int)))))) else some (Sum.inr (out, (a, (b, (c + dg a k, (k : Int))))))) = some (Sum.inr (out, (a, (b, (dg a k + dg b k + c, (k : Int)))))) := by
          rcases Nat.lt_or_ge k b.length with hk | hk
          · rw [decide_eq_true (by omega), Al, List.getElem?_eq_getElem hk, ← CX (List.getElem?_eq_getElem hk)]
            simp only [cond_true, Option.bind_some]
            rw [wrapI (by omega) (by omega), show c + dg a k + dg b k = dg a k + dg b k + c by omega]
          · rw [decide_eq_false (by omega), D6 hk, show dg a k + 0 + c = c + dg a k by omega]
            rfl
        rw [s2]
        simp only [Option.bind_some, Sum.elim_inr]
        rw [Int.tmod_eq_emod_of_nonneg (by omega), Int.tdiv_eq_ediv_of_nonneg (by omega), wrapI (by omega) (by omega), app1 (by omega), wrap1 (by omega)]
        rfl
      by_cases hgo : k < max a.length b.length ∨ c = 1
      · obtain ⟨c', e1, e2⟩ := go hgo
        clear go
        have hkk : k ≤ max a.length b.length := by
          rcases hgo with h | h
          · omega
          · rcases Nat.lt_or_ge (max a.length b.length) k with h6 | h6
            · have := h4' (by omega); omega
            · exact h6
        refine .inl ⟨_, e1, ⟨k + 1, _, c', rfl, by simp [h1], by omega, h3.append (LB.cons (by omega) LB.nil), by omega, ?_, ?_⟩, by simp; omega⟩
        · intro hk
          have : k = max a.length b.length := by omega
          rw [D6 (by omega), D6 (by omega)] at e2
          omega
        · rw [GJ, h1, Au, Au]
          have : B (k + 1) * c' = B k * (65536 * c') := by simp only [B]; rw [Int.mul_comm 65536 (B k), Int.mul_assoc]
          rw [this]
          have hq : (dg a k + dg b k + c) % 65536 + 65536 * c' = dg a k + dg b k + c := by omega
          have : B k * ((dg a k + dg b k + c) % 65536) + B k * (65536 * c') = B k * dg a k + B k * dg b k + B k * c := by rw [← Int.mul_add, hq, Int.mul_add, Int.mul_add]
          omega
      · clear go
        have hc : c = 0 := by omega
        have hk : max a.length b.length ≤ k := by omega
        subst hc
        refine .inr ⟨out, ?_, h3, ?_, by omega⟩
        · unfold Cr
          rw [hM, decide_eq_false (by omega)]
          rfl
        · rw [List.take_of_length_le (by omega), List.take_of_length_le (by omega)] at h5
          omega) ([], (a, (b, (0, 0)))) ⟨0, [], 0, rfl, rfl, by omega, LB.nil, .inl rfl, by omega, by simp [val, B]⟩
  exact ⟨r, by rw [h1]; rfl, h2⟩
end Go.Proofs.YtgfchmagglhohaaGreatDoor.Ev

end
section
namespace Go.Proofs.YtgfchmagglhohaaGreatDoor.Ev
open Go
set_option linter.unusedVariables false
set_option linter.unusedSimpArgs false
set_option linter.unusedSectionVars false
theorem KR {v : Int} (h : -65536 ≤ v ∧ v < 65536) : 0 ≤ (if v < 0 then v + 65536 else v) ∧ (if v < 0 then v + 65536 else v) < 65536 ∧ (if v < 0 then v + 65536 else v) - 65536 * (if v < 0 then 1 else 0) = v ∧ ((if v < 0 then 1 else 0 : Int) = 0 ∨ (if v < 0 then 1 else 0 : Int) = 1) := by
  split <;> omega
theorem Nr {k : Nat} {A Bv out d br br' v x y : Int} (h1 : out - B k * br = A - Bv) (h2 : d - 65536 * br' = v) (h3 : v = x - y - br) : out + B k * d - B (k + 1) * br' = A + B k * x - (Bv + B k * y) := by
  have e1 : B (k + 1) * br' = B k * (65536 * br') := by simp only [B]; rw [Int.mul_comm 65536 (B k), Int.mul_assoc]
  have e2 : B k * d - B k * (65536 * br') = B k * x - B k * y - B k * br := by rw [← Int.mul_sub, h2, h3, Int.mul_sub, Int.mul_sub]
  rw [e1]
  omega
theorem JC {a b : List Int} (ha : LB a) (hb : LB b) (hlen : b.length ≤ a.length) (na : a.length ≤ 10000000) (hle : val b ≤ val a) :
    BT a b = some (lim (val a - val b).toNat) := by
  unfold BT
  obtain ⟨r, h1, h2⟩ := EI (f := fun (s : ((List Int) × ((List Int) × ((List Int) × (Int × (Int × Int)))))) => Cw s.1 s.2.1 s.2.2.1 s.2.2.2.1 s.2.2.2.2.1 s.2.2.2.2.2)
    (I := fun s => ∃ (k : Nat) (out : List Int) (c : Int), s = (out, (a, (b, (c, ((a.length : Int), (k : Int)))))) ∧ out.length = k ∧ k ≤ a.length ∧ LB out ∧ (c = 0 ∨ c = 1) ∧ val out - B k * c = val (a.take k) - val (b.take k))
    (R := fun r => LB r ∧ val r = val a - val b ∧ r.length = a.length) (fun s => a.length + 1 - s.1.length) (by
      rintro s ⟨k, out, c, rfl, h1, h2, h3, h4, h5⟩
      simp only
      by_cases hk : k < a.length
      · have da := AJ ha k
        have db := AJ hb k
        have hg := List.getElem?_eq_getElem hk
        have hx : a[k] = dg a k := (CX hg).symm
        have hv := KR (v := dg a k - dg b k - c) (by omega)
        refine .inl ⟨(out ++ [if dg a k - dg b k - c < 0 then dg a k - dg b k - c + 65536 else dg a k - dg b k - c], (a, (b, ((if dg a k - dg b k - c < 0 then 1 else 0), ((a.length : Int), ((k + 1 : Nat) : Int)))))), ?_, ⟨k + 1, _, _, rfl, by simp [h1], by omega, h3.append (LB.cons (by omega) LB.nil), hv.2.2.2, ?_⟩, by simp; omega⟩
        · unfold Cw
          rw [decide_eq_true (by omega), Al, hg]
          simp only [cond_true, Option.bind_some, Eu, hx]
          rw [wrapI (n := dg a k - dg b k) (by omega) (by omega), wrapI (n := dg a k - dg b k - c) (by omega) (by omega), wrapI (n := dg a k - dg b k - c + 65536) (by omega) (by omega), wrap1 (by omega)]
          by_cases hneg : dg a k - dg b k - c < 0
          · rw [decide_eq_true hneg, if_pos hneg, if_pos hneg]
            simp only [cond_true]
            rw [app1 (by omega)]
            rfl
          · rw [decide_eq_false hneg, if_neg hneg, if_neg hneg]
            simp only [cond_false]
            rw [app1 (by omega)]
            rfl
        · rw [GJ, h1, Au, Au]
          exact Nr h5 hv.2.2.1 rfl
      · have hk' : k = a.length := by omega
        refine .inr ⟨out, ?_, h3, ?_, by omega⟩
        · unfold Cw
          rw [decide_eq_false (by omega)]
          rfl
        · rw [List.take_of_length_le (by omega), List.take_of_length_le (by omega)] at h5
          have b1 := F7 h3
          have b2 := Ap h3
          rw [h1] at b1
          rcases h4 with h4 | h4
          · subst h4; omega
          · subst h4; omega) ([], (a, (b, (0, ((a.length : Int), 0))))) ⟨0, [], 0, rfl, rfl, by omega, LB.nil, .inl rfl, by simp [val, B]⟩
  rw [h1]
  simp only [Option.bind_some]
  rw [De (by unfold Brief; omega)]
  simp only [Option.bind_some]
  rw [Br h2.1, h2.2.1]
theorem Mh {a b : List Int} (ha : LB a) (hb : LB b) (hlen : b.length ≤ a.length) (na : a.length ≤ 10000000) (hle : val b ≤ val a) :
    CA a b = some (lim (val a - val b).toNat) := by
  unfold CA
  rw [Oo (by unfold Brief; omega)]
  simp only [Option.bind_some]
  obtain ⟨r, h1, h2⟩ := EI (f := fun (s : ((List Int) × ((List Int) × (Int × (Int × Int))))) => Dk s.1 s.2.1 s.2.2.1 s.2.2.2.1 s.2.2.2.2)
    (I := fun s => ∃ (k : Nat) (out : List Int) (c : Int), s = (out, (b, (c, ((a.length : Int), (k : Int))))) ∧ out.length = a.length ∧ k ≤ a.length ∧ LB (out.take k) ∧ out.drop k = a.drop k ∧ (c = 0 ∨ c = 1) ∧ val (out.take k) - B k * c = val (a.take k) - val (b.take k))
    (R := fun r => LB r ∧ val r = val a - val b ∧ r.length = a.length) (fun s => (a.length + 1 - s.2.2.2.2).toNat) (by
      rintro s ⟨k, out, c, rfl, h1, h2, h3, h3', h4, h5⟩
      simp only
      by_cases hk : k < a.length
      · have da := AJ ha k
        have db := AJ hb k
        have hg := List.getElem?_eq_getElem hk
        have hx : a[k] = dg a k := (CX hg).symm
        have hko : k < out.length := by omega
        have hox : out[k]? = some (dg a k) := by
          have e1 : out.drop k = out[k] :: out.drop (k + 1) := List.drop_eq_getElem_cons hko
          have e2 : a.drop k = a[k] :: a.drop (k + 1) := List.drop_eq_getElem_cons hk
          rw [List.getElem?_eq_getElem hko]
          rw [e1, e2] at h3'
          rw [(List.cons.inj h3').1, hx]
        have hv := KR (v := dg a k - dg b k - c) (by omega)
        have hset : ∀ y : Int, (out.set k y)[k]? = some y := fun y => by rw [List.getElem?_set_self hko]
        have hdg : dg (out.set k (if dg a k - dg b k - c < 0 then dg a k - dg b k - c + 65536 else dg a k - dg b k - c)) k = (if dg a k - dg b k - c < 0 then dg a k - dg b k - c + 65536 else dg a k - dg b k - c) := CX (hset _)
        have htk : (out.set k (if dg a k - dg b k - c < 0 then dg a k - dg b k - c + 65536 else dg a k - dg b k - c)).take k = out.take k := List.take_set_of_le (Nat.le_refl _)
        refine .inl ⟨(out.set k (if dg a k - dg b k - c < 0 then dg a k - dg b k - c + 65536 else dg a k - dg b k - c), (b, ((if dg a k - dg b k - c < 0 then 1 else 0), ((a.length : Int), ((k + 1 : Nat) : Int))))), ?_, ⟨k + 1, _, _, rfl, by simp [h1], by omega, ?_, ?_, hv.2.2.2, ?_⟩, by simp; omega⟩
        · unfold Dk getN
          have i1 : idxI (k : Int) out.length = some k := BG hko
          have i2 : ∀ y : Int, idxI (k : Int) (out.set k y).length = some k := fun y => by rw [List.length_set]; exact i1
          rw [decide_eq_true (by omega)]
          simp only [cond_true, i1, Option.bind_some, hox, i2, hset, Al]
          have hw1 := wrap1 (show k < 4611686018427387904 by omega)
          rw [wrapI (n := dg a k - c) (by omega) (by omega)]
          have s1 : (bif decide ((k : Int) < ((b.length : Nat) : Int)) then (b[k]?).bind fun x6 => some (Sum.inr (α := (List Int × List Int × Int × Int × Int) ⊕ List Int) ((out.set k (dg a k - c)).set k (IntKind.wrap .i64 (dg a k - c - x6)), (b, ((k : Int), ((a.length : Int), (k : Int)))))) else some (Sum.inr (out.set k (dg a k - c), (b, ((k : Int), ((a.length : Int), (k : Int))))))) = some (Sum.inr (out.set k (dg a k - dg b k - c), (b, ((k : Int), ((a.length : Int), (k : Int)))))) := by
            rcases Nat.lt_or_ge k b.length with hkb | hkb
            · rw [decide_eq_true (by omega), List.getElem?_eq_getElem hkb, ← CX (List.getElem?_eq_getElem hkb)]
              simp only [cond_true, Option.bind_some, List.set_set]
              rw [wrapI (by omega) (by omega), show dg a k - c - dg b k = dg a k - dg b k - c by omega]
            · rw [decide_eq_false (by omega), D6 hkb, show dg a k - 0 - c = dg a k - c by omega]
              rfl
          rw [s1]
          simp only [Option.bind_some, Sum.elim_inr, i2, hset, List.set_set, hw1]
          by_cases hneg : dg a k - dg b k - c < 0
          · rw [decide_eq_true hneg, if_pos hneg, if_pos hneg, wrapI (by omega) (by omega)]
            rfl
          · rw [decide_eq_false hneg, if_neg hneg, if_neg hneg]
            rfl
        · rw [List.take_add_one, htk, hset]
          exact h3.append (LB.cons (by omega) LB.nil)
        · rw [List.drop_set_of_lt (by omega)]
          have : out.drop (k + 1) = (out.drop k).drop 1 := by rw [List.drop_drop]
          rw [this, h3', List.drop_drop]
        · rw [Au (out.set k _), Au a, Au b, htk, hdg]
          exact Nr h5 hv.2.2.1 rfl
      · have hk' : k = a.length := by omega
        refine .inr ⟨out, ?_, ?_, ?_, h1⟩
        · unfold Dk
          rw [decide_eq_false (by omega)]
          rfl
        · rw [List.take_of_length_le (by omega)] at h3; exact h3
        · rw [List.take_of_length_le (by omega)] at h3 h5
          rw [List.take_of_length_le (by omega), List.take_of_length_le (by omega)] at h5
          have b1 := F7 h3
          have b2 := Ap h3
          rw [h1, ← hk'] at b1
          rcases h4 with h4 | h4
          · subst h4; omega
          · subst h4; omega) (a, (b, (0, ((a.length : Int), 0)))) ⟨0, a, 0, rfl, rfl, by omega, by rw [List.take_zero]; exact LB.nil, rfl, .inl rfl, by simp [val, B]⟩
  rw [h1]
  simp only [Option.bind_some]
  rw [WG (by unfold Brief; omega)]
  simp only [Option.bind_some]
  rw [Br h2.1, h2.2.1]
end Go.Proofs.YtgfchmagglhohaaGreatDoor.Ev

end
section
namespace Go.Proofs.YtgfchmagglhohaaGreatDoor.Ev
open Go
set_option linter.unusedVariables false
set_option linter.unusedSimpArgs false
set_option linter.unusedSectionVars false
theorem C2 {n k : Nat} (h : (n : Int) < B k) (hk : k ≤ 1000000) : (lim n).length ≤ 1000000 := Nat.le_trans (Af.2 h) hk
theorem Kl {x y : Int} {k : Nat} (hk : k ≤ 1000000) (hx : (x.natAbs : Int) < B k) (hy : (y.natAbs : Int) < B k) : Cl (big x) (big y) = some (big (x + y)) := by
  have lx := C2 hx hk
  have ly := C2 hy hk
  unfold Cl big
  simp only
  by_cases hs : decide (x < 0) = decide (y < 0)
  · rw [hs, beq_self_eq_true]
    obtain ⟨r, e1, e2, e3, e4⟩ := SA (Ar x.natAbs) (Ar y.natAbs) (by omega) (by omega)
    rw [Ai, Ai] at e3
    simp only [cond_true, e1, Option.bind_some]
    rw [HI e2 (by unfold Brief; omega)]
    simp only [Option.bind_some]
    have hv : (val r).toNat = (x + y).natAbs := by
      by_cases h1 : x < 0
      · have : y < 0 := by simpa [h1] using hs
        omega
      · have : ¬ y < 0 := by simpa [h1] using hs
        omega
    rw [hv]
    congr 2
    by_cases h2 : y < 0
    · have h1 : x < 0 := by simpa [h2] using hs
      rw [decide_eq_true h2, decide_eq_true (show x + y < 0 by omega), decide_eq_true (show (x + y).natAbs ≠ 0 by omega)]; rfl
    · have h1 : ¬ x < 0 := by simpa [h2] using hs
      rw [decide_eq_false h2, decide_eq_false (show ¬ x + y < 0 by omega)]; rfl
  · have hb : (decide (x < 0) == decide (y < 0)) = false := by simpa using hs
    rw [hb]
    simp only [cond_false]
    rw [EC (by unfold Brief; omega) (by unfold Brief; omega)]
    simp only [Option.bind_some]
    have hxy : (x < 0 ∧ ¬ y < 0) ∨ (¬ x < 0 ∧ y < 0) := by
      by_cases h1 : x < 0 <;> by_cases h2 : y < 0 <;> simp [h1, h2] at hs ⊢
    rcases Nat.lt_or_ge x.natAbs y.natAbs with hlt | hge
    · rw [Cx (by omega), decide_eq_false (by omega)]
      simp only [cond_false]
      have hl : (lim x.natAbs).length ≤ (lim y.natAbs).length := Af.2 (by have := Af.1 (Nat.le_refl (lim y.natAbs).length); omega)
      rw [Mh (Ar _) (Ar _) hl (by omega) (by rw [Ai, Ai]; omega)]
      simp only [Option.bind_some, Ai]
      have e : ((y.natAbs : Int) - (x.natAbs : Int)).toNat = (x + y).natAbs := by omega
      rw [e, HI (Ar _) (by
        have : (lim (x + y).natAbs).length ≤ (lim y.natAbs).length := Af.2 (by have := Af.1 (Nat.le_refl (lim y.natAbs).length); omega)
        unfold Brief; omega)]
      simp only [Option.bind_some, Ai, Int.toNat_natCast]
      congr 2
      by_cases h2 : y < 0
      · rw [decide_eq_true h2, decide_eq_true (show x + y < 0 by omega), decide_eq_true (show (x + y).natAbs ≠ 0 by omega)]; rfl
      · rw [decide_eq_false h2, decide_eq_false (show ¬ x + y < 0 by omega)]; rfl
    · have hc : cmpZ (x.natAbs : Int) (y.natAbs : Int) ≥ 0 := by unfold cmpZ; rw [if_neg (by omega)]; split <;> omega
      rw [decide_eq_true hc]
      simp only [cond_true]
      have hl : (lim y.natAbs).length ≤ (lim x.natAbs).length := Af.2 (by have := Af.1 (Nat.le_refl (lim x.natAbs).length); omega)
      rw [Mh (Ar _) (Ar _) hl (by omega) (by rw [Ai, Ai]; omega)]
      simp only [Option.bind_some, Ai]
      have e : ((x.natAbs : Int) - (y.natAbs : Int)).toNat = (x + y).natAbs := by omega
      rw [e, HI (Ar _) (by
        have : (lim (x + y).natAbs).length ≤ (lim x.natAbs).length := Af.2 (by have := Af.1 (Nat.le_refl (lim x.natAbs).length); omega)
        unfold Brief; omega)]
      simp only [Option.bind_some, Ai, Int.toNat_natCast]
      congr 2
      by_cases h2 : x < 0
      · rw [decide_eq_true h2]
        by_cases h3 : x + y < 0
        · rw [decide_eq_true h3, decide_eq_true (show (x + y).natAbs ≠ 0 by omega)]; rfl
        · rw [decide_eq_false h3, decide_eq_false (show ¬ (x + y).natAbs ≠ 0 by omega)]; rfl
      · rw [decide_eq_false h2, decide_eq_false (show ¬ x + y < 0 by omega)]; rfl
theorem IQ {o x y c : Int} (ho : 0 ≤ o ∧ o < 65536) (hx : 0 ≤ x ∧ x < 65536) (hy : 0 ≤ y ∧ y < 65536) (hc : 0 ≤ c ∧ c < 65536) :
    (0 ≤ x * y ∧ x * y ≤ 4294836225) ∧ 0 ≤ (o + x * y + c) / 65536 ∧ (o + x * y + c) / 65536 < 65536 ∧ 0 ≤ (o + x * y + c) % 65536 ∧ (o + x * y + c) % 65536 < 65536 ∧ (o + x * y + c) % 65536 + 65536 * ((o + x * y + c) / 65536) = o + x * y + c := by
  have h1 : 0 ≤ x * y := Int.mul_nonneg hx.1 hy.1
  have h2 : x * y ≤ 65535 * 65535 := Int.le_trans (Int.mul_le_mul_of_nonneg_left (show y ≤ 65535 by omega) hx.1) (Int.mul_le_mul_of_nonneg_right (show x ≤ 65535 by omega) (by omega))
  omega
theorem RU {out : List Int} {p : Nat} {o d c c' t V : Int} (ho : out[p]? = some o) (hd : d + 65536 * c' = o + t + c) (hV : val out + B p * c = V) : val (out.set p d) + B (p + 1) * c' = V + B p * t := by
  rw [DL ho]
  have e1 : B (p + 1) * c' = B p * (65536 * c') := by simp only [B]; rw [Int.mul_comm 65536 (B p), Int.mul_assoc]
  have e2 : B p * d + B p * (65536 * c') = B p * o + B p * t + B p * c := by rw [← Int.mul_add, hd, Int.mul_add, Int.mul_add]
  rw [e1, Int.mul_sub]
  omega
theorem An {l : List Int} {k : Nat} (h : k < l.length) : l[k]? = some (dg l k) := by rw [List.getElem?_eq_getElem h, CX (List.getElem?_eq_getElem h)]
theorem Bz {l : List Int} {k j : Nat} {x : Int} (h : k ≠ j) : dg (l.set k x) j = dg l j := by
  unfold dg
  rw [List.getD_eq_getElem?_getD, List.getD_eq_getElem?_getD, List.getElem?_set_ne h]
structure Row (out0 out : List Int) (i k : Nat) (c x : Int) (b : List Int) : Prop where
  len : out.length = out0.length
  lb : LB out
  hi : ∀ j, i + k ≤ j → dg out j = dg out0 j
  c0 : 0 ≤ c
  c1 : c < 65536
  v : val out + B (i + k) * c = val out0 + B i * (x * val (b.take k))
theorem Row.start {out0 : List Int} (h : LB out0) (i : Nat) (x : Int) (b : List Int) : Row out0 out0 i 0 0 x b := ⟨rfl, h, fun _ _ => rfl, by omega, by omega, by simp [val]⟩
theorem Row.next {out0 out : List Int} {i k : Nat} {c x : Int} {b : List Int} (h : Row out0 out i k c x b) (hb : LB b) (hx : 0 ≤ x ∧ x < 65536) (hk : i + k < out.length) :
    Row out0 (out.set (i + k) ((dg out (i + k) + x * dg b k + c) % 65536)) i (k + 1) ((dg out (i + k) + x * dg b k + c) / 65536) x b := by
  have hs := IQ (AJ h.lb (i + k)) hx (AJ hb k) ⟨h.c0, h.c1⟩
  refine ⟨by rw [List.length_set]; exact h.len, h.lb.set ⟨hs.2.2.2.1, hs.2.2.2.2.1⟩, fun j hj => by rw [Bz (by omega)]; exact h.hi j (by omega), hs.2.1, hs.2.2.1, ?_⟩
  have := RU (An hk) hs.2.2.2.2.2 h.v
  rw [show i + (k + 1) = i + k + 1 by omega, this, Au, Int.mul_add, Int.mul_add]
  have : B (i + k) * (x * dg b k) = B i * (x * (B k * dg b k)) := by rw [Ou]; grind
  omega
theorem UA {a0 a1 a2 : Bool × List Int} {out0 : List Int} {i : Nat} {x : Int} (hx : 0 ≤ x ∧ x < 65536) (h0 : LB out0) (hb : LB a1.2) (hlen : i + a1.2.length ≤ out0.length) (ho : out0.length ≤ 10000000) (s7 : List Int) (s8 s9 : Int) :
    ∃ out c, loopM (fun (s : ((Bool × (List Int)) × ((Bool × (List Int)) × ((Bool × (List Int)) × ((List Int) × (Int × (Int × (Int × ((List Int) × (Int × (Int × ((List Int) × (Int × Int))))))))))))) => CI s.1 s.2.1 s.2.2.1 s.2.2.2.1 s.2.2.2.2.1 s.2.2.2.2.2.1 s.2.2.2.2.2.2.1 s.2.2.2.2.2.2.2.1 s.2.2.2.2.2.2.2.2.1 s.2.2.2.2.2.2.2.2.2.1 s.2.2.2.2.2.2.2.2.2.2.1 s.2.2.2.2.2.2.2.2.2.2.2.1 s.2.2.2.2.2.2.2.2.2.2.2.2) ((a0.1, a0.2), ((a1.1, a1.2), ((a2.1, a2.2), (out0, ((i : Int), (x, ((0 : Int), (s7, (s8, (s9, (a1.2, ((((List.length a1.2) : Nat) : Int), (0 : Int))))))))))))) =
      some ((a0.1, a0.2), ((a1.1, a1.2), ((a2.1, a2.2), (out, ((i : Int), (c, (s7, (s8, s9)))))))) ∧ Row out0 out i a1.2.length c x a1.2 := by
  obtain ⟨⟨out, c⟩, h1, h2⟩ := Fd (body := fun (s : ((Bool × (List Int)) × ((Bool × (List Int)) × ((Bool × (List Int)) × ((List Int) × (Int × (Int × (Int × ((List Int) × (Int × (Int × ((List Int) × (Int × Int))))))))))))) => CI s.1 s.2.1 s.2.2.1 s.2.2.2.1 s.2.2.2.2.1 s.2.2.2.2.2.1 s.2.2.2.2.2.2.1 s.2.2.2.2.2.2.2.1 s.2.2.2.2.2.2.2.2.1 s.2.2.2.2.2.2.2.2.2.1 s.2.2.2.2.2.2.2.2.2.2.1 s.2.2.2.2.2.2.2.2.2.2.2.1 s.2.2.2.2.2.2.2.2.2.2.2.2)
    (st := fun k (b : List Int × Int) => ((a0.1, a0.2), ((a1.1, a1.2), ((a2.1, a2.2), (b.1, ((i : Int), (x, (b.2, (s7, (s8, (s9, (a1.2, ((((List.length a1.2) : Nat) : Int), (k : Int))))))))))))))
    (fin := fun b => ((a0.1, a0.2), ((a1.1, a1.2), ((a2.1, a2.2), (b.1, ((i : Int), (b.2, (s7, (s8, s9)))))))))
    (I := fun k b => Row out0 b.1 i k b.2 x a1.2) (e := a1.2.length)
    (by
      rintro k ⟨out, c⟩ hk hI
      simp only at hI
      have hl := hI.len
      have hp : i + k < out.length := by omega
      have hs := IQ (AJ hI.lb (i + k)) hx (AJ hb k) ⟨hI.c0, hI.c1⟩
      have dl := AJ hI.lb (i + k)
      have c0 := hI.c0
      have c1 := hI.c1
      refine ⟨(_, _), ?_, hI.next hb hx hp⟩
      unfold CI getN
      dsimp only
      have i1 : idxI ((i : Int) + (k : Int)) out.length = some (i + k) := by rw [show (i : Int) + (k : Int) = ((i + k : Nat) : Int) by omega]; exact BG hp
      rw [decide_eq_true (by omega), wrapI (n := (i : Int) + (k : Int)) (by omega) (by omega)]
      simp only [cond_true, Al, An hk, Option.bind_some, i1, An hp]
      rw [wrapI (n := x * dg a1.2 k) (by omega) (by omega), wrapI (n := dg out (i + k) + x * dg a1.2 k) (by omega) (by omega), wrapI (n := c + (dg out (i + k) + x * dg a1.2 k)) (by omega) (by omega), show c + (dg out (i + k) + x * dg a1.2 k) = dg out (i + k) + x * dg a1.2 k + c by omega,
        Int.tmod_eq_emod_of_nonneg (by omega), Int.tdiv_eq_ediv_of_nonneg (by omega), wrapI (n := (dg out (i + k) + x * dg a1.2 k + c) / 65536) (by omega) (by omega), wrap1 (by omega)])
    (by
      rintro ⟨out, c⟩ _
      unfold CI
      dsimp only
      rw [decide_eq_false (by omega)]
      rfl) 0 (out0, 0) (by omega) (Row.start h0 i x _)
  exact ⟨out, c, h1, h2⟩
theorem Vm {x y : Int} {k : Nat} (hk : k ≤ 100000) (hx : (x.natAbs : Int) < B k) (hy : (y.natAbs : Int) < B k) : ∃ r, DO (big x) (big y) = some r ∧ (r.2, r.1) = big (x * y) := by
  have lx := Nat.le_trans (Af.2 hx) hk
  have ly := Nat.le_trans (Af.2 hy) hk
  unfold DO
  generalize ha : lim x.natAbs = a at lx
  generalize hb' : lim y.natAbs = b at ly
  have la : LB a := ha ▸ Ar _
  have lb : LB b := hb' ▸ Ar _
  have e1 : (big x).2 = a := ha
  have e2 : (big y).2 = b := hb'
  rw [e1, e2, wrapI (by omega) (by omega), show ((a.length : Nat) : Int) + ((b.length : Nat) : Int) = ((a.length + b.length : Nat) : Int) by omega, E7 (by unfold maxBytes; omega) (by unfold maxBytes; omega)]
  simp only [Option.bind_some]
  obtain ⟨out, h1, h2⟩ := Fd (body := fun (s : ((Bool × (List Int)) × ((Bool × (List Int)) × ((Bool × (List Int)) × ((List Int) × ((List Int) × (Int × Int))))))) => DN s.1 s.2.1 s.2.2.1 s.2.2.2.1 s.2.2.2.2.1 s.2.2.2.2.2.1 s.2.2.2.2.2.2)
    (st := fun i (o : List Int) => (((big x).1, a), (((big y).1, b), ((false, ([] : List Int)), (o, (a, (((a.length : Nat) : Int), (i : Int))))))))
    (fin := fun o => (((big x).1, a), (((big y).1, b), ((false, ([] : List Int)), o))))
    (I := fun i o => o.length = a.length + b.length ∧ LB o ∧ (∀ j, i + b.length ≤ j → dg o j = 0) ∧ val o = val (a.take i) * val b) (e := a.length)
    (by
      rintro i o hi ⟨h1, h2, h3, h4⟩
      have hd := AJ la i
      obtain ⟨o1, c, q1, q2⟩ := UA (a0 := ((big x).1, a)) (a1 := ((big y).1, b)) (a2 := (false, [])) hd h2 lb (show i + b.length ≤ o.length by omega) (show o.length ≤ 10000000 by omega) a ((a.length : Nat) : Int) (i : Int)
      simp only at q1 q2
      have hl1 := q2.len
      have hp : i + b.length < o1.length := by omega
      have hz : dg o1 (i + b.length) = 0 := by rw [q2.hi _ (Nat.le_refl _), h3 _ (by omega)]
      have c0 := q2.c0
      have c1 := q2.c1
      refine ⟨o1.set (i + b.length) c, ?_, by rw [List.length_set]; omega, q2.lb.set ⟨c0, c1⟩, fun j hj => ?_, ?_⟩
      · unfold DN getN
        dsimp only
        rw [decide_eq_true (by omega), Al, An hi]
        simp only [cond_true, Option.bind_some]
        rw [q1]
        simp only [Option.bind_some]
        have i1 : idxI ((i : Int) + ((b.length : Nat) : Int)) o1.length = some (i + b.length) := by rw [show (i : Int) + ((b.length : Nat) : Int) = ((i + b.length : Nat) : Int) by omega]; exact BG hp
        rw [wrapI (n := (i : Int) + ((b.length : Nat) : Int)) (by omega) (by omega), i1]
        simp only [Option.bind_some, An hp, hz]
        rw [wrapI (n := 0 + c) (by omega) (by omega), wrap1 (by omega), Int.zero_add]
      · rw [Bz (by omega), q2.hi j (by omega), h3 j (by omega)]
      · rw [DL (An hp), hz, Int.sub_zero]
        have hv := q2.v
        rw [List.take_length] at hv
        rw [Au, Int.add_mul, ← h4]
        have : B i * dg a i * val b = B i * (dg a i * val b) := Int.mul_assoc ..
        omega)
    (by
      rintro o _
      unfold DN
      dsimp only
      rw [decide_eq_false (by omega)]
      rfl) 0 (List.replicate (a.length + b.length) 0) (by omega) ⟨by simp, LB.zeros _, fun j _ => by
        unfold dg; rw [List.getD_eq_getElem?_getD, List.getElem?_replicate]; split <;> rfl, by rw [Ct]; simp [val]⟩
  rw [show ((0 : Nat) : Int) = 0 from rfl] at h1
  rw [h1]
  obtain ⟨g1, g2, g3, g4⟩ := h2
  rw [List.take_length] at g4
  simp only [Option.bind_some]
  rw [HI g2 (by unfold Brief; omega)]
  simp only [Option.bind_some]
  refine ⟨_, rfl, ?_⟩
  have hv : (val out).toNat = (x * y).natAbs := by rw [g4, ← ha, ← hb', Ai, Ai, Int.natAbs_mul]; omega
  rw [hv]
  unfold big
  congr 1
  by_cases hx0 : x = 0
  · subst hx0; simp
  · by_cases hy0 : y = 0
    · subst hy0; simp
    · have hne : (x * y).natAbs ≠ 0 := by
        rw [Int.natAbs_mul]
        intro h
        rcases Nat.mul_eq_zero.1 h with h | h <;> omega
      rw [decide_eq_true hne]
      by_cases h1 : x < 0
      · by_cases h2 : y < 0
        · have := Int.mul_pos_of_neg_of_neg h1 h2
          rw [decide_eq_true h1, decide_eq_true h2, decide_eq_false (by omega)]; rfl
        · have := Int.mul_neg_of_neg_of_pos h1 (show 0 < y by omega)
          rw [decide_eq_true h1, decide_eq_false h2, decide_eq_true (by omega)]; rfl
      · by_cases h2 : y < 0
        · have := Int.mul_neg_of_pos_of_neg (show 0 < x by omega) h2
          rw [decide_eq_false h1, decide_eq_true h2, decide_eq_true (by omega)]; rfl
        · have := Int.mul_pos (show 0 < x by omega) (show 0 < y by omega)
          rw [decide_eq_false h1, decide_eq_false h2, decide_eq_false (by omega)]; rfl
end Go.Proofs.YtgfchmagglhohaaGreatDoor.Ev

end
section
namespace Go.Proofs.YtgfchmagglhohaaGreatDoor.Ev
open Go
set_option linter.unusedVariables false
set_option linter.unusedSimpArgs false
set_option linter.unusedSectionVars false
theorem Vg {out0 b : List Int} {i : Nat} {x : Int} (hx : 0 ≤ x ∧ x < 65536) (h0 : LB out0) (hb : LB b) (hlen : i + b.length < out0.length) (hz : ∀ j, i + b.length ≤ j → dg out0 j = 0) (ho : out0.length ≤ 10000000) (s6 : List Int) (s7 s8 : Int) :
    ∃ out, loopM (fun (s : ((List Int) × ((List Int) × (Int × (Int × (Int × (Int × ((List Int) × (Int × Int))))))))) => BN s.1 s.2.1 s.2.2.1 s.2.2.2.1 s.2.2.2.2.1 s.2.2.2.2.2.1 s.2.2.2.2.2.2.1 s.2.2.2.2.2.2.2.1 s.2.2.2.2.2.2.2.2) (out0, (b, ((i : Int), (x, ((0 : Int), ((0 : Int), (s6, (s7, s8)))))))) = some (out, (b, (s6, (s7, s8)))) ∧
      out.length = out0.length ∧ LB out ∧ (∀ j, i + 1 + b.length ≤ j → dg out j = 0) ∧ val out = val out0 + B i * (x * val b) := by
  obtain ⟨r, h1, out, rfl, h2⟩ := EI (f := fun (s : ((List Int) × ((List Int) × (Int × (Int × (Int × (Int × ((List Int) × (Int × Int))))))))) => BN s.1 s.2.1 s.2.2.1 s.2.2.2.1 s.2.2.2.2.1 s.2.2.2.2.2.1 s.2.2.2.2.2.2.1 s.2.2.2.2.2.2.2.1 s.2.2.2.2.2.2.2.2)
    (I := fun s => ∃ (k : Nat) (out : List Int) (c : Int), s = (out, (b, ((i : Int), (x, (c, ((k : Int), (s6, (s7, s8)))))))) ∧ k ≤ b.length + 1 ∧ Row out0 out i k c x b ∧ (k = b.length + 1 → c = 0))
    (R := fun r => ∃ out, r = (out, (b, (s6, (s7, s8)))) ∧ out.length = out0.length ∧ LB out ∧ (∀ j, i + 1 + b.length ≤ j → dg out j = 0) ∧ val out = val out0 + B i * (x * val b)) (fun s => (b.length + 2 - s.2.2.2.2.2.1).toNat) (by
      rintro s ⟨k, out, c, rfl, hk, hR, hc⟩
      simp only
      have hl := hR.len
      have c0 := hR.c0
      have c1 := hR.c1
      by_cases hgo : k < b.length ∨ c > 0
      · have hkb : k ≤ b.length := by
          rcases hgo with h | h
          · omega
          · rcases Nat.lt_or_ge b.length k with h6 | h6
            · have := hc (by omega); omega
            · exact h6
        have hp : i + k < out.length := by omega
        have hs := IQ (AJ hR.lb (i + k)) hx (AJ hb k) ⟨c0, c1⟩
        have dl := AJ hR.lb (i + k)
        refine .inl ⟨(out.set (i + k) ((dg out (i + k) + x * dg b k + c) % 65536), (b, ((i : Int), (x, ((dg out (i + k) + x * dg b k + c) / 65536, (((k + 1 : Nat) : Int), (s6, (s7, s8)))))))), ?_, ⟨k + 1, _, _, rfl, by omega, hR.next hb hx hp, fun he => ?_⟩, by simp only; omega⟩
        · unfold BN getN
          have hcond : (bif decide ((k : Int) < ((b.length : Nat) : Int)) then some (Sum.inr (α := (List Int × List Int × Int × Int × Int × Int × List Int × Int × Int) ⊕ (List Int × List Int × List Int × Int × Int)) (out, (b, ((i : Int), (x, (c, ((k : Int), (s6, (s7, s8))))))))) else bif decide (c > 0) then some (Sum.inr (out, (b, ((i : Int), (x, (c, ((k : Int), (s6, (s7, s8))))))))) else some (Sum.inl (Sum.inr (out, (b, (s6, (s7, s8))))))) = some (Sum.inr (out, (b, ((i : Int), (x, (c, ((k : Int), (s6, (s7, s8))))))))) := by
            by_cases g1 : (k : Int) < (b.length : Int)
            · rw [decide_eq_true g1]; rfl
            · have : c > 0 := by rcases hgo with h | h <;> omega
              rw [decide_eq_false g1, decide_eq_true this]; rfl
          rw [hcond]
          have i1 : idxI ((i : Int) + (k : Int)) out.length = some (i + k) := by rw [show (i : Int) + (k : Int) = ((i + k : Nat) : Int) by omega]; exact BG hp
          simp only [Option.bind_some, Sum.elim_inr]
          rw [wrapI (n := (i : Int) + (k : Int)) (by omega) (by omega), i1]
          simp only [Option.bind_some, An hp, Eu]
          rw [wrapI (n := x * dg b k) (by omega) (by omega), wrapI (n := dg out (i + k) + x * dg b k) (by omega) (by omega), wrapI (n := dg out (i + k) + x * dg b k + c) (by omega) (by omega),
            Int.tmod_eq_emod_of_nonneg (by omega), Int.tdiv_eq_ediv_of_nonneg (by omega), wrapI (n := (dg out (i + k) + x * dg b k + c) / 65536) (by omega) (by omega), wrap1 (by omega)]
        · have hkb' : k = b.length := by omega
          have z1 : dg b k = 0 := D6 (by omega)
          have z2 : dg out (i + k) = 0 := by rw [hR.hi _ (Nat.le_refl _), hz _ (by omega)]
          rw [z1, z2, Int.mul_zero]
          omega
      · have hkb : b.length ≤ k := by omega
        have hcz : c = 0 := by omega
        subst hcz
        refine .inr ⟨_, ?_, out, rfl, hl, hR.lb, fun j hj => ?_, ?_⟩
        · unfold BN
          rw [decide_eq_false (by omega), decide_eq_false (by omega)]
          rfl
        · rw [hR.hi j (by omega), hz j (by omega)]
        · have := hR.v
          rw [List.take_of_length_le hkb] at this
          omega) (out0, (b, ((i : Int), (x, ((0 : Int), ((0 : Int), (s6, (s7, s8)))))))) ⟨0, out0, 0, rfl, by omega, Row.start h0 i x b, by omega⟩
  exact ⟨out, h1, h2⟩
theorem PO {a b : List Int} (ha : LB a) (hb : LB b) (na : a.length ≤ 100000) (nb : b.length ≤ 100000) : Cj a b = some (lim (val a * val b).toNat) := by
  unfold Cj
  rw [wrapI (n := ((a.length : Nat) : Int) + ((b.length : Nat) : Int)) (by omega) (by omega), wrapI (by omega) (by omega), show ((a.length : Nat) : Int) + ((b.length : Nat) : Int) + 1 = ((a.length + b.length + 1 : Nat) : Int) by omega, E7 (by unfold maxBytes; omega) (by unfold maxBytes; omega)]
  simp only [Option.bind_some]
  obtain ⟨out, h1, h2⟩ := Fd (body := fun (s : ((List Int) × ((List Int) × ((List Int) × (Int × Int))))) => Cv s.1 s.2.1 s.2.2.1 s.2.2.2.1 s.2.2.2.2)
    (st := fun i (o : List Int) => (o, (b, (a, (((a.length : Nat) : Int), (i : Int)))))) (fin := fun o => o)
    (I := fun i o => o.length = a.length + b.length + 1 ∧ LB o ∧ (∀ j, i + b.length ≤ j → dg o j = 0) ∧ val o = val (a.take i) * val b) (e := a.length)
    (by
      rintro i o hi ⟨h1, h2, h3, h4⟩
      have hd := AJ ha i
      obtain ⟨o1, q1, q2, q3, q4, q5⟩ := Vg hd h2 hb (show i + b.length < o.length by omega) h3 (by omega) a ((a.length : Nat) : Int) (i : Int)
      refine ⟨o1, ?_, by omega, q3, q4, ?_⟩
      · unfold Cv
        dsimp only
        rw [decide_eq_true (by omega), Al, An hi]
        simp only [cond_true, Option.bind_some]
        rw [q1]
        simp only [Option.bind_some]
        rw [wrap1 (by omega)]
      · rw [q5, h4, Au, Int.add_mul]
        have : B i * dg a i * val b = B i * (dg a i * val b) := Int.mul_assoc ..
        omega)
    (by
      rintro o _
      unfold Cv
      dsimp only
      rw [decide_eq_false (by omega)]
      rfl) 0 (List.replicate (a.length + b.length + 1) 0) (by omega) ⟨by simp, LB.zeros _, fun j _ => by
        unfold dg; rw [List.getD_eq_getElem?_getD, List.getElem?_replicate]; split <;> rfl, by rw [Ct]; simp [val]⟩
  rw [show ((0 : Nat) : Int) = 0 from rfl] at h1
  rw [h1]
  obtain ⟨g1, g2, g3, g4⟩ := h2
  rw [List.take_length] at g4
  simp only [Option.bind_some]
  rw [De (by unfold Brief; omega)]
  simp only [Option.bind_some]
  rw [Br g2, g4]
end Go.Proofs.YtgfchmagglhohaaGreatDoor.Ev

end
section
namespace Go.Proofs.YtgfchmagglhohaaGreatDoor.Ev
open Go
set_option linter.unusedVariables false
set_option linter.unusedSimpArgs false
set_option linter.unusedSectionVars false
theorem A9 (l : List Int) (h : Nat) : val l = val (l.take h) + B h * val (l.drop h) := by
  rcases Nat.le_or_ge h l.length with hc | hc
  · exact Kf l h hc
  · rw [List.take_of_length_le hc, List.drop_eq_nil_of_le hc]; simp [val]
theorem X5 {l : List Int} (h : LB l) : ((val l).toNat : Int) = val l := by have := Ap h; omega
theorem VX {l : List Int} (hl : LB l) (n k : Nat) (h : l.length ≤ n) : (lim (val l).toNat).length ≤ n := by
  rw [Af, X5 hl]
  have := F7 hl
  have := II h
  omega
end Go.Proofs.YtgfchmagglhohaaGreatDoor.Ev

end
section
namespace Go.Proofs.YtgfchmagglhohaaGreatDoor.Ev
open Go
set_option linter.unusedVariables false
set_option linter.unusedSimpArgs false
set_option linter.unusedSectionVars false
theorem Jc {n : Nat} (h : n ≠ 0) : lim n = ((n % 65536 : Nat) : Int) :: lim (n / 65536) := by
  conv => lhs; unfold lim
  rw [dif_neg h]
theorem IV (s : Bool × List Int) (neg : Bool) : ∀ (f : Nat) (n : Nat) (acc : List Int), n ≤ f → n < 18446744073709551616 → acc.length + (lim n).length ≤ 10000 →
    loopM (fun (s : ((Bool × (List Int)) × ((List Int) × (Bool × Int)))) => Fc s.1 s.2.1 s.2.2.1 s.2.2.2) (s, (acc, (neg, (n : Int)))) = some (s, (acc ++ lim n, neg)) := by
  intro f
  induction f with
  | zero =>
    intro n acc hn _ _
    have : n = 0 := by omega
    subst this
    rw [AH, List.append_nil]
    exact Aw rfl
  | succ f ih =>
    intro n acc hn h64 h2
    by_cases h0 : n = 0
    · subst h0
      rw [AH, List.append_nil]
      exact Aw rfl
    · rw [Jc h0] at h2 ⊢
      simp only [List.length_cons] at h2
      have hstep : Fc s acc neg (n : Int) = some (.inl (s, (acc ++ [((n % 65536 : Nat) : Int)], (neg, ((n / 65536 : Nat) : Int))))) := by
        unfold Fc
        rw [decide_eq_true (by omega), Int.tmod_eq_emod_of_nonneg (by omega), Int.tdiv_eq_ediv_of_nonneg (by omega), wrapI (by omega) (by omega), wrapU (by omega) (by omega)]
        simp only [cond_true]
        rw [app1 (by omega)]
        simp only [Option.bind_some]
        rw [show (n : Int) % 65536 = ((n % 65536 : Nat) : Int) by omega, show (n : Int) / 65536 = ((n / 65536 : Nat) : Int) by omega]
      have := ih (n / 65536) (acc ++ [((n % 65536 : Nat) : Int)]) (by omega) (by omega) (by simp; omega)
      rw [Bx hstep, this, List.append_assoc]
      rfl
theorem lim64 {n : Nat} (h : n < 18446744073709551616) : (lim n).length ≤ 4 := Af.2 (by have : B 4 = 18446744073709551616 := rfl; omega)
theorem LV {n : Int} (h1 : -9223372036854775808 ≤ n) (h2 : n ≤ 9223372036854775807) : Cy n = some (big n) := by
  unfold Cy
  have hl := lim64 (n := n.natAbs) (by omega)
  by_cases h : n < 0
  · have e : IntKind.wrap .u64 (0 - IntKind.wrap .u64 n) = (n.natAbs : Int) := by rw [IntKind.wrap_u64, IntKind.wrap_u64]; omega
    rw [decide_eq_true h]
    simp only [cond_true, Option.bind_some, Sum.elim_inr]
    rw [e, IV (false, []) true n.natAbs n.natAbs [] (Nat.le_refl _) (by omega) (by simp; omega)]
    unfold big
    rw [decide_eq_true h]
    rfl
  · have e : IntKind.wrap .u64 n = (n.natAbs : Int) := by rw [IntKind.wrap_u64]; omega
    rw [decide_eq_false h]
    simp only [cond_false, Option.bind_some, Sum.elim_inr]
    rw [e, IV (false, []) false n.natAbs n.natAbs [] (Nat.le_refl _) (by omega) (by simp; omega)]
    unfold big
    rw [decide_eq_false h]
    rfl
theorem PG (s : Bool × List Int) (m : Int) : ∀ (f : Nat) (n : Int) (acc : List Int), n.natAbs ≤ f → -9223372036854775808 ≤ n → n ≤ 9223372036854775807 → acc.length + (lim n.natAbs).length ≤ 10000 →
    loopM (fun (s : ((Bool × (List Int)) × ((List Int) × (Int × Int)))) => Fg s.1 s.2.1 s.2.2.1 s.2.2.2) (s, (acc, (m, n))) = some (s, (acc ++ lim n.natAbs, m)) := by
  intro f
  induction f with
  | zero =>
    intro n acc hn _ _ _
    have : n = 0 := by omega
    subst this
    rw [show (0 : Int).natAbs = 0 from rfl, AH, List.append_nil]
    exact Aw rfl
  | succ f ih =>
    intro n acc hn h1 h2 h3
    by_cases h0 : n = 0
    · subst h0
      rw [show (0 : Int).natAbs = 0 from rfl, AH, List.append_nil]
      exact Aw rfl
    · rw [Jc (show n.natAbs ≠ 0 by omega)] at h3 ⊢
      simp only [List.length_cons] at h3
      have hq : (Int.tdiv n 65536).natAbs = n.natAbs / 65536 := by rw [Int.natAbs_tdiv]; rfl
      have hq1 : -9223372036854775808 ≤ Int.tdiv n 65536 ∧ Int.tdiv n 65536 ≤ 9223372036854775807 := by omega
      have hr : ((Int.tmod n 65536).natAbs : Int) = ((n.natAbs % 65536 : Nat) : Int) := by rw [Int.natAbs_tmod]; rfl
      have hstep : Fg s acc m n = some (.inl (s, (acc ++ [((n.natAbs % 65536 : Nat) : Int)], (m, Int.tdiv n 65536)))) := by
        unfold Fg
        have : (n != 0) = true := by simpa using h0
        rw [this, wrapI (n := Int.tdiv n 65536) (by omega) (by omega)]
        simp only [cond_true]
        by_cases hneg : Int.tmod n 65536 < 0
        · rw [decide_eq_true hneg, wrapI (by omega) (by omega)]
          simp only [cond_true]
          rw [app1 (by omega), show (0 : Int) - Int.tmod n 65536 = ((n.natAbs % 65536 : Nat) : Int) by omega]
          rfl
        · rw [decide_eq_false hneg]
          simp only [cond_false]
          rw [app1 (by omega), show Int.tmod n 65536 = ((n.natAbs % 65536 : Nat) : Int) by omega]
          rfl
      have := ih (Int.tdiv n 65536) (acc ++ [((n.natAbs % 65536 : Nat) : Int)]) (by omega) hq1.1 hq1.2 (by rw [hq]; simp; omega)
      rw [Bx hstep, this, List.append_assoc, hq]
      rfl
theorem WT {n : Int} (h1 : -9223372036854775808 ≤ n) (h2 : n ≤ 9223372036854775807) : Ek n = some (big n) := by
  unfold Ek
  have hl := lim64 (n := n.natAbs) (by omega)
  rw [PG (false, []) n n.natAbs n [] (Nat.le_refl _) h1 h2 (by simp; omega)]
  simp only [Option.bind_some, List.nil_append]
  rw [Ey (Ar _) (by unfold Brief; omega)]
  simp only [Option.bind_some, Ai, Int.toNat_natCast]
  unfold big
  by_cases h : n < 0
  · rw [decide_eq_true h, decide_eq_true (show n.natAbs ≠ 0 by omega)]; rfl
  · rw [decide_eq_false h]; rfl
theorem SC (z : Int) : AN (big z) = some (cmpZ z 0) := by
  unfold AN big
  by_cases h0 : z = 0
  · subst h0
    rw [show (0 : Int).natAbs = 0 from rfl, AH]
    rfl
  · have : ((((lim z.natAbs).length : Nat) : Int) == 0) = false := beq_eq_false_iff_ne.2 (by
      intro h
      have h2 : lim z.natAbs = [] := List.eq_nil_of_length_eq_zero (by omega)
      have := Fi.1 h2
      omega)
    rw [this]
    by_cases h : z < 0
    · rw [decide_eq_true h, Cx h]; rfl
    · rw [decide_eq_false h, Dh (by omega)]; rfl
theorem Px {x y : Int} {k : Nat} (hk : k ≤ 1000000) (hx : (x.natAbs : Int) < B k) (hy : (y.natAbs : Int) < B k) : Ck (big x) (big y) = some (cmpZ x y) := by
  have lx := C2 hx hk
  have ly := C2 hy hk
  unfold Ck
  have e1 : AN ((big x).1, (big x).2) = some (cmpZ x 0) := SC x
  have e2 : AN ((big y).1, (big y).2) = some (cmpZ y 0) := SC y
  simp only [e1, e2, Option.bind_some, J2]
  have e3 : AU (big x).2 (big y).2 = some (cmpZ (x.natAbs : Int) (y.natAbs : Int)) := EC (by unfold Brief; omega) (by unfold Brief; omega)
  rw [e3]
  have cx := Bk x 0
  have cy := Bk y 0
  have c3 := Bk (x.natAbs : Int) (y.natAbs : Int)
  have cxy := Bk x y
  have cs := Bk (cmpZ x 0) (cmpZ y 0)
  by_cases h : cmpZ x 0 = cmpZ y 0
  · rw [h, bne_self_eq_false]
    simp only [cond_false, Option.bind_some]
    rcases cy with ⟨cy, _⟩ | ⟨cy, _⟩ | ⟨cy, _⟩ <;> rw [cy] at h ⊢ <;> rcases c3 with ⟨c3, _⟩ | ⟨c3, _⟩ | ⟨c3, _⟩ <;> rw [c3] <;> rw [wrapI (by omega) (by omega)] <;> congr 1 <;> omega
  · have hb : (cmpZ x 0 != cmpZ y 0) = true := by simpa using h
    rw [hb]
    simp only [cond_true]
    congr 1
    omega
theorem UQ {z : Int} : Cg (big z) = some (if (z.natAbs : Int) < B 40 then (big z, true) else ((false, []), false)) := by
  unfold Cg big
  dsimp only
  by_cases h : (z.natAbs : Int) < B 40
  · have := Af.2 h
    rw [decide_eq_false (by omega), if_pos h]; rfl
  · have : ¬ (lim z.natAbs).length ≤ 40 := fun hh => h (Af.1 hh)
    rw [decide_eq_true (by omega), if_neg h]; rfl
theorem VV {z : Int} : CW (big z) = some (if (z.natAbs : Int) < B 40 then (big z, true) else ((false, []), false)) := by
  unfold CW big
  dsimp only
  by_cases h : (z.natAbs : Int) < B 40
  · have := Af.2 h
    rw [decide_eq_false (by omega), if_pos h]; rfl
  · have : ¬ (lim z.natAbs).length ≤ 40 := fun hh => h (Af.1 hh)
    rw [decide_eq_true (by omega), if_neg h]; rfl
end Go.Proofs.YtgfchmagglhohaaGreatDoor.Ev

end
section
namespace Go.Proofs.YtgfchmagglhohaaGreatDoor.Ev
open Go
set_option linter.unusedVariables false
set_option linter.unusedSimpArgs false
set_option linter.unusedSectionVars false
theorem JW {a q r by_ : Int} (h : q * by_ + r = a) (h0 : 0 ≤ r) (h1 : r < by_) : q = a / by_ ∧ r = a % by_ := by
  have : a = r + by_ * q := by rw [← h, Int.mul_comm]; omega
  subst this
  constructor
  · rw [Int.add_mul_ediv_left _ _ (by omega), Int.ediv_eq_zero_of_lt h0 h1]; omega
  · rw [Int.add_mul_emod_self_left, Int.emod_eq_of_lt h0 h1]
theorem LK {a : List Int} {d : Int} (ha : LB a) (hd : 1 ≤ d ∧ d ≤ 65536) (na : a.length ≤ 10000000) :
    ∃ q r, loopM (fun (s : ((List Int) × ((List Int) × (Int × (Int × Int))))) => Ci s.1 s.2.1 s.2.2.1 s.2.2.2.1 s.2.2.2.2) (List.replicate a.length 0, (a, (d, (0, (a.length : Int) - 1)))) = some (q, r) ∧ LB q ∧ q.length = a.length ∧ 0 ≤ r ∧ r < d ∧ val q * d + r = val a := by
  obtain ⟨⟨q, r⟩, h1, h2⟩ := HS (body := fun (s : ((List Int) × ((List Int) × (Int × (Int × Int))))) => Ci s.1 s.2.1 s.2.2.1 s.2.2.2.1 s.2.2.2.2)
    (st := fun n (b : List Int × Int) => (b.1, (a, (d, (b.2, (n : Int) - 1))))) (fin := fun b => b)
    (I := fun n b => n ≤ a.length ∧ LB b.1 ∧ b.1.length = a.length ∧ (∀ j, j < n → dg b.1 j = 0) ∧ 0 ≤ b.2 ∧ b.2 < d ∧ val b.1 * d + B n * b.2 = B n * val (a.drop n))
    (by
      rintro n ⟨q, r⟩ ⟨h1, h2, h3, h4, h5, h6, h7⟩
      simp only at h2 h3 h4 h5 h6 h7
      have hn : n < a.length := by omega
      have hg := List.getElem?_eq_getElem hn
      have dx := AJ ha n
      have hx : a[n] = dg a n := (CX hg).symm
      have hq : q[n]? = some 0 := by rw [An (by omega), h4 n (by omega)]
      have ht0 : 0 ≤ r * 65536 + dg a n := by omega
      have hdd := Int.emod_add_mul_ediv (r * 65536 + dg a n) d
      have m0 := Int.emod_nonneg (r * 65536 + dg a n) (show d ≠ 0 by omega)
      have m1 := Int.emod_lt_of_pos (r * 65536 + dg a n) (show 0 < d by omega)
      have q0 := Int.ediv_nonneg ht0 (show 0 ≤ d by omega)
      have q1 : (r * 65536 + dg a n) / d < 65536 := by
        refine Int.ediv_lt_of_lt_mul (by omega) ?_
        have : r * 65536 + dg a n < d * 65536 := by omega
        rw [Int.mul_comm 65536 d]
        exact this
      refine ⟨(q.set n ((r * 65536 + dg a n) / d), (r * 65536 + dg a n) % d), ?_, by omega, h2.set ⟨q0, q1⟩, by simp [h3], fun j hj => by simp only; rw [Bz (by omega)]; exact h4 j (by omega), m0, m1, ?_⟩
      · unfold Ci getN
        dsimp only
        have hz : (d == 0) = false := beq_eq_false_iff_ne.2 (by omega)
        have hs : ((n + 1 : Nat) : Int) - 1 = (n : Int) := by omega
        have i1 : idxI (n : Int) q.length = some n := BG (by omega)
        rw [hs, decide_eq_true (by omega), Al, hg]
        simp only [cond_true, Option.bind_some, hz, cond_false, i1, hq, hx]
        rw [wrapI (n := r * 65536) (by omega) (by omega), wrapI (n := r * 65536 + dg a n) (by omega) (by omega), Int.tdiv_eq_ediv_of_nonneg ht0, Int.tmod_eq_emod_of_nonneg ht0, wrapI (n := (r * 65536 + dg a n) / d) (by omega) (by omega), wrapI (n := (n : Int) - 1) (by omega) (by omega)]
      · simp only
        rw [DL hq, List.drop_eq_getElem_cons hn, hx]
        simp only [val, Int.sub_zero]
        have e1 : B (n + 1) * r = B n * (r * 65536) := by simp only [B]; grind
        have e2 : B (n + 1) * val (a.drop (n + 1)) = B n * (65536 * val (a.drop (n + 1))) := by simp only [B]; grind
        rw [e1, e2] at h7
        have e3 : B n * ((r * 65536 + dg a n) / d) * d + B n * ((r * 65536 + dg a n) % d) = B n * (r * 65536) + B n * dg a n := by
          rw [Int.mul_assoc, ← Int.mul_add, ← Int.mul_add]
          congr 1
          rw [Int.mul_comm _ d]
          omega
        rw [Int.add_mul, Int.mul_add]
        omega)
    (by
      rintro ⟨q, r⟩ _
      unfold Ci
      rfl) a.length (List.replicate a.length 0, 0) ⟨Nat.le_refl _, LB.zeros _, by simp, fun j _ => by
        unfold dg; rw [List.getD_eq_getElem?_getD, List.getElem?_replicate]; split <;> rfl, by omega, by simp only; omega, by simp [Ct, val]⟩
  obtain ⟨g1, g2, g3, g4, g5, g6, g7⟩ := h2
  simp only [B, Int.one_mul, List.drop_zero] at g7
  exact ⟨q, r, h1, g2, g3, g5, g6, g7⟩
theorem Mq {a : List Int} {d : Int} (ha : LB a) (hd : 1 ≤ d ∧ d ≤ 65536) (na : a.length ≤ 10000000) :
    ∃ q r, loopM (fun (s : ((List Int) × ((List Int) × (Int × (Int × Int))))) => CL s.1 s.2.1 s.2.2.1 s.2.2.2.1 s.2.2.2.2) (List.replicate a.length 0, (a, (d, (0, (a.length : Int) - 1)))) = some (q, r) ∧ LB q ∧ q.length = a.length ∧ 0 ≤ r ∧ r < d ∧ val q * d + r = val a := by
  obtain ⟨⟨q, r⟩, h1, h2⟩ := HS (body := fun (s : ((List Int) × ((List Int) × (Int × (Int × Int))))) => CL s.1 s.2.1 s.2.2.1 s.2.2.2.1 s.2.2.2.2)
    (st := fun n (b : List Int × Int) => (b.1, (a, (d, (b.2, (n : Int) - 1))))) (fin := fun b => b)
    (I := fun n b => n ≤ a.length ∧ LB b.1 ∧ b.1.length = a.length ∧ (∀ j, j < n → dg b.1 j = 0) ∧ 0 ≤ b.2 ∧ b.2 < d ∧ val b.1 * d + B n * b.2 = B n * val (a.drop n))
    (by
      rintro n ⟨q, r⟩ ⟨h1, h2, h3, h4, h5, h6, h7⟩
      simp only at h2 h3 h4 h5 h6 h7
      have hn : n < a.length := by omega
      have hg := List.getElem?_eq_getElem hn
      have dx := AJ ha n
      have hx : a[n] = dg a n := (CX hg).symm
      have hq : q[n]? = some 0 := by rw [An (by omega), h4 n (by omega)]
      have ht0 : 0 ≤ r * 65536 + dg a n := by omega
      have hdd := Int.emod_add_mul_ediv (r * 65536 + dg a n) d
      have m0 := Int.emod_nonneg (r * 65536 + dg a n) (show d ≠ 0 by omega)
      have m1 := Int.emod_lt_of_pos (r * 65536 + dg a n) (show 0 < d by omega)
      have q0 := Int.ediv_nonneg ht0 (show 0 ≤ d by omega)
      have q1 : (r * 65536 + dg a n) / d < 65536 := by
        refine Int.ediv_lt_of_lt_mul (by omega) ?_
        have : r * 65536 + dg a n < d * 65536 := by omega
        rw [Int.mul_comm 65536 d]
        exact this
      refine ⟨(q.set n ((r * 65536 + dg a n) / d), (r * 65536 + dg a n) % d), ?_, by omega, h2.set ⟨q0, q1⟩, by simp [h3], fun j hj => by simp only; rw [Bz (by omega)]; exact h4 j (by omega), m0, m1, ?_⟩
      · unfold CL getN
        dsimp only
        have hz : (d == 0) = false := beq_eq_false_iff_ne.2 (by omega)
        have hs : ((n + 1 : Nat) : Int) - 1 = (n : Int) := by omega
        have i1 : idxI (n : Int) q.length = some n := BG (by omega)
        rw [hs, decide_eq_true (by omega), Al, hg]
        simp only [cond_true, Option.bind_some, hz, cond_false, i1, hq, hx]
        rw [wrapI (n := r * 65536) (by omega) (by omega), wrapI (n := r * 65536 + dg a n) (by omega) (by omega), Int.tdiv_eq_ediv_of_nonneg ht0, Int.tmod_eq_emod_of_nonneg ht0, wrapI (n := (r * 65536 + dg a n) / d) (by omega) (by omega), wrapI (n := (n : Int) - 1) (by omega) (by omega)]
      · simp only
        rw [DL hq, List.drop_eq_getElem_cons hn, hx]
        simp only [val, Int.sub_zero]
        have e1 : B (n + 1) * r = B n * (r * 65536) := by simp only [B]; grind
        have e2 : B (n + 1) * val (a.drop (n + 1)) = B n * (65536 * val (a.drop (n + 1))) := by simp only [B]; grind
        rw [e1, e2] at h7
        have e3 : B n * ((r * 65536 + dg a n) / d) * d + B n * ((r * 65536 + dg a n) % d) = B n * (r * 65536) + B n * dg a n := by
          rw [Int.mul_assoc, ← Int.mul_add, ← Int.mul_add]
          congr 1
          rw [Int.mul_comm _ d]
          omega
        rw [Int.add_mul, Int.mul_add]
        omega)
    (by
      rintro ⟨q, r⟩ _
      unfold CL
      rfl) a.length (List.replicate a.length 0, 0) ⟨Nat.le_refl _, LB.zeros _, by simp, fun j _ => by
        unfold dg; rw [List.getD_eq_getElem?_getD, List.getElem?_replicate]; split <;> rfl, by omega, by simp only; omega, by simp [Ct, val]⟩
  obtain ⟨g1, g2, g3, g4, g5, g6, g7⟩ := h2
  simp only [B, Int.one_mul, List.drop_zero] at g7
  exact ⟨q, r, h1, g2, g3, g5, g6, g7⟩
theorem Tn {n : Nat} {d : Int} (hd : 1 ≤ d ∧ d ≤ 65536) (hn : (lim n).length ≤ 10000000) : Db (lim n) d = some (lim (n / d.toNat), ((n % d.toNat : Nat) : Int)) := by
  obtain ⟨q, r, h1, h2, h3, h4, h5, h6⟩ := LK (Ar n) hd hn
  rw [Ai] at h6
  unfold Db
  rw [E7 (by unfold maxBytes; omega) (by unfold maxBytes; omega), wrapI (by omega) (by omega)]
  simp only [Option.bind_some, h1]
  rw [WG (by unfold Brief; omega)]
  simp only [Option.bind_some]
  rw [Br h2]
  obtain ⟨e1, e2⟩ := JW h6 h4 h5
  have hdn : d = (d.toNat : Int) := by omega
  have hv := Ap h2
  have q1 : (val q).toNat = n / d.toNat := by
    have : val q = ((n / d.toNat : Nat) : Int) := by rw [e1, hdn]; simp
    omega
  have q2 : r = ((n % d.toNat : Nat) : Int) := by rw [e2, hdn]; simp
  rw [q1, q2]
theorem U7 {n : Nat} {d : Int} (hd : 1 ≤ d ∧ d ≤ 65535) (hn : (lim n).length ≤ 10000000) : DT (lim n) d = some (lim (n / d.toNat), lim (n % d.toNat)) := by
  obtain ⟨q, r, h1, h2, h3, h4, h5, h6⟩ := Mq (Ar n) (show 1 ≤ d ∧ d ≤ 65536 by omega) hn
  rw [Ai] at h6
  unfold DT
  rw [E7 (by unfold maxBytes; omega) (by unfold maxBytes; omega), wrapI (by omega) (by omega)]
  simp only [Option.bind_some, h1]
  rw [De (by unfold Brief; omega)]
  simp only [Option.bind_some]
  rw [De (by unfold Brief; simp)]
  simp only [Option.bind_some]
  rw [Br h2, Br (LB.cons (by omega) LB.nil)]
  obtain ⟨e1, e2⟩ := JW h6 h4 h5
  have hdn : d = (d.toNat : Int) := by omega
  have hv := Ap h2
  have q1 : (val q).toNat = n / d.toNat := by
    have : val q = ((n / d.toNat : Nat) : Int) := by rw [e1, hdn]; simp
    omega
  have q2 : (val [r]).toNat = n % d.toNat := by
    have : r = ((n % d.toNat : Nat) : Int) := by rw [e2, hdn]; simp
    simp only [val]
    omega
  rw [q1, q2]
end Go.Proofs.YtgfchmagglhohaaGreatDoor.Ev

end
section
namespace Go.Proofs.YtgfchmagglhohaaGreatDoor.Ev
open Go
set_option linter.unusedVariables false
set_option linter.unusedSimpArgs false
set_option linter.unusedSectionVars false
section
variable {P v1 v2 vr top u2 ur q r v U : Int} (hP : 0 < P) (hv1 : 1 ≤ v1) (hv1' : v1 < 65536) (hv2 : 0 ≤ v2 ∧ v2 < 65536) (hvr : 0 ≤ vr ∧ vr < P) (hu2 : 0 ≤ u2 ∧ u2 < 65536) (hur : 0 ≤ ur ∧ ur < P)
  (hv : v = (v1 * 65536 + v2) * P + vr) (hU : U = (top * 65536 + u2) * P + ur) (hq : q * v1 + r = top) (hq0 : 0 ≤ q)
include hP hv1 hv2 hvr hu2 hur hv hU hq hq0
theorem S5 (h : q * v2 > r * 65536 + u2) : U < q * v := by
  have h1 : q * (v1 * 65536 + v2) = (q * v1) * 65536 + q * v2 := by grind
  have h2 : top * 65536 + u2 + 1 ≤ q * (v1 * 65536 + v2) := by omega
  have h3 := Int.mul_le_mul_of_nonneg_right h2 (Int.le_of_lt hP)
  have h4 : 0 ≤ q * vr := Int.mul_nonneg hq0 hvr.1
  have h5 : q * v = q * (v1 * 65536 + v2) * P + q * vr := by rw [hv]; grind
  rw [Int.add_mul] at h3
  omega
theorem Vj (hq1 : q < 65536) (h : q * v2 ≤ r * 65536 + u2) : q * v < U + v := by
  have h1 : q * (v1 * 65536 + v2) = (q * v1) * 65536 + q * v2 := by grind
  have h2 : q * (v1 * 65536 + v2) ≤ top * 65536 + u2 := by omega
  have h3 := Int.mul_le_mul_of_nonneg_right h2 (Int.le_of_lt hP)
  have h4 : q * vr ≤ 65535 * P := Int.le_trans (Int.mul_le_mul_of_nonneg_left (Int.le_of_lt hvr.2) hq0) (Int.mul_le_mul_of_nonneg_right (by omega) (Int.le_of_lt hP))
  have h5 : q * v = q * (v1 * 65536 + v2) * P + q * vr := by rw [hv]; grind
  have h6 : 65536 * P ≤ (v1 * 65536 + v2) * P := Int.mul_le_mul_of_nonneg_right (by omega) (Int.le_of_lt hP)
  omega
theorem Ss (hq1 : q < 65536) (h : 65536 ≤ r) : q * v ≤ U := by
  have h1 : q * (v1 * 65536 + v2) = (q * v1) * 65536 + q * v2 := by grind
  have h7 : q * v2 ≤ q * 65535 := Int.mul_le_mul_of_nonneg_left (by omega) hq0
  have h2 : q * (v1 * 65536 + v2) + 65536 ≤ top * 65536 + u2 := by omega
  have h3 := Int.mul_le_mul_of_nonneg_right h2 (Int.le_of_lt hP)
  have h4 : q * vr ≤ 65535 * P := Int.le_trans (Int.mul_le_mul_of_nonneg_left (Int.le_of_lt hvr.2) hq0) (Int.mul_le_mul_of_nonneg_right (by omega) (Int.le_of_lt hP))
  have h5 : q * v = q * (v1 * 65536 + v2) * P + q * vr := by rw [hv]; grind
  rw [Int.add_mul] at h3
  omega
end
theorem RL {P' v1 vt top ut v U Q : Int} (hP : 0 < P') (hv1 : 1 ≤ v1) (hvt : 0 ≤ vt) (hut : ut < P') (hv : v = v1 * P' + vt) (hU : U = top * P' + ut) (hQ : Q * v ≤ U) (hQ0 : 0 ≤ Q) : Q ≤ top / v1 := by
  rw [Int.le_ediv_iff_mul_le (by omega)]
  by_cases h : Q * v1 ≤ top
  · exact h
  · exfalso
    have h1 : top + 1 ≤ Q * v1 := by omega
    have h2 := Int.mul_le_mul_of_nonneg_right h1 (Int.le_of_lt hP)
    have h3 : 0 ≤ Q * vt := Int.mul_nonneg hQ0 hvt
    have h4 : Q * v = Q * v1 * P' + Q * vt := by rw [hv]; grind
    rw [Int.add_mul] at h2
    omega
end Go.Proofs.YtgfchmagglhohaaGreatDoor.Ev

end
section
namespace Go.Proofs.YtgfchmagglhohaaGreatDoor.Ev
open Go
set_option linter.unusedVariables false
set_option linter.unusedSimpArgs false
set_option linter.unusedSectionVars false
theorem Uc {x c : Int} (hx : x < 65536) (hlo : -4294967296 ≤ x) (hc : c = if x < 0 then (-x + 65536 - 1) / 65536 else 0) :
    0 ≤ x + c * 65536 ∧ x + c * 65536 < 65536 ∧ 0 ≤ c ∧ c ≤ 65536 := by
  subst hc
  split <;> omega
structure Off (u0 u : List Int) (j k : Nat) (c q : Int) (v : List Int) : Prop where
  len : u.length = u0.length
  lb : LB u
  hi : ∀ i, j + k ≤ i → dg u i = dg u0 i
  c0 : 0 ≤ c
  c1 : c ≤ 65536
  v : val u - B (j + k) * c = val u0 - B j * (q * val (v.take k))
theorem Off.start {u0 : List Int} (h : LB u0) (j : Nat) (q : Int) (v : List Int) : Off u0 u0 j 0 0 q v := ⟨rfl, h, fun _ _ => rfl, by omega, by omega, by simp [val]⟩
theorem Off.next {u0 u : List Int} {j k : Nat} {c q : Int} {v : List Int} (h : Off u0 u j k c q v) (hv : LB v) (hq : 0 ≤ q ∧ q < 65536) (hk : j + k < u.length) {c' : Int} (hc : c' = if dg u (j + k) - q * dg v k - c < 0 then (-(dg u (j + k) - q * dg v k - c) + 65536 - 1) / 65536 else 0) :
    Off u0 (u.set (j + k) (dg u (j + k) - q * dg v k - c + c' * 65536)) j (k + 1) c' q v := by
  have du := AJ h.lb (j + k)
  have dv := AJ hv k
  have m0 : 0 ≤ q * dg v k := Int.mul_nonneg hq.1 dv.1
  have m1 : q * dg v k ≤ 65535 * 65535 := Int.le_trans (Int.mul_le_mul_of_nonneg_left (show dg v k ≤ 65535 by omega) hq.1) (Int.mul_le_mul_of_nonneg_right (show q ≤ 65535 by omega) (by omega))
  have hc0 := h.c0
  have hc1 := h.c1
  obtain ⟨s1, s2, s3, s4⟩ := Uc (x := dg u (j + k) - q * dg v k - c) (by omega) (by omega) hc
  refine ⟨by rw [List.length_set]; exact h.len, h.lb.set ⟨s1, s2⟩, fun i hi => by rw [Bz (by omega)]; exact h.hi i (by omega), s3, s4, ?_⟩
  rw [DL (An hk), Au, show j + (k + 1) = j + k + 1 by omega]
  have hv2 := h.v
  have e1 : B (j + k + 1) * c' = B (j + k) * (c' * 65536) := by simp only [B]; grind
  have e2 : B j * (q * (val (v.take k) + B k * dg v k)) = B j * (q * val (v.take k)) + B (j + k) * (q * dg v k) := by rw [Ou]; grind
  have e3 : B (j + k) * (dg u (j + k) - q * dg v k - c + c' * 65536 - dg u (j + k)) = B (j + k) * (c' * 65536) - B (j + k) * (q * dg v k) - B (j + k) * c := by grind
  rw [e1, e2, e3]
  omega
structure Back (u0 u : List Int) (j k : Nat) (c : Int) (v : List Int) : Prop where
  len : u.length = u0.length
  lb : ∀ i, i < j + v.length → 0 ≤ dg u i ∧ dg u i < 65536
  hi : ∀ i, j + k ≤ i → dg u i = dg u0 i
  c0 : 0 ≤ c
  c1 : c < 65536
  v : val u + B (j + k) * c = val u0 + B j * val (v.take k)
theorem V7 {l : List Int} {k j : Nat} {x : Int} (hk : k < l.length) : dg (l.set k x) j = if j = k then x else dg l j := by
  split
  · rename_i h; subst h; exact CX (by rw [List.getElem?_set_self hk])
  · rename_i h; exact Bz (fun hh => h hh.symm)
theorem Back.next {u0 u : List Int} {j k : Nat} {c : Int} {v : List Int} (h : Back u0 u j k c v) (hv : LB v) (hkv : k < v.length) (hk : j + k < u.length) :
    Back u0 (u.set (j + k) ((dg u (j + k) + dg v k + c) % 65536)) j (k + 1) ((dg u (j + k) + dg v k + c) / 65536) v := by
  have du := h.lb (j + k) (by omega)
  have dv := AJ hv k
  have c0 := h.c0
  have c1 := h.c1
  refine ⟨by rw [List.length_set]; exact h.len, fun i hi => ?_, fun i hi => by rw [Bz (by omega)]; exact h.hi i (by omega), by omega, by omega, ?_⟩
  · rw [V7 hk]
    split
    · omega
    · exact h.lb i hi
  · have := RU (out := u) (p := j + k) (o := dg u (j + k)) (d := (dg u (j + k) + dg v k + c) % 65536) (c := c) (c' := (dg u (j + k) + dg v k + c) / 65536) (t := dg v k) (V := val u0 + B j * val (v.take k)) (An hk) (by omega) h.v
    rw [show j + (k + 1) = j + k + 1 by omega, this, Au, Int.mul_add]
    have : B (j + k) * dg v k = B j * (B k * dg v k) := by rw [Ou]; grind
    omega
structure Guess (P v1 v2 vr top u2 ur V U Q : Int) : Prop where
  hP : 0 < P
  hv1 : 1 ≤ v1
  hv1' : v1 < 65536
  hv2 : 0 ≤ v2 ∧ v2 < 65536
  hvr : 0 ≤ vr ∧ vr < P
  hu2 : 0 ≤ u2 ∧ u2 < 65536
  hur : 0 ≤ ur ∧ ur < P
  hV : V = (v1 * 65536 + v2) * P + vr
  hU : U = (top * 65536 + u2) * P + ur
  htop : 0 ≤ top ∧ top < 4294967296
  hQ : Q * V ≤ U
  hQ0 : 0 ≤ Q
  hQ1 : Q < 65536
  hV0 : 0 < V
end Go.Proofs.YtgfchmagglhohaaGreatDoor.Ev

end
section
namespace Go.Proofs.YtgfchmagglhohaaGreatDoor.Ev
open Go
set_option linter.unusedVariables false
set_option linter.unusedSimpArgs false
set_option linter.unusedSectionVars false
theorem J9 {j : Nat} {a b X Y : Int} (ha : 0 ≤ a ∧ a < B j) (hb : 0 ≤ b ∧ b < B j) (h : a + B j * X = b + B j * Y) : X = Y := by
  rcases Int.lt_trichotomy X Y with g | g | g
  · exfalso
    have := Int.mul_le_mul_of_nonneg_left (show X + 1 ≤ Y by omega) (Int.le_of_lt (DX j))
    rw [Int.mul_add] at this
    omega
  · exact g
  · exfalso
    have := Int.mul_le_mul_of_nonneg_left (show Y + 1 ≤ X by omega) (Int.le_of_lt (DX j))
    rw [Int.mul_add] at this
    omega
theorem LN (l : List Int) (n k : Nat) : dg (l.drop n) k = dg l (n + k) := by unfold dg; simp [List.getD_eq_getElem?_getD, List.getElem?_drop]
theorem Bl (l : List Int) (k : Nat) : val (l.drop k) = dg l k + 65536 * val (l.drop (k + 1)) := by
  rcases Nat.lt_or_ge k l.length with h | h
  · rw [List.drop_eq_getElem_cons h, CX (List.getElem?_eq_getElem h)]; rfl
  · rw [List.drop_eq_nil_of_le h, List.drop_eq_nil_of_le (by omega), D6 h]; simp [val]
theorem L1 {l : List Int} (h : ∀ i, i < l.length → 0 ≤ dg l i ∧ dg l i < 65536) : LB l := fun x hx => by
  obtain ⟨i, hi, rfl⟩ := List.getElem_of_mem hx
  have := h i hi
  rwa [CX (List.getElem?_eq_getElem hi)] at this
theorem Xa {l : List Int} {k i : Nat} (h : i < k) : dg (l.take k) i = dg l i := by unfold dg; simp [List.getD_eq_getElem?_getD, List.getElem?_take, h]
theorem T5 {l : List Int} {k : Nat} (h : ∀ i, i < k → 0 ≤ dg l i ∧ dg l i < 65536) : LB (l.take k) := L1 fun i hi => by
  rw [List.length_take] at hi
  rw [Xa (by omega)]
  exact h i (by omega)
theorem GM : ∀ {l : List Int}, (∀ i, dg l i = 0) → val l = 0
  | [], _ => rfl
  | x :: l, h => by
    have h0 := h 0
    have h1 : val l = 0 := GM fun i => h (i + 1)
    simp only [val, h1]
    unfold dg at h0
    simp at h0
    omega
theorem Bo {l : List Int} (h : LB l) (k : Nat) : 0 ≤ val (l.take k) ∧ val (l.take k) < B k := by
  refine ⟨Ap (h.take k), ?_⟩
  have := F7 (h.take k)
  have := II (show (l.take k).length ≤ k by rw [List.length_take]; omega)
  omega
theorem Xo {l : List Int} (h : LB l) {n k : Nat} (hv : val l < B n) (hk : n ≤ k) : dg l k = 0 ∧ val (l.drop k) = 0 := by
  have h1 := A9 l k
  have h2 := Ap (h.take k)
  have h3 := Ap (h.drop k)
  have h4 := II hk
  have h5 : val (l.drop k) = 0 := by
    rcases Int.lt_or_le 0 (val (l.drop k)) with g | g
    · have := Int.mul_le_mul_of_nonneg_left (show 1 ≤ val (l.drop k) by omega) (Int.le_of_lt (DX k))
      omega
    · omega
  have h6 := Bl l k
  have h7 := AJ h k
  have h8 := Ap (h.drop (k + 1))
  exact ⟨by omega, h5⟩
structure Place (u v : List Int) (j m : Nat) : Prop where
  lu : LB u
  lv : LB v
  hv : v.length = m + 2
  top : 1 ≤ dg v (m + 1)
  len : j + m + 2 < u.length
  less : val (u.drop (j + 1)) < val v
section
variable {u v : List Int} {j m : Nat} (H : Place u v j m)
include H
theorem Place.pos : 0 < val v := by
  have h1 := A9 v (m + 1)
  have h2 := Ap (H.lv.take (m + 1))
  have h3 := Bl v (m + 1)
  have h4 := Ap (H.lv.drop (m + 1 + 1))
  have h5 := H.top
  have h6 := Int.mul_le_mul_of_nonneg_left (show 1 ≤ val (v.drop (m + 1)) by omega) (Int.le_of_lt (DX (m + 1)))
  have h7 := DX (m + 1)
  omega
theorem Place.lt : val v < B (m + 2) := by have := F7 H.lv; rwa [H.hv] at this
theorem Place.high {k : Nat} (hk : j + m + 3 ≤ k) : dg u k = 0 ∧ val (u.drop k) = 0 := by
  have h1 := Xo (H.lu.drop (j + 1)) (n := m + 2) (k := k - (j + 1)) (by have := H.less; have := H.lt; omega) (by omega)
  rw [LN, List.drop_drop, show j + 1 + (k - (j + 1)) = k by omega] at h1
  exact h1
theorem Place.rest : 0 ≤ val (u.drop j) ∧ val (u.drop j) < 65536 * val v := by
  refine ⟨Ap (H.lu.drop j), ?_⟩
  have h1 := Bl u j
  have h2 := AJ H.lu j
  have h3 := H.less
  omega
theorem Place.quot : 0 ≤ val (u.drop j) / val v ∧ val (u.drop j) / val v < 65536 := by
  obtain ⟨h1, h2⟩ := H.rest
  have h3 := H.pos
  exact ⟨Int.ediv_nonneg h1 (by omega), Int.ediv_lt_of_lt_mul h3 h2⟩
theorem Place.mod : 0 ≤ val (u.drop j) - val (u.drop j) / val v * val v ∧ val (u.drop j) - val (u.drop j) / val v * val v < val v := by
  have h1 := Int.emod_add_mul_ediv (val (u.drop j)) (val v)
  have h2 := Int.emod_nonneg (val (u.drop j)) (show val v ≠ 0 by have := H.pos; omega)
  have h3 := Int.emod_lt_of_pos (val (u.drop j)) H.pos
  rw [Int.mul_comm] at h1
  omega
theorem Place.guess : Guess (B m) (dg v (m + 1)) (dg v m) (val (v.take m)) (dg u (j + m + 2) * 65536 + dg u (j + m + 1)) (dg u (j + m)) (val ((u.drop j).take m)) (val v) (val (u.drop j)) (val (u.drop j) / val v) := by
  have d1 := AJ H.lu (j + m + 1)
  have d2 := AJ H.lu (j + m + 2)
  have hm := H.mod
  have hq := H.quot
  refine ⟨DX m, H.top, (AJ H.lv _).2, AJ H.lv _, Bo H.lv m, AJ H.lu _, Bo (H.lu.drop j) m, ?_, ?_, by omega, by omega, hq.1, hq.2, H.pos⟩
  · rw [A9 v m, Bl v m, Bl v (m + 1), List.drop_eq_nil_of_le (show v.length ≤ m + 1 + 1 by rw [H.hv]; omega)]
    simp only [val]
    grind
  · rw [A9 (u.drop j) m, List.drop_drop, Bl u (j + m), Bl u (j + m + 1), Bl u (j + m + 1 + 1), (H.high (k := j + m + 1 + 1 + 1) (by omega)).2, show j + m + 1 + 1 = j + m + 2 by omega]
    grind
theorem Place.after {u4 : List Int} (hl : u4.length = u.length) (hg : ∀ i, i < j + m + 2 → 0 ≤ dg u4 i ∧ dg u4 i < 65536) (hh : ∀ i, j + m + 2 < i → dg u4 i = dg u i) {x : Int} (hv : val u4 = val u - B j * (x * val v)) :
    val (u4.drop j) = val (u.drop j) - x * val v ∧ ∃ X, 0 ≤ X ∧ X < B (m + 2) ∧ val (u.drop j) - x * val v = X + B (m + 2) * dg u4 (j + m + 2) := by
  have e1 : val (u4.drop j) = val (u.drop j) - x * val v := by
    have h1 := A9 u4 j
    have h2 := A9 u j
    have h3 := Bo H.lu j
    have h4 : LB (u4.take j) := T5 fun i hi => hg i (by omega)
    have h5 := Bo h4 j
    rw [List.take_take, Nat.min_self] at h5
    refine J9 (j := j) h5 h3 ?_
    rw [Int.mul_sub]
    omega
  refine ⟨e1, val ((u4.drop j).take (m + 2)), ?_⟩
  have h4 : LB ((u4.drop j).take (m + 2)) := T5 fun i hi => by rw [LN]; exact hg _ (by omega)
  have h5 := Bo h4 (m + 2)
  rw [List.take_take, Nat.min_self] at h5
  refine ⟨h5.1, h5.2, ?_⟩
  rw [← e1, A9 (u4.drop j) (m + 2), List.drop_drop, Bl u4 (j + (m + 2)), GM (l := u4.drop (j + (m + 2) + 1)) fun i => by rw [LN, hh _ (by omega)]; exact (H.high (by omega)).1]
  rw [show j + (m + 2) = j + m + 2 by omega, Int.mul_zero, Int.add_zero]
theorem Place.done {u4 : List Int} (hl : u4.length = u.length) (hg : ∀ i, i < j + m + 2 → 0 ≤ dg u4 i ∧ dg u4 i < 65536) (hh : ∀ i, j + m + 2 < i → dg u4 i = dg u i) {x : Int} (hv : val u4 = val u - B j * (x * val v))
    (hx : 0 ≤ val (u.drop j) - x * val v ∧ val (u.drop j) - x * val v < val v) : dg u4 (j + m + 2) = 0 ∧ LB u4 ∧ val (u4.drop j) < val v := by
  obtain ⟨h1, X, h2, h3, h4⟩ := H.after hl hg hh hv
  have h0 : dg u4 (j + m + 2) = 0 := by
    have := H.lt
    exact (J9 (j := m + 2) (a := val (u.drop j) - x * val v) (b := X) (X := 0) (by omega) (by omega) (by rw [h4]; simp)).symm
  refine ⟨h0, L1 fun i hi => ?_, by omega⟩
  rcases Nat.lt_trichotomy i (j + m + 2) with g | g | g
  · exact hg i g
  · rw [g, h0]; omega
  · rw [hh i g]; exact AJ H.lu i
theorem Place.one {q : Int} (h1 : val (u.drop j) / val v ≤ q) (h2 : q * val v < val (u.drop j) + val v) : q = val (u.drop j) / val v ∨ q = val (u.drop j) / val v + 1 := by
  have hm := H.mod
  have hp := H.pos
  rcases Int.lt_or_le (val (u.drop j) / val v + 1) q with g | g
  · exfalso
    have := Int.mul_le_mul_of_nonneg_right (show val (u.drop j) / val v + 2 ≤ q by omega) (Int.le_of_lt hp)
    rw [Int.add_mul] at this
    omega
  · omega
end
end Go.Proofs.YtgfchmagglhohaaGreatDoor.Ev

end
section
namespace Go.Proofs.YtgfchmagglhohaaGreatDoor.Ev
open Go
set_option linter.unusedVariables false
set_option linter.unusedSimpArgs false
set_option linter.unusedSectionVars false
theorem Place.start {u v : List Int} {j m : Nat} (H : Place u v j m) : val (u.drop j) / val v ≤ (dg u (j + m + 2) * 65536 + dg u (j + m + 1)) / dg v (m + 1) := by
  have G := H.guess
  have hu2 := G.hu2
  have hur := G.hur
  have hP := G.hP
  have hv2 := G.hv2
  have hvr := G.hvr
  have h1 : dg u (j + m) * B m ≤ 65535 * B m := Int.mul_le_mul_of_nonneg_right (by omega) (by omega)
  have h2 : 0 ≤ dg v m * B m := Int.mul_nonneg hv2.1 (by omega)
  exact RL (P' := 65536 * B m) (vt := dg v m * B m + val (v.take m)) (ut := dg u (j + m) * B m + val ((u.drop j).take m)) (v := val v) (U := val (u.drop j)) (by omega) G.hv1 (by omega) (by omega) (by rw [G.hV]; grind) (by rw [G.hU]; grind) G.hQ G.hQ0
end Go.Proofs.YtgfchmagglhohaaGreatDoor.Ev

end
section
namespace Go.Proofs.YtgfchmagglhohaaGreatDoor.Ev
open Go
set_option linter.unusedVariables false
set_option linter.unusedSimpArgs false
set_option linter.unusedSectionVars false
structure Places (u0 v : List Int) (m n : Nat) (u out : List Int) : Prop where
  len : u.length = u0.length
  lu : LB u
  le : n + (m + 2) ≤ u0.length
  less : val (u.drop n) < val v
  lo : LB out
  olen : out.length + (m + 2) = u0.length
  zero : ∀ i, i < n → dg out i = 0
  v : val u + val v * val out = val u0
theorem Places.place {u0 v u out : List Int} {m n : Nat} (h : Places u0 v m (n + 1) u out) (hv : LB v) (hvl : v.length = m + 2) (ht : 1 ≤ dg v (m + 1)) : Place u v n m :=
  ⟨h.lu, hv, hvl, ht, by have := h.le; have := h.len; omega, h.less⟩
theorem Places.next {u0 v u out u' : List Int} {m n : Nat} (h : Places u0 v m (n + 1) u out) (H : Place u v n m) (h1 : u'.length = u.length) (h2 : LB u') (h3 : val u' = val u - B n * (val (u.drop n) / val v * val v)) (h4 : val (u'.drop n) < val v) :
    Places u0 v m n u' (out.set n (val (u.drop n) / val v)) := by
  have hle := h.le
  have hol := h.olen
  refine ⟨h1.trans h.len, h2, by omega, h4, h.lo.set H.quot, by rw [List.length_set]; exact hol, fun i hi => by rw [Bz (by omega)]; exact h.zero i (by omega), ?_⟩
  have hz := h.zero n (by omega)
  rw [DL (An (show n < out.length by omega)), hz, h3, Int.sub_zero, Int.mul_add]
  have := h.v
  have e : val v * (B n * (val (u.drop n) / val v)) = B n * (val (u.drop n) / val v * val v) := by grind
  omega
theorem Places.start {u0 v : List Int} {m n : Nat} (hu : LB u0) (hv : LB v) (hvl : v.length = m + 2) (ht : 1 ≤ dg v (m + 1)) (hn : u0.length = n + (m + 2)) (h0 : dg u0 (n + (m + 1)) = 0) : Places u0 v m n u0 (List.replicate n 0) := by
  refine ⟨rfl, hu, by omega, ?_, LB.zeros n, by simp; omega, fun i hi => by unfold dg; rw [List.getD_eq_getElem?_getD, List.getElem?_replicate]; split <;> rfl, by rw [Ct]; omega⟩
  have h1 := A9 (u0.drop n) (m + 1)
  have h2 := Bo (hu.drop n) (m + 1)
  rw [List.drop_drop, Bl u0 (n + (m + 1)), h0, List.drop_eq_nil_of_le (show u0.length ≤ n + (m + 1) + 1 by omega)] at h1
  simp only [val] at h1
  have h3 := A9 v (m + 1)
  have h4 := Ap (hv.take (m + 1))
  have h5 := Bl v (m + 1)
  have h6 := Ap (hv.drop (m + 1 + 1))
  have h7 := Int.mul_le_mul_of_nonneg_left (show 1 ≤ val (v.drop (m + 1)) by omega) (Int.le_of_lt (DX (m + 1)))
  omega
theorem Places.end {u0 v u out : List Int} {m : Nat} (h : Places u0 v m 0 u out) (hv : LB v) : val out = val u0 / val v ∧ val u = val u0 % val v := by
  have h1 := h.less
  rw [List.drop_zero] at h1
  exact JW (by rw [Int.mul_comm]; have := h.v; omega) (Ap h.lu) h1
theorem TZ {n : Nat} (h : n ≠ 0) : 1 ≤ dg (lim n) ((lim n).length - 1) ∧ dg (lim n) ((lim n).length - 1) < 65536 ∧ B ((lim n).length - 1) * dg (lim n) ((lim n).length - 1) ≤ n ∧ (n : Int) < B ((lim n).length - 1) * (dg (lim n) ((lim n).length - 1) + 1) := by
  have hne : (lim n).length ≠ 0 := fun hh => h (Fi.1 (List.eq_nil_of_length_eq_zero hh))
  have h1 := A9 (lim n) ((lim n).length - 1)
  have h2 := Bo (Ar n) ((lim n).length - 1)
  rw [Bl, List.drop_eq_nil_of_le (show (lim n).length ≤ (lim n).length - 1 + 1 by omega), Ai] at h1
  simp only [val, Int.mul_zero, Int.add_zero] at h1
  have h3 := AJ (Ar n) ((lim n).length - 1)
  refine ⟨?_, h3.2, by omega, by rw [Int.mul_add]; omega⟩
  rcases Int.lt_or_le 0 (dg (lim n) ((lim n).length - 1)) with g | g
  · omega
  · exfalso
    have g0 : dg (lim n) ((lim n).length - 1) = 0 := by omega
    refine L9 n _ (List.getLast?_eq_getElem? .. ▸ An (show (lim n).length - 1 < (lim n).length by omega)) g0
end Go.Proofs.YtgfchmagglhohaaGreatDoor.Ev

end
section
namespace Go.Proofs.YtgfchmagglhohaaGreatDoor.Ev
open Go
set_option linter.unusedVariables false
set_option linter.unusedSimpArgs false
set_option linter.unusedSectionVars false
theorem HQ {l : List Int} {n : Int} {i : Nat} (hn : n = (i : Int)) (h : i < l.length) : getI l n = some (dg l i) := by rw [hn, Al]; exact An h
theorem Ui {n m : Int} {a b k : Nat} (hn : n = (a : Int)) (hm : m = (b : Int)) (h1 : a ≤ b) (h2 : b ≤ k) : subI n m k = some (a, b) := by
  subst hn hm; unfold subI; simp [h1, h2]
theorem WN {b : Nat} (h : (lim b).length = 1) : (lim b) = [(b : Int)] ∧ b < 65536 ∧ b ≠ 0 := by
  match hl : lim b with
  | [] => rw [hl] at h; simp at h
  | [x] =>
    have hv := Ai b
    have hb := Ar b
    rw [hl] at hv hb
    have h0 := hb.head
    simp only [val] at hv
    have : b ≠ 0 := fun h0 => by rw [h0, AH] at hl; simp at hl
    exact ⟨by congr 1; omega, by omega, this⟩
  | x :: y :: l => rw [hl] at h; simp at h
theorem Te {a b c : Nat} (hc : 0 < c) : a * c / (b * c) = a / b ∧ a * c % (b * c) = a % b * c := ⟨Nat.mul_div_mul_right _ _ hc, Nat.mul_mod_mul_right _ _ _⟩
end Go.Proofs.YtgfchmagglhohaaGreatDoor.Ev

end
section
namespace Go.Proofs.YtgfchmagglhohaaGreatDoor.Ev
open Go
set_option linter.unusedVariables false
set_option linter.unusedSimpArgs false
set_option linter.unusedSectionVars false
theorem Rp (v : List Int) (k : Nat) : dg (v ++ [0]) k = dg v k := by
  unfold dg
  simp only [List.getD_eq_getElem?_getD]
  rcases Nat.lt_or_ge k v.length with h | h
  · rw [List.getElem?_append_left h]
  · rw [List.getElem?_append_right h, List.getElem?_eq_none h]
    rcases Nat.eq_zero_or_pos (k - v.length) with g | g
    · rw [g]; rfl
    · rw [List.getElem?_eq_none (by simp; omega)]
theorem Pa (v : List Int) : val (v ++ [0]) = val v := by rw [GJ]; omega
theorem Q4 {v : List Int} (h : LB v) : LB (v ++ [0]) := h.append (LB.cons (by omega) LB.nil)
theorem XR {u0 v : List Int} {q : Int} {j : Nat} (hu : LB u0) (hv : LB v) (hq : 0 ≤ q ∧ q < 65536) (hlen : j + v.length < u0.length) (hl : u0.length ≤ 1000000) :
    ∃ u c, Es u0 v (j : Int) q = some (u, c) ∧ Off u0 u j (v.length + 1) c q (v ++ [0]) := by
  obtain ⟨⟨u, c⟩, h1, h2⟩ := Fd (body := fun (s : ((List Int) × ((List Int) × (Int × (Int × (Int × Int)))))) => Ef s.1 s.2.1 s.2.2.1 s.2.2.2.1 s.2.2.2.2.1 s.2.2.2.2.2)
    (st := fun k (b : List Int × Int) => (b.1, (v, ((j : Int), (q, (b.2, (k : Int))))))) (fin := fun b => (b.1, b.2)) (I := fun k b => Off u0 b.1 j k b.2 q (v ++ [0])) (e := v.length + 1)
    (by
      rintro k ⟨u, c⟩ hk hI
      simp only at hI
      have hul := hI.len
      have hp : j + k < u.length := by omega
      have du := AJ hI.lb (j + k)
      have dv := AJ hv k
      have c0 := hI.c0
      have c1 := hI.c1
      have m0 : 0 ≤ q * dg v k := Int.mul_nonneg hq.1 dv.1
      have m1 : q * dg v k ≤ 65535 * 65535 := Int.le_trans (Int.mul_le_mul_of_nonneg_left (show dg v k ≤ 65535 by omega) hq.1) (Int.mul_le_mul_of_nonneg_right (show q ≤ 65535 by omega) (by omega))
      have hnx := hI.next (Q4 hv) hq hp rfl
      rw [Rp] at hnx
      refine ⟨(u.set (j + k) (dg u (j + k) - q * dg v k - c + (if dg u (j + k) - q * dg v k - c < 0 then (-(dg u (j + k) - q * dg v k - c) + 65536 - 1) / 65536 else 0) * 65536), if dg u (j + k) - q * dg v k - c < 0 then (-(dg u (j + k) - q * dg v k - c) + 65536 - 1) / 65536 else 0), ?_, hnx⟩
      unfold Ef getN
      dsimp only
      have i1 : idxI ((j : Int) + (k : Int)) u.length = some (j + k) := by rw [show (j : Int) + (k : Int) = ((j + k : Nat) : Int) by omega]; exact BG hp
      have hw1 := wrap1 (show k < 4611686018427387904 by omega)
      have hjk := wrapI (n := (j : Int) + (k : Int)) (by omega) (by omega)
      rw [decide_eq_true (by omega), hjk]
      simp only [cond_true, i1, Option.bind_some, An hp, Eu]
      rw [wrapI (n := q * dg v k) (by omega) (by omega), wrapI (n := dg u (j + k) - q * dg v k) (by omega) (by omega), wrapI (n := dg u (j + k) - q * dg v k - c) (by omega) (by omega)]
      have hxb : -4294967296 ≤ dg u (j + k) - q * dg v k - c ∧ dg u (j + k) - q * dg v k - c < 65536 := by omega
      generalize dg u (j + k) - q * dg v k - c = x at *
      by_cases hx : x < 0
      · rw [decide_eq_true hx, if_pos hx, wrapI (n := 0 - x) (by omega) (by omega), wrapI (n := 0 - x + 65536) (by omega) (by omega), wrapI (n := 0 - x + 65536 - 1) (by omega) (by omega), Int.tdiv_eq_ediv_of_nonneg (by omega), show 0 - x + 65536 - 1 = -x + 65536 - 1 by omega]
        rw [wrapI (n := (-x + 65536 - 1) / 65536) (by omega) (by omega), wrapI (n := (-x + 65536 - 1) / 65536 * 65536) (by omega) (by omega), wrapI (n := x + (-x + 65536 - 1) / 65536 * 65536) (by omega) (by omega)]
        simp only [cond_true, Option.bind_some, Sum.elim_inr, hjk, i1, An hp, hw1]
      · rw [decide_eq_false hx, if_neg hx]
        simp only [cond_false, Option.bind_some, Sum.elim_inr, hjk, i1, An hp, hw1, Int.zero_mul, Int.add_zero])
    (by
      rintro ⟨u, c⟩ _
      unfold Ef
      dsimp only
      rw [decide_eq_false (by omega)]
      rfl) 0 (u0, 0) (by omega) (Off.start hu j q (v ++ [0]))
  refine ⟨u, c, ?_, h2⟩
  unfold Es
  dsimp only at h1
  rw [show ((0 : Nat) : Int) = 0 from rfl] at h1
  rw [h1]
  rfl
theorem X0 {u0 v : List Int} {j : Nat} (hu : LB u0) (hv : LB v) (hlen : j + v.length < u0.length) (hl : u0.length ≤ 1000000) :
    ∃ u c, Ew u0 v (j : Int) = some u ∧ Back u0 u j (v.length + 1) c (v ++ [0]) := by
  obtain ⟨⟨u, c⟩, h1, h2⟩ := Fd (body := fun (s : ((List Int) × ((List Int) × (Int × (Int × Int))))) => Eh s.1 s.2.1 s.2.2.1 s.2.2.2.1 s.2.2.2.2)
    (st := fun k (b : List Int × Int) => (b.1, (v, ((j : Int), (b.2, (k : Int)))))) (fin := fun b => b.1) (I := fun k b => Back u0 b.1 j k b.2 (v ++ [0])) (e := v.length + 1)
    (by
      rintro k ⟨u, c⟩ hk hI
      simp only at hI
      have hul := hI.len
      have hp : j + k < u.length := by omega
      have du := hI.lb (j + k) (by simp; omega)
      have dv := AJ hv k
      have c0 := hI.c0
      have c1 := hI.c1
      have hnx := hI.next (Q4 hv) (by simp; omega) hp
      rw [Rp] at hnx
      refine ⟨⟨_, _⟩, ?_, hnx⟩
      unfold Eh getN
      dsimp only
      have i1 : idxI ((j : Int) + (k : Int)) u.length = some (j + k) := by rw [show (j : Int) + (k : Int) = ((j + k : Nat) : Int) by omega]; exact BG hp
      have hw1 := wrap1 (show k < 4611686018427387904 by omega)
      have hjk := wrapI (n := (j : Int) + (k : Int)) (by omega) (by omega)
      rw [decide_eq_true (by omega), hjk]
      simp only [cond_true, i1, Option.bind_some, An hp, Eu]
      rw [wrapI (n := dg u (j + k) + dg v k) (by omega) (by omega), wrapI (n := dg u (j + k) + dg v k + c) (by omega) (by omega), Int.tmod_eq_emod_of_nonneg (by omega), Int.tdiv_eq_ediv_of_nonneg (by omega), wrapI (n := (dg u (j + k) + dg v k + c) / 65536) (by omega) (by omega), hw1])
    (by
      rintro ⟨u, c⟩ _
      unfold Eh
      dsimp only
      rw [decide_eq_false (by omega)]
      rfl) 0 (u0, 0) (by omega) ⟨rfl, fun i _ => AJ hu i, fun _ _ => rfl, by simp only; omega, by simp only; omega, by simp [val]⟩
  refine ⟨u, c, ?_, h2⟩
  unfold Ew
  dsimp only at h1
  rw [show ((0 : Nat) : Int) = 0 from rfl] at h1
  rw [h1]
  rfl
theorem W7 {u v : List Int} {j m : Nat} (H : Place u v j m) (hl : u.length ≤ 1000000) :
    ∃ q, DP u v (j : Int) = some q ∧ val (u.drop j) / val v ≤ q ∧ q < 65536 ∧ q * val v < val (u.drop j) + val v := by
  have G := H.guess
  have hv := H.hv
  have hlen := H.len
  have hrest := H.rest
  have hst := H.start
  have d1 := AJ H.lu (j + m + 1)
  have d2 := AJ H.lu (j + m + 2)
  have hu : j + m < u.length := by omega
  have htop65 : dg u (j + m + 2) * 65536 + dg u (j + m + 1) < 65536 * (dg v (m + 1) + 1) := by
    have hP := G.hP
    have hU := G.hU
    have hV := G.hV
    have hv2 := G.hv2
    have hvr := G.hvr
    have hu2 := G.hu2
    have hur := G.hur
    rcases Int.lt_or_le (dg u (j + m + 2) * 65536 + dg u (j + m + 1)) (65536 * (dg v (m + 1) + 1)) with h | h
    · exact h
    · exfalso
      generalize dg u (j + m + 2) * 65536 + dg u (j + m + 1) = top at *
      generalize dg v (m + 1) = v1 at *
      generalize dg v m = v2 at *
      generalize dg u (j + m) = u2 at *
      generalize val (v.take m) = vr at *
      generalize val ((u.drop j).take m) = ur at *
      have e1 := Int.mul_le_mul_of_nonneg_right (show 65536 * (v1 + 1) * 65536 ≤ top * 65536 + u2 by omega) (Int.le_of_lt hP)
      have e2 := Int.mul_le_mul_of_nonneg_right (show v1 * 65536 + v2 + 1 ≤ (v1 + 1) * 65536 by omega) (Int.le_of_lt hP)
      rw [Int.add_mul, Int.one_mul] at e2
      have e3 : 65536 * (v1 + 1) * 65536 * B m = 65536 * ((v1 + 1) * 65536 * B m) := by grind
      omega
  have hv1 := G.hv1
  have hv1' := G.hv1'
  have htop0 : 0 ≤ dg u (j + m + 2) * 65536 + dg u (j + m + 1) := by omega
  have e1 := Int.emod_add_mul_ediv (dg u (j + m + 2) * 65536 + dg u (j + m + 1)) (dg v (m + 1))
  have e2 := Int.emod_nonneg (dg u (j + m + 2) * 65536 + dg u (j + m + 1)) (show dg v (m + 1) ≠ 0 by omega)
  have e3 : (dg u (j + m + 2) * 65536 + dg u (j + m + 1)) / dg v (m + 1) ≤ dg u (j + m + 2) * 65536 + dg u (j + m + 1) := Int.ediv_le_self _ htop0
  have e4 := Int.ediv_nonneg htop0 (show 0 ≤ dg v (m + 1) by omega)
  have w1 := wrapI (n := dg u (j + m + 2) * 65536) (by omega) (by omega)
  have w2 := wrapI (n := dg u (j + m + 2) * 65536 + dg u (j + m + 1)) (by omega) (by omega)
  have w3 := wrapI (n := (dg u (j + m + 2) * 65536 + dg u (j + m + 1)) / dg v (m + 1)) (by omega) (by omega)
  have g1 : getI u (IntKind.wrap .i64 ((j : Int) + (v.length : Int))) = some (dg u (j + m + 2)) := HQ (by rw [wrapI (by omega) (by omega)]; omega) (by omega)
  have g2 : getI u (IntKind.wrap .i64 (IntKind.wrap .i64 ((j : Int) + (v.length : Int)) - 1)) = some (dg u (j + m + 1)) := HQ (by rw [wrapI (n := (j : Int) + (v.length : Int)) (by omega) (by omega), wrapI (by omega) (by omega)]; omega) (by omega)
  have g3 : getI v (IntKind.wrap .i64 ((v.length : Int) - 1)) = some (dg v (m + 1)) := HQ (by rw [wrapI (by omega) (by omega)]; omega) (by omega)
  have g4 : getI v (IntKind.wrap .i64 ((v.length : Int) - 2)) = some (dg v m) := HQ (by rw [wrapI (by omega) (by omega)]; omega) (by omega)
  have g5 : getI u (IntKind.wrap .i64 (IntKind.wrap .i64 ((j : Int) + (v.length : Int)) - 2)) = some (dg u (j + m)) := HQ (by rw [wrapI (n := (j : Int) + (v.length : Int)) (by omega) (by omega), wrapI (by omega) (by omega)]; omega) (by omega)
  have hz : (dg v (m + 1) == 0) = false := beq_eq_false_iff_ne.2 (by omega)
  obtain ⟨r, h1, h2⟩ := EI (f := fun (s : ((List Int) × ((List Int) × (Int × (Int × (Int × Int)))))) => B7 s.1 s.2.1 s.2.2.1 s.2.2.2.1 s.2.2.2.2.1 s.2.2.2.2.2)
    (I := fun s => ∃ q r : Int, s = (u, (v, ((j : Int), ((v.length : Int), (q, r))))) ∧ q * dg v (m + 1) + r = dg u (j + m + 2) * 65536 + dg u (j + m + 1) ∧ 0 ≤ r ∧ val (u.drop j) / val v ≤ q ∧ q < 4294967296)
    (R := fun q => val (u.drop j) / val v ≤ q ∧ q < 65536 ∧ q * val v < val (u.drop j) + val v) (fun s => s.2.2.2.2.1.toNat) (by
      rintro s ⟨q, r, rfl, f1, f2, f3, f4⟩
      simp only
      have hQ0 := G.hQ0
      have hQ1 := G.hQ1
      have hv2 := G.hv2
      have hu2 := G.hu2
      have htop := G.htop
      have hqv : 0 ≤ q * dg v (m + 1) := Int.mul_nonneg (by omega) (by omega)
      have hqv2 : 0 ≤ q * dg v m := Int.mul_nonneg (by omega) hv2.1
      have hqv2' : q * dg v m ≤ 4294967296 * 65536 := Int.le_trans (Int.mul_le_mul_of_nonneg_left (show dg v m ≤ 65536 by omega) (by omega)) (Int.mul_le_mul_of_nonneg_right (show q ≤ 4294967296 by omega) (by omega))
      have w5 := wrapI (n := q * dg v m) (by omega) (by omega)
      have w6 := wrapI (n := r * 65536) (by omega) (by omega)
      have w7 := wrapI (n := r * 65536 + dg u (j + m)) (by omega) (by omega)
      have w8 := wrapI (n := q - 1) (by omega) (by omega)
      have w9 := wrapI (n := r + dg v (m + 1)) (by omega) (by omega)
      have less : ∀ (hgo : val (u.drop j) / val v ≤ q - 1), ∃ q' r' : Int, (u, (v, ((j : Int), ((v.length : Int), (q - 1, r + dg v (m + 1)))))) = (u, (v, ((j : Int), ((v.length : Int), (q', r'))))) ∧ q' * dg v (m + 1) + r' = dg u (j + m + 2) * 65536 + dg u (j + m + 1) ∧ 0 ≤ r' ∧ val (u.drop j) / val v ≤ q' ∧ q' < 4294967296 := by
        intro hgo
        exact ⟨q - 1, r + dg v (m + 1), rfl, by rw [Int.sub_mul]; omega, by omega, hgo, by omega⟩
      by_cases c2 : r < 65536
      · by_cases c1 : q ≥ 65536
        · refine .inl ⟨(u, (v, ((j : Int), ((v.length : Int), (q - 1, r + dg v (m + 1)))))), ?_, less (by omega), by simp only; omega⟩
          unfold B7
          rw [decide_eq_true c2, decide_eq_true c1]
          simp only [cond_true, Option.bind_some, Sum.elim_inl, Sum.elim_inr, g3, w8, w9]
        · by_cases c3 : q * dg v m > r * 65536 + dg u (j + m)
          · have hlt := S5 G.hP G.hv1 G.hv2 G.hvr G.hu2 G.hur G.hV G.hU f1 (by omega) c3
            have hne : val (u.drop j) / val v ≤ q - 1 := by
              rcases Int.lt_or_le (q - 1) (val (u.drop j) / val v) with h | h
              · have : q = val (u.drop j) / val v := by omega
                have := G.hQ
                subst q
                omega
              · exact h
            refine .inl ⟨(u, (v, ((j : Int), ((v.length : Int), (q - 1, r + dg v (m + 1)))))), ?_, less hne, by simp only; omega⟩
            unfold B7
            rw [decide_eq_true c2, decide_eq_false c1]
            simp only [cond_true, cond_false, Option.bind_some, g4, g5, w5, w6, w7, decide_eq_true c3, Sum.elim_inr, g3, w8, w9]
          · refine .inr ⟨q, ?_, f3, by omega, Vj G.hP G.hv1 G.hv2 G.hvr G.hu2 G.hur G.hV G.hU f1 (by omega) (by omega) (by omega)⟩
            unfold B7
            rw [decide_eq_true c2, decide_eq_false c1]
            simp only [cond_true, cond_false, Option.bind_some, g4, g5, w5, w6, w7, decide_eq_false c3, Sum.elim_inl]
      · have hq65 : q < 65536 := by
          rcases Int.lt_or_le q 65536 with h | h
          · exact h
          · exfalso
            have := Int.mul_le_mul_of_nonneg_right h (show 0 ≤ dg v (m + 1) by omega)
            omega
        have hle := Ss G.hP G.hv1 G.hv2 G.hvr G.hu2 G.hur G.hV G.hU f1 (by omega) hq65 (by omega)
        have hV0 := G.hV0
        refine .inr ⟨q, ?_, f3, hq65, by omega⟩
        unfold B7
        rw [decide_eq_false c2]
        rfl) (u, (v, ((j : Int), ((v.length : Int), ((dg u (j + m + 2) * 65536 + dg u (j + m + 1)) / dg v (m + 1), (dg u (j + m + 2) * 65536 + dg u (j + m + 1)) % dg v (m + 1)))))) ⟨_, _, rfl, by rw [Int.mul_comm]; omega, e2, hst, by omega⟩
  refine ⟨r, ?_, h2⟩
  unfold DP
  simp only [g1, g2, g3, Option.bind_some, hz, cond_false, w1, w2, Int.tdiv_eq_ediv_of_nonneg htop0, Int.tmod_eq_emod_of_nonneg htop0, w3]
  rw [h1]
  rfl
theorem Place.part {u v u' : List Int} {j m : Nat} (H : Place u v j m) (h1 : u'.length = u.length) (h2 : LB u') (h3 : ∀ i, j + m + 3 ≤ i → dg u' i = dg u i) {W e : Int} (h4 : val u' = val u - B j * W + B (j + m + 3) * e) :
    val (u'.drop j) = val (u.drop j) - W + B (m + 3) * e ∧ 0 ≤ val (u'.drop j) ∧ val (u'.drop j) < B (m + 3) := by
  have hz : val (u'.drop (j + (m + 3))) = 0 := GM fun i => by rw [LN, h3 _ (by omega)]; exact (H.high (by omega)).1
  have p1 := A9 (u'.drop j) (m + 3)
  rw [List.drop_drop, hz] at p1
  have p2 := Bo (h2.drop j) (m + 3)
  have p3 := A9 u' j
  have p4 := A9 u j
  have p5 := Bo h2 j
  have p6 := Bo H.lu j
  refine ⟨?_, by omega, by omega⟩
  refine J9 p5 p6 ?_
  have e1 : B (j + m + 3) * e = B j * (B (m + 3) * e) := by rw [show j + m + 3 = j + (m + 3) by omega, Ou]; grind
  rw [Int.mul_add, Int.mul_sub]
  omega
set_option maxHeartbeats 1000000 in
theorem WP {u v out : List Int} {bits : Int} {j m : Nat} (H : Place u v j m) (hl : u.length ≤ 1000000) (hj : j < out.length) :
    ∃ u', A4 u v out bits (j : Int) = some (.inl (u', (v, (out.set j (val (u.drop j) / val v), (bits, (j : Int) - 1))))) ∧
      u'.length = u.length ∧ LB u' ∧ val u' = val u - B j * (val (u.drop j) / val v * val v) ∧ val (u'.drop j) < val v := by
  have hlen := H.len
  have hvl := H.hv
  have hQ := H.quot
  have hmod := H.mod
  have hlt := H.lt
  have hpos := H.pos
  have hB3 : B (m + 3) = 65536 * B (m + 2) := rfl
  obtain ⟨q, hg1, hg2, hg3, hg4⟩ := W7 H hl
  obtain ⟨u1, c, ht1, O⟩ := XR (j := j) (q := q) H.lu H.lv ⟨by omega, hg3⟩ (by omega) hl
  have ov := O.v
  have ol := O.len
  have oc0 := O.c0
  rw [List.take_of_length_le (by simp), Pa, hvl, show j + (m + 2 + 1) = j + m + 3 by omega] at ov
  have oh := O.hi
  rw [hvl, show j + (m + 2 + 1) = j + m + 3 by omega] at oh
  obtain ⟨p1, p2, p3⟩ := H.part ol O.lb oh (W := q * val v) (e := c) (by omega)
  have hge : decide ((j : Int) ≥ 0) = true := decide_eq_true (by omega)
  have w5 := wrapI (n := (j : Int) - 1) (by omega) (by omega)
  have hj0 : idxI (j : Int) out.length = some j := BG hj
  have gout : getN out j = some (dg out j) := An hj
  have hBp := DX (m + 3)
  rcases H.one hg2 hg4 with hq | hq
  · have hc : c = 0 := by
      rw [hq] at p1
      have := J9 (j := m + 3) (a := val (u1.drop j)) (b := val (u.drop j) - val (u.drop j) / val v * val v) (X := 0) (Y := c) ⟨p2, p3⟩ (by omega) (by omega)
      exact this.symm
    subst hc
    refine ⟨u1, ?_, ol, O.lb, by rw [hq] at ov; omega, by rw [hq] at p1; omega⟩
    unfold A4
    simp only [hge, cond_true, hg1, ht1, Option.bind_some, ol, decide_true, show decide ((0 : Int) > 0) = false from rfl, cond_false, hj0, gout, w5]
    rw [hq]
  · have hqv : q * val v = val (u.drop j) / val v * val v + val v := by rw [hq, Int.add_mul, Int.one_mul]
    have hc : c = 1 := by
      have := J9 (j := m + 3) (a := val (u1.drop j)) (b := val (u.drop j) - q * val v + B (m + 3)) (X := 1) (Y := c) ⟨p2, p3⟩ (by omega) (by omega)
      exact this.symm
    subst hc
    obtain ⟨u2, c2, hb1, K⟩ := X0 (u0 := u1) (v := v) (j := j) O.lb H.lv (by omega) (by omega)
    have kl := K.len
    have kh := K.hi
    have kv := K.v
    rw [List.take_of_length_le (by simp), Pa, hvl, show j + (m + 2 + 1) = j + m + 3 by omega] at kv
    rw [hvl, show j + (m + 2 + 1) = j + m + 3 by omega] at kh
    have klb : LB u2 := L1 fun i hi => by
      rcases Nat.lt_or_ge i (j + m + 3) with g | g
      · exact K.lb i (by simp; omega)
      · rw [kh i g]; exact AJ O.lb i
    have e1 : B j * (q * val v) = B j * (val (u.drop j) / val v * val v) + B j * val v := by rw [hqv, Int.mul_add]
    have hall : val u2 = val u - B j * (val (u.drop j) / val v * val v) + B (j + m + 3) * (1 - c2) := by
      rw [Int.mul_sub]; omega
    obtain ⟨k1, k2, k3⟩ := H.part (kl.trans ol) klb (fun i hi => (kh i hi).trans (oh i hi)) hall
    have hc2 : c2 = 1 := by
      have := J9 (j := m + 3) (a := val (u2.drop j)) (b := val (u.drop j) - val (u.drop j) / val v * val v) (X := 0) (Y := 1 - c2) ⟨k2, k3⟩ (by omega) (by omega)
      omega
    subst hc2
    refine ⟨u2, ?_, kl.trans ol, klb, by omega, by omega⟩
    have w7 : IntKind.wrap .i64 (q - 1) = val (u.drop j) / val v := by rw [wrapI (by omega) (by omega)]; omega
    unfold A4
    simp only [hge, cond_true, hg1, ht1, Option.bind_some, ol, decide_true, show decide ((1 : Int) > 0) = true from rfl, hb1, kl, hj0, gout, w5, w7]
end Go.Proofs.YtgfchmagglhohaaGreatDoor.Ev

end
section
namespace Go.Proofs.YtgfchmagglhohaaGreatDoor.Ev
open Go
set_option linter.unusedVariables false
set_option linter.unusedSimpArgs false
set_option linter.unusedSectionVars false
theorem TL {s o t : Nat} (ho : o < 2 ^ s) (h : 2 ^ s * t + o < 4611686018427387904) : orI .i64 (o : Int) ((2 ^ s * t : Nat) : Int) = ((o + 2 ^ s * t : Nat) : Int) := by
  unfold orI
  rw [BitVec.ofInt_natCast, BitVec.ofInt_natCast, BitVec.toNat_or, BitVec.toNat_ofNat, BitVec.toNat_ofNat]
  have h64 : IntKind.bits .i64 = 64 := rfl
  rw [h64, Nat.mod_eq_of_lt (by omega), Nat.mod_eq_of_lt (by omega), Nat.or_comm, ← Nat.two_pow_add_eq_or_of_lt ho, wrapI (by omega) (by omega)]
  omega
theorem Ns {x : Int} {s : Nat} (hs : s ≤ 63) (h0 : -9223372036854775808 ≤ x * 2 ^ s) (h1 : x * 2 ^ s ≤ 9223372036854775807) : shlI .i64 x (IntKind.wrap .u64 (s : Int)) = x * 2 ^ s := by
  unfold shlI
  rw [wrapU (by omega) (by omega), show min ((s : Int).toNat) (IntKind.bits .i64) = s by simp [IntKind.bits]; omega, wrapI h0 h1]
theorem WK {x : Int} {s : Nat} (hs : s ≤ 63) : shrI .i64 x (IntKind.wrap .u64 (s : Int)) = x / 2 ^ s := by
  unfold shrI
  rw [wrapU (by omega) (by omega), show min ((s : Int).toNat) (IntKind.bits .i64) = s by simp [IntKind.bits]; omega]
  exact Int.fdiv_eq_ediv_of_nonneg _ (Int.le_of_lt (Int.pow_pos (by decide)))
theorem HL {s : Nat} (hs : s ≤ 16) : ∃ S T : Nat, S = 2 ^ s ∧ T = 2 ^ (16 - s) ∧ S * T = 65536 ∧ 1 ≤ S ∧ 1 ≤ T ∧ S ≤ 65536 := by
  refine ⟨2 ^ s, 2 ^ (16 - s), rfl, rfl, ?_, Nat.one_le_two_pow, Nat.one_le_two_pow, ?_⟩
  · rw [← Nat.pow_add, show s + (16 - s) = 16 by omega]
  · exact Nat.pow_le_pow_right (by decide) hs
theorem ND {S T x : Int} (hST : S * T = 65536) (hS : 1 ≤ S) (hT : 1 ≤ T) (hx : 0 ≤ x ∧ x < 65536) :
    x * S % 65536 = S * (x % T) ∧ x * S / 65536 = x / T ∧ 0 ≤ x / T ∧ x / T < S ∧ 0 ≤ x % T ∧ x % T < T ∧ S * (x % T) + 65536 * (x / T) = x * S ∧ S * (x % T) + S ≤ 65536 := by
  have e1 := Int.emod_add_mul_ediv x T
  have e2 := Int.emod_nonneg x (show T ≠ 0 by omega)
  have e3 := Int.emod_lt_of_pos x (show 0 < T by omega)
  have e4 := Int.ediv_nonneg hx.1 (show 0 ≤ T by omega)
  have e5 : x / T < S := Int.ediv_lt_of_lt_mul (by omega) (by rw [hST]; exact hx.2)
  have e6 : x * S = S * (x % T) + 65536 * (x / T) := by
    have h2 : S * (x % T + T * (x / T)) = S * (x % T) + (S * T) * (x / T) := by rw [Int.mul_add, Int.mul_assoc]
    rw [e1, hST] at h2
    rw [← h2, Int.mul_comm]
  have e7 : S * (x % T) + S ≤ 65536 := by
    have h2 := Int.mul_le_mul_of_nonneg_left (show x % T + 1 ≤ T by omega) (show 0 ≤ S by omega)
    rw [Int.mul_add, hST] at h2
    omega
  have e8 : 0 ≤ S * (x % T) := Int.mul_nonneg (by omega) e2
  rw [e6]
  refine ⟨?_, ?_, e4, e5, e2, e3, rfl, e7⟩ <;> omega
theorem SM {S T x y R : Int} (hST : S * T = 65536) (hS : 1 ≤ S) (hT : 1 ≤ T) (hx : 0 ≤ x ∧ x < 65536) : (x + 65536 * (y + 65536 * R)) / S = (x + 65536 * y) / S % 65536 + 65536 * ((y + 65536 * R) / S) := by
  have e1 : x + 65536 * (y + 65536 * R) = (x + 65536 * y) + S * (T * 65536 * R) := by
    have : S * (T * 65536 * R) = (S * T) * (65536 * R) := by grind
    rw [this, hST]; omega
  have e2 : (x + 65536 * (y + 65536 * R)) / S = (x + 65536 * y) / S + T * 65536 * R := by rw [e1, Int.add_mul_ediv_left _ _ (by omega)]
  have e3 : (x + 65536 * (y + 65536 * R)) / S % 65536 = (x + 65536 * y) / S % 65536 := by
    rw [e2, show T * 65536 * R = 65536 * (T * R) by grind, Int.add_mul_emod_self_left]
  have e4 : (x + 65536 * (y + 65536 * R)) / S / 65536 = (y + 65536 * R) / S := by
    rw [Int.ediv_ediv_of_nonneg (by omega), Int.mul_comm S, ← Int.ediv_ediv_of_nonneg (by decide)]
    congr 1
    omega
  have e5 := Int.emod_add_mul_ediv ((x + 65536 * (y + 65536 * R)) / S) 65536
  rw [e3, e4] at e5
  omega
structure Up (l out : List Int) (s i : Nat) : Prop where
  lb : LB out
  len : out.length = l.length + 1
  c : dg out i < 2 ^ s
  z : ∀ k, i < k → dg out k = 0
  v : val out = val (l.take i) * 2 ^ s
theorem Up.next {l out : List Int} {s i : Nat} (h : Up l out s i) (hl : LB l) (hs : s ≤ 15) (hi : i < l.length) :
    Up l ((out.set i (dg out i + dg l i * 2 ^ s % 65536)).set (i + 1) (dg l i * 2 ^ s / 65536)) s (i + 1) := by
  obtain ⟨S, T, eS, eT, hST, hS, hT, hS2⟩ := HL (show s ≤ 16 by omega)
  have hSi : ((S : Nat) : Int) = 2 ^ s := by rw [eS]; simp
  have hc := h.c
  rw [← hSi] at hc ⊢
  have hx := AJ hl i
  obtain ⟨d1, d2, d3, d4, d5, d6, d7, d8⟩ := ND (S := (S : Int)) (T := (T : Int)) (by rw [← Int.natCast_mul, hST]; rfl) (by omega) (by omega) hx
  have ho := AJ h.lb i
  have hol := h.len
  have hv := h.v
  rw [← hSi] at hv
  have m0 : 0 ≤ (S : Int) * (dg l i % T) := Int.mul_nonneg (by omega) d5
  rw [d1, d2]
  have hz := h.z (i + 1) (by omega)
  refine ⟨?_, by simp [hol], ?_, fun k hk => ?_, ?_⟩
  · refine (h.lb.set ⟨by omega, by omega⟩).set ⟨d3, by omega⟩
  · rw [V7 (by simp; omega), if_pos rfl, ← hSi]; exact d4
  · rw [Bz (by omega), Bz (by omega)]; exact h.z k (by omega)
  · rw [DL (An (by simp; omega)), Bz (by omega), hz, DL (An (show i < out.length by omega)), hv, Au, ← hSi]
    have e1 : B (i + 1) * (dg l i / T - 0) = B i * (65536 * (dg l i / T)) := by simp only [B]; grind
    have e2 : (val (l.take i) + B i * dg l i) * S = val (l.take i) * S + B i * (dg l i * S) := by grind
    rw [e1, e2, ← d7, Int.mul_add]
    have e3 : B i * (dg out i + S * (dg l i % T) - dg out i) = B i * (S * (dg l i % T)) := by congr 1; omega
    omega
theorem VN {l : List Int} {s : Nat} (hl : LB l) (hs : s ≤ 15) (hn : l.length ≤ 1000000) : ∃ out, FQ l (s : Int) = some out ∧ LB out ∧ out.length = l.length + 1 ∧ val out = val l * 2 ^ s := by
  obtain ⟨out, h1, h2⟩ := Fd (body := fun (s : ((List Int) × (Int × ((List Int) × (Int × Int))))) => FW s.1 s.2.1 s.2.2.1 s.2.2.2.1 s.2.2.2.2)
    (st := fun k (b : List Int) => (b, ((s : Int), (l, ((l.length : Int), (k : Int)))))) (fin := fun b => b) (I := fun k b => Up l b s k) (e := l.length)
    (by
      rintro k out hk hI
      refine ⟨_, ?_, hI.next hl hs hk⟩
      obtain ⟨S, T, eS, eT, hST, hS, hT, hS2⟩ := HL (show s ≤ 16 by omega)
      have hSi : ((S : Nat) : Int) = 2 ^ s := by rw [eS]; simp
      have hx := AJ hl k
      have ho := AJ hI.lb k
      have hol := hI.len
      have hc := hI.c
      rw [← hSi] at hc ⊢
      obtain ⟨d1, d2, d3, d4, d5, d6, d7, d8⟩ := ND (S := (S : Int)) (T := (T : Int)) (by rw [← Int.natCast_mul, hST]; rfl) (by omega) (by omega) hx
      have hxS : 0 ≤ dg l k * (S : Int) ∧ dg l k * (S : Int) ≤ 65536 * 65536 := ⟨Int.mul_nonneg hx.1 (by omega), Int.le_trans (Int.mul_le_mul_of_nonneg_left (show (S : Int) ≤ 65536 by omega) hx.1) (Int.mul_le_mul_of_nonneg_right (by omega) (by decide))⟩
      have hsh : shlI .i64 (dg l k) (IntKind.wrap .u64 (s : Int)) = dg l k * S := by rw [hSi]; exact Ns (by omega) (by rw [← hSi]; omega) (by rw [← hSi]; omega)
      have hor : orI .i64 (dg out k) (dg l k * S % 65536) = dg out k + dg l k * S % 65536 := by
        obtain ⟨o, eo⟩ : ∃ o : Nat, dg out k = (o : Int) := ⟨(dg out k).toNat, by omega⟩
        obtain ⟨t, et⟩ : ∃ t : Nat, dg l k % T = (t : Int) := ⟨(dg l k % T).toNat, by omega⟩
        rw [d1, et, eo, ← Int.natCast_mul, eS, TL (by rw [← eS]; omega) (by
          rw [← eS]
          have : ((S * t : Nat) : Int) ≤ 65536 := by rw [Int.natCast_mul, ← et]; omega
          omega)]
        simp
      have hu : IntKind.wrap .u64 (s : Int) = (s : Int) := wrapU (by omega) (by omega)
      unfold FW getN
      dsimp only
      rw [decide_eq_true (by omega), wrap1 (by omega)]
      have i1 : idxI (k : Int) out.length = some k := BG (by omega)
      have hd : decide (IntKind.wrap .u64 (s : Int) < 0) = false := by rw [hu]; exact decide_eq_false (by omega)
      simp only [cond_true, Al, An hk, Option.bind_some, hd, cond_false, i1, An (show k < out.length by omega), hsh, Int.tmod_eq_emod_of_nonneg hxS.1, Int.tdiv_eq_ediv_of_nonneg hxS.1, hor, List.length_set]
      rw [BG (by omega)]
      simp only [Option.bind_some]
      rw [An (by simp; omega)]
      simp only [Option.bind_some]
      rw [wrapI (n := dg l k * S / 65536) (by omega) (by omega)])
    (by
      rintro out _
      unfold FW
      dsimp only
      rw [decide_eq_false (Int.lt_irrefl _)]
      rfl) 0 (List.replicate (l.length + 1) 0) (by omega) ⟨LB.zeros _, by simp, by
        rw [show dg (List.replicate (l.length + 1) (0 : Int)) 0 = 0 from rfl]
        exact Int.pow_pos (by decide), fun k _ => by unfold dg; rw [List.getD_eq_getElem?_getD, List.getElem?_replicate]; split <;> rfl, by simp [Ct, val]⟩
  have hv := h2.v
  rw [List.take_length] at hv
  refine ⟨out, ?_, h2.lb, h2.len, hv⟩
  unfold FQ
  rw [wrap1 (by omega), E7 (by unfold maxBytes; omega) (by unfold maxBytes; omega)]
  simp only [Option.bind_some]
  rw [show ((0 : Nat) : Int) = 0 from rfl] at h1
  rw [h1]
  rfl
theorem V9 {l : List Int} {s : Nat} (hl : LB l) (hs : s ≤ 15) (hn : l.length ≤ 1000000) : EH l (s : Int) = some (lim (val l / 2 ^ s).toNat) := by
  obtain ⟨S, T, eS, eT, hST, hS, hT, hS2⟩ := HL (show s ≤ 16 by omega)
  have hSi : ((S : Nat) : Int) = 2 ^ s := by rw [eS]; simp
  have hSTi : (S : Int) * T = 65536 := by rw [← Int.natCast_mul, hST]; rfl
  obtain ⟨out, h1, h2⟩ := Fd (body := fun (s : ((List Int) × ((List Int) × (Int × (Int × Int))))) => Eg s.1 s.2.1 s.2.2.1 s.2.2.2.1 s.2.2.2.2)
    (st := fun k (b : List Int) => (b, (l, ((s : Int), ((l.length : Int), (k : Int)))))) (fin := fun b => b)
    (I := fun k b => LB b ∧ b.length = l.length ∧ (∀ i, k ≤ i → dg b i = 0) ∧ val b + B k * (val (l.drop k) / S) = val l / S) (e := l.length)
    (by
      rintro k out hk ⟨g1, g2, g3, g4⟩
      have hx := AJ hl k
      have hy := AJ hl (k + 1)
      have hm0 : 0 ≤ (dg l k + 65536 * dg l (k + 1)) / (S : Int) % 65536 ∧ (dg l k + 65536 * dg l (k + 1)) / (S : Int) % 65536 < 65536 := by omega
      refine ⟨out.set k ((dg l k + 65536 * dg l (k + 1)) / (S : Int) % 65536), ?_, g1.set hm0, by simp [g2], fun i hi => by rw [Bz (by omega)]; exact g3 i (by omega), ?_⟩
      · have hor : orI .i64 (dg l k) (shlI .i64 (dg l (k + 1)) 16) = dg l k + 65536 * dg l (k + 1) := by
          obtain ⟨o, eo⟩ : ∃ o : Nat, dg l k = (o : Int) := ⟨(dg l k).toNat, by omega⟩
          obtain ⟨t, et⟩ : ∃ t : Nat, dg l (k + 1) = (t : Int) := ⟨(dg l (k + 1)).toNat, by omega⟩
          have h16 : shlI .i64 (dg l (k + 1)) 16 = ((2 ^ 16 * t : Nat) : Int) := by
            have := Ns (x := dg l (k + 1)) (s := 16) (by omega) (by omega) (by omega)
            rw [show IntKind.wrap .u64 ((16 : Nat) : Int) = 16 by decide] at this
            rw [this, et]; omega
          rw [h16, eo, TL (by omega) (by omega), et]
          omega
        have hu : IntKind.wrap .u64 (s : Int) = (s : Int) := wrapU (by omega) (by omega)
        unfold Eg getN
        dsimp only
        rw [decide_eq_true (by omega), wrap1 (by omega)]
        have i1 : idxI (k : Int) out.length = some k := BG (by omega)
        have hd : decide (IntKind.wrap .u64 (s : Int) < 0) = false := by rw [hu]; exact decide_eq_false (by omega)
        have hsr : shrI .i64 (dg l k + 65536 * dg l (k + 1)) (IntKind.wrap .u64 (s : Int)) = (dg l k + 65536 * dg l (k + 1)) / (S : Int) := by rw [WK (by omega), hSi]
        have hq0 : 0 ≤ (dg l k + 65536 * dg l (k + 1)) / (S : Int) := Int.ediv_nonneg (by omega) (by omega)
        simp only [cond_true, Al, An hk, Option.bind_some, Eu, hd, cond_false, i1, An (show k < out.length by omega), hor, hsr, Int.tmod_eq_emod_of_nonneg hq0]
      · rw [DL (An (show k < out.length by omega)), g3 k (Nat.le_refl _), Int.sub_zero]
        rw [Bl l k, Bl l (k + 1), SM hSTi (by omega) (by omega) hx, ← Bl l (k + 1), Int.mul_add] at g4
        have e : B (k + 1) * (val (l.drop (k + 1)) / S) = B k * (65536 * (val (l.drop (k + 1)) / S)) := by simp only [B]; grind
        omega)
    (by
      rintro out _
      unfold Eg
      dsimp only
      rw [decide_eq_false (Int.lt_irrefl _)]
      rfl) 0 (List.replicate l.length 0) (by omega) ⟨LB.zeros _, by simp, fun i _ => by unfold dg; rw [List.getD_eq_getElem?_getD, List.getElem?_replicate]; split <;> rfl, by rw [Ct, List.drop_zero]; simp [B]⟩
  obtain ⟨g1, g2, g3, g4⟩ := h2
  rw [List.drop_length, show val [] = 0 from rfl, Int.zero_ediv, Int.mul_zero, Int.add_zero] at g4
  unfold EH
  rw [E7 (by unfold maxBytes; omega) (by unfold maxBytes; omega)]
  simp only [Option.bind_some]
  rw [show ((0 : Nat) : Int) = 0 from rfl] at h1
  rw [h1]
  simp only [Option.bind_some]
  rw [De (by unfold Brief; omega)]
  simp only [Option.bind_some]
  rw [Br g1, g4, hSi]
theorem XL {a b : List Int} {t : Int} {m : Nat} (hm : b.length = m + 1) (hml : m ≤ 1000000) (ht : dg b m = t) (h1 : 1 ≤ t) (h2 : t < 65536) :
    ∃ s : Nat, s ≤ 15 ∧ t * 2 ^ s < 65536 ∧ loopM (fun (s : ((List Int) × ((List Int) × Int))) => BO s.1 s.2.1 s.2.2) (a, (b, 0)) = some (a, (b, (s : Int))) := by
  have bound : ∀ s : Nat, t * 2 ^ s < 65536 → s ≤ 15 := fun s h => by
    have h3 : (2 : Int) ^ s < 2 ^ 16 := by
      have h4 : (1 : Int) * 2 ^ s ≤ t * 2 ^ s := Int.mul_le_mul_of_nonneg_right h1 (Int.le_of_lt (Int.pow_pos (by decide)))
      have h5 : (2 : Int) ^ 16 = 65536 := by decide
      omega
    have h5 : ((2 ^ s : Nat) : Int) < ((2 ^ 16 : Nat) : Int) := by simpa using h3
    have h6 : 2 ^ s < 2 ^ 16 := by omega
    have := (Nat.pow_lt_pow_iff_right (show 1 < 2 by decide)).1 h6
    omega
  obtain ⟨r, g1, s, rfl, g2⟩ := EI (f := fun (s : ((List Int) × ((List Int) × Int))) => BO s.1 s.2.1 s.2.2)
    (I := fun x => ∃ s : Nat, x = (a, (b, (s : Int))) ∧ t * 2 ^ s < 65536) (R := fun x => ∃ s : Nat, x = (a, (b, (s : Int))) ∧ t * 2 ^ s < 65536) (fun x => 100 - x.2.2.toNat) (by
      rintro x ⟨s, rfl, hs⟩
      have hb := bound s hs
      have p0 : (0 : Int) < 2 ^ s := Int.pow_pos (by decide)
      have p1 : 0 ≤ t * 2 ^ s := Int.mul_nonneg (by omega) (by omega)
      have hsh : shlI .i64 t (IntKind.wrap .u64 (s : Int)) = t * 2 ^ s := Ns (by omega) (by omega) (by omega)
      have hu : IntKind.wrap .u64 (s : Int) = (s : Int) := wrapU (by omega) (by omega)
      have hd : decide (IntKind.wrap .u64 (s : Int) < 0) = false := by rw [hu]; exact decide_eq_false (by omega)
      have hg : getI b (IntKind.wrap .i64 ((b.length : Int) - 1)) = some t := by rw [← ht]; exact HQ (by rw [wrapI (by omega) (by omega)]; omega) (by omega)
      simp only
      by_cases hc : t * 2 ^ s < 32768
      · refine .inl ⟨(a, (b, ((s + 1 : Nat) : Int))), ?_, ⟨s + 1, rfl, by rw [Int.pow_succ, ← Int.mul_assoc]; omega⟩, by simp only; omega⟩
        unfold BO
        simp only [hg, Option.bind_some, hd, cond_false, hsh, decide_eq_true hc, cond_true]
        rw [wrap1 (by omega)]
      · refine .inr ⟨(a, (b, (s : Int))), ?_, s, rfl, hs⟩
        unfold BO
        simp only [hg, Option.bind_some, hd, cond_false, hsh, decide_eq_false hc]) (a, (b, 0)) ⟨0, rfl, by simp; omega⟩
  exact ⟨s, bound s g2, g2, g1⟩
theorem VE {u0 v : List Int} {m : Nat} {bits : Int} (hv : LB v) (hvl : v.length = m + 2) (ht : 1 ≤ dg v (m + 1)) (hl : u0.length ≤ 1000000) {n : Nat} {out : List Int} (h : Places u0 v m n u0 out) :
    ∃ u out', loopM (fun (s : ((List Int) × ((List Int) × ((List Int) × (Int × Int))))) => A4 s.1 s.2.1 s.2.2.1 s.2.2.2.1 s.2.2.2.2) (u0, (v, (out, (bits, (n : Int) - 1)))) = some (u, (out', bits)) ∧ Places u0 v m 0 u out' := by
  obtain ⟨⟨u, out'⟩, h1, h2⟩ := HS (body := fun (s : ((List Int) × ((List Int) × ((List Int) × (Int × Int))))) => A4 s.1 s.2.1 s.2.2.1 s.2.2.2.1 s.2.2.2.2)
    (st := fun n (b : List Int × List Int) => (b.1, (v, (b.2, (bits, (n : Int) - 1))))) (fin := fun b => (b.1, (b.2, bits))) (I := fun n b => Places u0 v m n b.1 b.2)
    (by
      rintro n ⟨u, out⟩ hI
      simp only at hI
      have H := hI.place hv hvl ht
      have hle := hI.le
      have hol := hI.olen
      have hul := hI.len
      obtain ⟨u', g1, g2, g3, g4, g5⟩ := WP (out := out) (bits := bits) H (by omega) (by omega)
      refine ⟨(u', out.set n (val (u.drop n) / val v)), ?_, hI.next H g2 g3 g4 g5⟩
      simp only
      rw [show ((n + 1 : Nat) : Int) - 1 = (n : Int) by omega, g1])
    (by
      rintro ⟨u, out⟩ _
      unfold A4
      dsimp only
      rw [decide_eq_false (by omega)]
      rfl) n (u0, out) h
  exact ⟨u, out', h1, h2⟩
theorem Places.start2 {u0 v : List Int} {m n : Nat} (hu : LB u0) (hn : u0.length = n + (m + 2)) (h0 : val (u0.drop n) < val v) : Places u0 v m n u0 (List.replicate n 0) :=
  ⟨rfl, hu, by omega, h0, LB.zeros n, by simp; omega, fun i hi => by unfold dg; rw [List.getD_eq_getElem?_getD, List.getElem?_replicate]; split <;> rfl, by rw [Ct]; omega⟩
set_option maxHeartbeats 1000000 in
theorem PY {a b : Nat} (hb0 : b ≠ 0) (ha : (lim a).length ≤ 90000) (hb : (lim b).length ≤ 90000) : Ce (lim a) (lim b) = some (lim (a / b), lim (a % b)) := by
  unfold Ce
  rw [De (by unfold Brief; omega)]
  simp only [Option.bind_some]
  rw [Jf (L9 a), LS (by unfold Brief; omega) (by unfold Brief; omega)]
  simp only [Option.bind_some]
  by_cases hab : a < b
  · rw [Cx (by omega)]
    simp only [show decide ((-1 : Int) < 0) = true from rfl, cond_true]
    rw [Nat.div_eq_of_lt hab, Nat.mod_eq_of_lt hab, AH]
  have hc : decide (cmpZ (a : Int) b < 0) = false := by
    rcases Bk (a : Int) b with ⟨h, g⟩ | ⟨h, _⟩ | ⟨h, _⟩
    · omega
    · rw [h]; rfl
    · rw [h]; rfl
  simp only [hc, cond_false]
  have hbl : (lim b).length ≠ 0 := fun h => hb0 (Fi.1 (List.eq_nil_of_length_eq_zero h))
  by_cases h1 : (lim b).length = 1
  · obtain ⟨e1, e2, e3⟩ := WN h1
    rw [e1]
    simp only [List.length_singleton, show (((1 : Nat) : Int) == 1) = true from rfl, cond_true]
    rw [show getI [(b : Int)] 0 = some (b : Int) from rfl]
    simp only [Option.bind_some]
    rw [U7 (by omega) (by omega)]
    simp only [Option.bind_some, Int.toNat_natCast]
  have hn1 : ((((lim b).length : Nat) : Int) == 1) = false := beq_eq_false_iff_ne.2 (by omega)
  obtain ⟨m, hm⟩ : ∃ m, (lim b).length = m + 2 := ⟨(lim b).length - 2, by omega⟩
  obtain ⟨t1, t2, t3, t4⟩ := TZ hb0
  rw [hm, show m + 2 - 1 = m + 1 by omega] at t1 t2 t3 t4
  generalize ht : dg (lim b) (m + 1) = t at *
  obtain ⟨s, hs1, hs2, hs3⟩ := XL (a := lim a) (b := lim b) (m := m + 1) (by omega) (by omega) ht t1 t2
  obtain ⟨S, T, eS, eT, hST, hS, hT, hS2⟩ := HL (show s ≤ 16 by omega)
  have hSi : ((S : Nat) : Int) = 2 ^ s := by rw [eS]; simp
  obtain ⟨u, hu1, hu2, hu3, hu4⟩ := VN (Ar a) hs1 (by omega)
  obtain ⟨v, hv1, hv2, hv3, hv4⟩ := VN (Ar b) hs1 (by omega)
  rw [Ai, ← hSi, ← Int.natCast_mul] at hu4 hv4
  simp only [hn1, cond_false, hs3, Option.bind_some, hu1, hv1]
  rw [De (by unfold Brief; omega)]
  simp only [Option.bind_some]
  rw [Br hv2, hv4, Int.toNat_natCast]
  have hBa : (a : Int) < B (lim a).length := Af.1 (Nat.le_refl _)
  have lb : (lim (b * S)).length = m + 2 := by
    apply Nat.le_antisymm
    · rw [Af]
      rw [show ((b * S : Nat) : Int) = (b : Int) * S by simp]
      rw [← hSi] at hs2
      have e1 : (b : Int) * S < B (m + 1) * (t + 1) * S := Int.mul_lt_mul_of_pos_right t4 (by omega)
      have hts : (t + 1) * (S : Int) ≤ 65536 := by
        obtain ⟨d1, d2, d3, d4, d5, d6, d7, d8⟩ := ND (S := (S : Int)) (T := (T : Int)) (by rw [← Int.natCast_mul, hST]; rfl) (by omega) (by omega) (show 0 ≤ t ∧ t < 65536 by omega)
        have d9 : t * S % 65536 = t * S := Int.emod_eq_of_lt (Int.mul_nonneg (by omega) (by omega)) hs2
        rw [Int.add_mul, Int.one_mul, ← d9, d1]
        exact d8
      have e2 : B (m + 1) * ((t + 1) * (S : Int)) ≤ B (m + 1) * 65536 := Int.mul_le_mul_of_nonneg_left hts (Int.le_of_lt (DX _))
      have e3 : B (m + 1) * (t + 1) * S = B (m + 1) * ((t + 1) * (S : Int)) := Int.mul_assoc ..
      have e4 : B (m + 2) = B (m + 1) * 65536 := by simp only [B]; omega
      omega
    · rw [← hm, Af]
      have h1 : ((b * S : Nat) : Int) < B (lim (b * S)).length := Af.1 (Nat.le_refl _)
      have : b * 1 ≤ b * S := Nat.mul_le_mul_left _ (by omega)
      omega
  have hle : (lim b).length ≤ (lim a).length := by rw [Af]; omega
  have hbS0 : b * S ≠ 0 := Nat.mul_ne_zero hb0 (by omega)
  have htop := (TZ hbS0).1
  rw [lb, show m + 2 - 1 = m + 1 by omega] at htop
  generalize hn : (lim a).length - (lim b).length + 1 = n at *
  have w0 : IntKind.wrap .i64 (((lim a).length : Int) - ((lim b).length : Int)) = (n : Int) - 1 := by rw [wrapI (by omega) (by omega)]; omega
  rw [w0, wrapI (n := (n : Int) - 1 + 1) (by omega) (by omega), show (n : Int) - 1 + 1 = (n : Int) by omega, E7 (by unfold maxBytes; omega) (by unfold maxBytes; omega)]
  simp only [Option.bind_some]
  have hless : val (u.drop n) < val (lim (b * S)) := by
    rw [Ai]
    have h1 := A9 u n
    have h2 := Ap (hu2.take n)
    rw [hu4] at h1
    have h3 : B n * val (u.drop n) ≤ ((a * S : Nat) : Int) := by omega
    have h4 : ((a * S : Nat) : Int) < B (lim a).length * S := by rw [Int.natCast_mul]; exact Int.mul_lt_mul_of_pos_right hBa (by omega)
    have h5 : (lim a).length = n + (m + 1) := by omega
    rw [h5, Ou] at h4
    have h6 : B (m + 1) * S ≤ ((b * S : Nat) : Int) := by
      rw [Int.natCast_mul]
      have : B (m + 1) * 1 ≤ B (m + 1) * t := Int.mul_le_mul_of_nonneg_left t1 (Int.le_of_lt (DX _))
      exact Int.mul_le_mul_of_nonneg_right (by omega) (by omega)
    have h7 : B n * (val (u.drop n)) < B n * (B (m + 1) * S) := by rw [← Int.mul_assoc]; omega
    have h8 := Int.lt_of_mul_lt_mul_left h7 (Int.le_of_lt (DX n))
    omega
  obtain ⟨u', out, hp, P⟩ := VE (bits := (s : Int)) (Ar (b * S)) lb htop (by omega) (Places.start2 (n := n) hu2 (by omega) hless)
  rw [hp]
  simp only [Option.bind_some]
  obtain ⟨p1, p2⟩ := P.end (Ar _)
  rw [hu4, Ai] at p1 p2
  obtain ⟨q1, q2⟩ := Te (a := a) (b := b) (c := S) (by omega)
  have p1' : val out = ((a / b : Nat) : Int) := by rw [p1, ← q1]; simp
  have p2' : val u' = ((a % b * S : Nat) : Int) := by rw [p2, ← q2]; simp
  have hul := P.len
  have hol := P.olen
  rw [De (by unfold Brief; omega)]
  simp only [Option.bind_some]
  rw [De (by unfold Brief; omega)]
  simp only [Option.bind_some]
  rw [Br P.lo, Br P.lu, p1', p2', Int.toNat_natCast, Int.toNat_natCast, V9 (Ar _) hs1 (by
    have : (lim (a % b * S)).length ≤ m + 2 := by
      rw [← lb, Af]
      have h1 : ((b * S : Nat) : Int) < B (lim (b * S)).length := Af.1 (Nat.le_refl _)
      have := Nat.mul_lt_mul_of_pos_right (Nat.mod_lt a (show b > 0 by omega)) (show S > 0 by omega)
      omega
    omega), Ai]
  simp only [Option.bind_some]
  rw [← hSi, Int.natCast_mul, Int.mul_ediv_cancel _ (by omega), Int.toNat_natCast]
end Go.Proofs.YtgfchmagglhohaaGreatDoor.Ev

end
section
namespace Go.Proofs.YtgfchmagglhohaaGreatDoor.Ev
open Go
set_option linter.unusedVariables false
set_option linter.unusedSimpArgs false
set_option linter.unusedSectionVars false
theorem PI (n : Nat) : big (n : Int) = (false, lim n) := by unfold big; rw [decide_eq_false (by omega), Int.natAbs_natCast]
theorem W0 (n : Nat) : big (-(n : Int)) = (decide (n ≠ 0), lim n) := by unfold big; congr 1; exact decide_eq_decide.2 (by omega); congr 1; omega
theorem Qn {a b : Nat} (h : a ≤ b) : (lim a).length ≤ (lim b).length := Af.2 (Int.lt_of_le_of_lt (by omega) (Af.1 (Nat.le_refl (lim b).length)))
section
variable {x y : Int} {k : Nat}
end
theorem Hq {b : Nat} (h : b ≠ 0) : decide ((((lim b).length : Nat) : Int) > 0) = true := by rw [G4, JM]; simp [h]
section
variable {x y : Int} {k : Nat}
end
theorem Pz {l : List Int} (neg : Bool) (hl : LB l) (hv : val l ≤ 4611686018427387904) (hn : l.length ≤ 1000) :
    loopM (fun (s : ((Bool × (List Int)) × (Int × Int))) => DW s.1 s.2.1 s.2.2) ((neg, l), (0, (l.length : Int) - 1)) = some ((neg, l), val l) := by
  obtain ⟨n, h1, h2⟩ := HS (body := fun (s : ((Bool × (List Int)) × (Int × Int))) => DW s.1 s.2.1 s.2.2)
    (st := fun k (b : Int) => ((neg, l), (b, (k : Int) - 1))) (fin := fun b => ((neg, l), b)) (I := fun k b => k ≤ l.length ∧ b = val (l.drop k))
    (by
      rintro k b ⟨hk, rfl⟩
      have hkl : k < l.length := by omega
      have hx := AJ hl k
      have e1 := Bl l k
      have e2 := Ap (hl.drop (k + 1))
      have e3 := A9 l k
      have e4 := Ap (hl.take k)
      have e5 : val (l.drop k) ≤ B k * val (l.drop k) := by
        have := Int.mul_le_mul_of_nonneg_right (show 1 ≤ B k by have := DX k; omega) (Ap (hl.drop k))
        omega
      refine ⟨val (l.drop k), ?_, by omega, rfl⟩
      unfold DW
      dsimp only
      rw [decide_eq_true (by omega), show ((k + 1 : Nat) : Int) - 1 = (k : Int) by omega, Al, An hkl]
      simp only [cond_true, Option.bind_some]
      rw [wrapI (n := val (l.drop (k + 1)) * 65536) (by omega) (by omega), wrapI (n := val (l.drop (k + 1)) * 65536 + dg l k) (by omega) (by omega), wrapI (n := (k : Int) - 1) (by omega) (by omega), e1, show val (l.drop (k + 1)) * 65536 + dg l k = dg l k + 65536 * val (l.drop (k + 1)) by omega])
    (by
      rintro b _
      unfold DW
      rfl) l.length 0 ⟨Nat.le_refl _, by rw [List.drop_length]; rfl⟩
  rw [List.drop_zero] at h2
  rw [← h2.2]
  exact h1
def smallR (z : Int) : Int × Bool := if z.natAbs ≤ 4611686018427387904 then (z, true) else (0, false)
theorem Xb (T : Nat) : (big (T : Int)).2 = lim T := by rw [PI]
theorem Wq {z : Int} {T : Nat} (hT : T = 4611686018427387904) : smallR z = if z.natAbs ≤ T then (z, true) else (0, false) := by rw [hT]; rfl
theorem Wo {z : Int} {T : Nat} (hT : T = 4611686018427387904) (hz : (z.natAbs : Int) < B 40) : DH (big z) = some (smallR z) := by
  have lz := Af.2 hz
  have hB4 : B 4 = 18446744073709551616 := rfl
  rw [Wq hT]
  unfold DH
  rw [show (4611686018427387904 : Int) = (T : Int) by omega]
  rw [Bi (by unfold big Brief; dsimp only; omega), Bb hz, LV (by omega) (by omega)]
  simp only [Option.bind_some, Bool.not_true, cond_false]
  rw [show (big z).2 = lim z.natAbs from rfl, Xb, EC (by unfold Brief; omega) (by unfold Brief; have := @lim64 T (by omega); omega)]
  simp only [Option.bind_some]
  by_cases h : z.natAbs ≤ T
  · have hc : decide (cmpZ (z.natAbs : Int) (T : Int) > 0) = false := by
      rcases Bk (z.natAbs : Int) (T : Int) with ⟨g, _⟩ | ⟨g, _⟩ | ⟨g, _⟩
      · rw [g]; rfl
      · omega
      · rw [g]; rfl
    rw [hc, if_pos h, wrapI (by omega) (by omega), show big z = (decide (z < 0), lim z.natAbs) from rfl]
    simp only [cond_false]
    rw [Pz _ (Ar _) (by rw [Ai]; omega) (by omega), Ai]
    simp only [Option.bind_some]
    by_cases hn : z < 0
    · rw [decide_eq_true hn, wrapI (by omega) (by omega)]
      simp only [cond_true]
      rw [show (0 : Int) - (z.natAbs : Int) = z by omega]
    · rw [decide_eq_false hn]
      simp only [cond_false]
      rw [show (z.natAbs : Int) = z by omega]
  · have hc : decide (cmpZ (z.natAbs : Int) (T : Int) > 0) = true := by rw [Dh (by omega)]; rfl
    rw [hc, if_neg h]
    rfl
theorem Xp {z : Int} (hz : (z.natAbs : Int) < B 40) : DH (big z) = some (smallR z) := Wo rfl hz
end Go.Proofs.YtgfchmagglhohaaGreatDoor.Ev

end
section
namespace Go.Proofs.YtgfchmagglhohaaGreatDoor.Ev
open Go
set_option linter.unusedVariables false
set_option linter.unusedSimpArgs false
set_option linter.unusedSectionVars false
theorem peta {α β : Type} (p : α × β) : (p.1, p.2) = p := by cases p; rfl
theorem DG {a : Bool × List Int} (h : a.2.length ≤ 1000000) : Am a a = some true := by
  have hb : Dq a.2 a.2 = some true := by
    unfold Dq
    rw [bne_self_eq_false]
    simp only [cond_false]
    obtain ⟨h1, h2⟩ := Uw (l := a.2) (body := fun (s : ((List Int) × ((List Int) × (Int × Int)))) => Dg s.1 s.2.1 s.2.2.1 s.2.2.2)
      (st := fun k (b : Unit) => (a.2, (a.2, ((a.2.length : Int), (k : Int))))) (step := fun b p => ()) (fin := fun b => .inl ()) (I := fun k b => True)
      (by
        rintro k b p hk _
        have hkl := getL hk
        unfold Dg
        simp only [F9 hk, cond_true, Al, hk, Option.bind_some, bne_self_eq_false, cond_false, wrap1 (show k < 4611686018427387904 by omega)]
        exact ⟨trivial, trivial⟩)
      (by
        rintro b _
        unfold Dg
        simp only [LM, cond_false]) () trivial
    rw [show ((0 : Nat) : Int) = 0 from rfl] at h1
    rw [h1]
    rfl
  unfold Am
  rw [beq_self_eq_true, hb]
  rfl
theorem Ud (z : Int) : BF (big z) = some (decide (z = 0)) := by
  unfold BF
  congr 1
  rw [Bool.eq_iff_iff]
  simp only [beq_iff_eq, decide_eq_true_eq]
  unfold big
  constructor
  · intro h
    have := Fi.1 (List.eq_nil_of_length_eq_zero (show (lim z.natAbs).length = 0 by simpa using h))
    omega
  · rintro rfl
    rw [show (0 : Int).natAbs = 0 from rfl, AH]; rfl
def fitsR (z : Int) : (Bool × List Int) × Bool := if (z.natAbs : Int) < B 40 then (big z, true) else ((false, []), false)
theorem Mg (z : Int) : Cg (big z) = some (fitsR z) := by rw [UQ, fitsR]
theorem OE (z : Int) : CW (big z) = some (fitsR z) := by rw [VV, fitsR]
theorem Bj {z : Int} (h : (z.natAbs : Int) < B 40) : Brief (big z).2 := by have := Af.2 h; unfold big Brief; dsimp only; omega
section
variable {x y : Int} (hx : (x.natAbs : Int) < B 40) (hy : (y.natAbs : Int) < B 40)
include hx hy
theorem KM : Cf [big x, big y] = some true := by
  rw [Rr (by simp) (by intro b hb; simp at hb; rcases hb with rfl | rfl; exact Bj hx; exact Bj hy)]
  simp [Bb hx, Bb hy]
theorem QB : A8 (big x) (big y) = some (fitsR (x + y)) := by
  unfold A8
  simp only [KM hx hy, Option.bind_some, Bool.not_true, cond_false, Kl (k := 40) (by omega) hx hy, Mg, peta]
theorem PW : Bf (big x) (big y) = some (cmpZ x y, true) := by
  unfold Bf
  simp only [Bi (Bj hx), Bi (Bj hy), Bb hx, Bb hy, Option.bind_some, Bool.not_true, cond_false, Px (k := 40) (by omega) hx hy]
end
section
variable {a b : Bool × List Int} (ha : Brief a.2) (hb : Brief b.2) (h : (goodB a && goodB b) = false)
include ha hb h
theorem MC : Cf [a, b] = some false := by
  rw [Rr (by simp) (by intro c hc; simp at hc; rcases hc with rfl | rfl; exact ha; exact hb)]
  simp only [List.all_cons, List.all_nil, Bool.and_true, h]
end
theorem Ej {z : Int} (h : (z.natAbs : Int) < B 40) : fitsR z = (big z, true) := by unfold fitsR; rw [if_pos h]
theorem UU {z : Int} (h : ¬ (z.natAbs : Int) < B 40) : fitsR z = ((false, []), false) := by unfold fitsR; rw [if_neg h]
theorem Fl (z : Int) : (fitsR z).1.2.length ≤ 1000000 := by
  unfold fitsR
  by_cases h : (z.natAbs : Int) < B 40
  · rw [if_pos h]; have := Af.2 h; unfold big; dsimp only; omega
  · rw [if_neg h]; simp
end Go.Proofs.YtgfchmagglhohaaGreatDoor.Ev

end
section
namespace Go.Proofs.YtgfchmagglhohaaGreatDoor.Ev
open Go
set_option linter.unusedVariables false
set_option linter.unusedSimpArgs false
set_option linter.unusedSectionVars false
def Few (n : Nat) (l : List Int) : Prop := LB l ∧ l.length ≤ n
theorem VM {s1 : Bool × List Int} {c : List Int × Int × Int} : ∀ (n : Nat) (k B' : Nat) (c : List Int × Int × Int) (l : List Int), Cur B' c → B' + 6 * n ≤ 100000000000 → n ≤ 1000 → Few k l → k + n ≤ 1000 →
    ∃ c' l', loopM (fun (s : (((List Int) × (Int × Int)) × ((Bool × (List Int)) × ((List Int) × Int)))) => B3 s.1 s.2.1 s.2.2.1 s.2.2.2) (c, (s1, (l, (n : Int)))) = some (c', (s1, l')) ∧ Cur (B' + 6 * n) c' ∧ Few (k + n) l' := by
  intro n
  induction n with
  | zero =>
    intro k B' c l hc hB hn hl hk
    exact ⟨c, l, Aw (by unfold B3; rfl), hc.mono (by omega), hl⟩
  | succ n ih =>
    intro k B' c l hc hB hn hl hk
    obtain ⟨c1, v1, e1, q1, a1, b1⟩ := Fn hc (by omega) 256
    obtain ⟨c2, v2, e2, q2, a2, b2⟩ := Fn q1 (by omega) 256
    have b1 := b1 (by omega)
    have b2 := b2 (by omega)
    obtain ⟨c3, v3, e3, q3, m3⟩ := Jq q2 (by omega) [0, 1, 65535, 32768, 256 * v1 + v2, 7] (by simp) (by simp)
    have hv : 0 ≤ v3 ∧ v3 < 65536 := by simp at m3; omega
    obtain ⟨c', l', h1, h2, h3⟩ := ih (k + 1) (B' + 6) c3 (l ++ [v3]) (q3.mono (by omega)) (by omega) (by omega) ⟨hl.1.append (LB.cons hv LB.nil), by simp; exact hl.2⟩ (by omega)
    refine ⟨c', l', ?_, h2.mono (by omega), by rw [show k + (n + 1) = k + 1 + n by omega]; exact h3⟩
    rw [Bx (s' := (c3, (s1, (l ++ [v3], (n : Int)))))]
    · exact h1
    · unfold B3
      have hd : decide (((n + 1 : Nat) : Int) > 0) = true := decide_eq_true (by omega)
      have hl2 := hl.2
      simp only [hd, cond_true, e1, e2, Option.bind_some, wrapI (n := 256 * v1) (by omega) (by omega), wrapI (n := 256 * v1 + v2) (by omega) (by omega), e3, app1 (show l.length ≤ 100000000 from by omega)]
      rw [wrapI (by omega) (by omega), show ((n + 1 : Nat) : Int) - 1 = (n : Int) by omega]
theorem Qe {B' : Nat} {c : List Int × Int × Int} (h : Cur B' c) (hB : B' ≤ 1000000000) : ∃ c' b, Bq c = some (c', b) ∧ Cur (B' + 300) c' ∧ b.2.length ≤ 100 := by
  unfold Bq
  obtain ⟨c0, v0, e0, q0, a0, b0⟩ := Fn h (by omega) 6
  have b0 := b0 (by omega)
  obtain ⟨c1, v1, e1, q1⟩ := JU q0 (by omega) 12
  simp only [e0, e1, Option.bind_some]
  have fin : ∀ (c2 : List Int × Int × Int) (n : Nat), Cur (B' + 6) c2 → n ≤ 41 → ∃ c' b, ((loopM (fun (s : (((List Int) × (Int × Int)) × ((Bool × (List Int)) × ((List Int) × Int)))) => B3 s.1 s.2.1 s.2.2.1 s.2.2.2) (c2, ((false, []), ([], (n : Int))))).bind fun x6 =>
    ((AI (x6.1.1, (x6.1.2.1, x6.1.2.2)) (3 : Int))).bind fun x7 =>
    ((AY x7.2 x6.2.2)).bind fun x8 =>
    ((AI (x7.1.1, (x7.1.2.1, x7.1.2.2)) (40 : Int))).bind fun x9 =>
    bif x9.2 then
      ((AO (x9.1.1, (x9.1.2.1, x9.1.2.2)) (List.cons (0 : Int) (List.cons (-(1 : Int)) (List.cons (65536 : Int) List.nil))))).bind fun x10 =>
      ((appL 8 1 x8.1 (List.cons x10.2 List.nil))).bind fun x11 =>
      some ((x10.1.1, (x10.1.2.1, x10.1.2.2)), (x8.2, x11))
    else
    some ((x9.1.1, (x9.1.2.1, x9.1.2.2)), (x8.2, x8.1))) = some (c', b) ∧ Cur (B' + 300) c' ∧ b.2.length ≤ 100 := by
    intro c2 n q2 hn
    obtain ⟨c3, l, e3, q3, hl⟩ := VM (s1 := (false, [])) (c := c2) n 0 (B' + 6) c2 [] q2 (by omega) (by omega) ⟨LB.nil, by simp⟩ (by omega)
    obtain ⟨c4, v4, e4, q4⟩ := JU q3 (by omega) 3
    obtain ⟨c5, v5, e5, q5⟩ := JU q4 (by omega) 40
    have hll := hl.2
    have hmk := Ey hl.1 (by unfold Brief; omega) v4
    have hlen : (lim (val l).toNat).length ≤ 0 + n := VX hl.1 _ 0 hl.2
    simp only [e3, e4, e5, hmk, Option.bind_some]
    cases v5
    · exact ⟨_, _, rfl, q5.mono (by omega), by simp only; omega⟩
    · obtain ⟨c6, v6, e6, q6, m6⟩ := Jq q5 (by omega) [0, -(1 : Int), 65536] (by simp) (by simp)
      simp only [cond_true, e6, Option.bind_some]
      rw [app1 (by omega)]
      exact ⟨_, _, rfl, q6.mono (by omega), by simp; omega⟩
  cases v1
  · simp only [cond_false, Option.bind_some, Sum.elim_inr]
    have hv : v0 = ((v0.toNat : Nat) : Int) := by omega
    rw [hv]
    exact fin c1 v0.toNat (q1.mono (by omega)) (by omega)
  · obtain ⟨c2, v2, e2, q2, m2⟩ := Jq q1 (by omega) [20, 39, 40, 41] (by simp) (by simp)
    simp only [cond_true, e2, Option.bind_some, Sum.elim_inr]
    have hm : 0 ≤ v2 ∧ v2 ≤ 41 := by simp at m2; omega
    have hv : v2 = ((v2.toNat : Nat) : Int) := by omega
    rw [hv]
    exact fin c2 v2.toNat (q2.mono (by omega)) (by omega)
theorem Qa {l : List Int} (h : Cur 0 (l, 0, 0)) : ∃ a b, Bw l = some (a, b) ∧ a.2.length ≤ 100 ∧ b.2.length ≤ 100 := by
  unfold Bw
  obtain ⟨c0, v0, e0, q0, l0⟩ := Qe h (by omega)
  obtain ⟨c1, v1, e1, q1⟩ := JU q0 (by omega) 4
  simp only [e0, e1, Option.bind_some]
  cases v1
  · obtain ⟨c2, v2, e2, q2, l2⟩ := Qe q1 (by omega)
    simp only [cond_false, e2, Option.bind_some]
    exact ⟨_, _, rfl, l0, l2⟩
  · exact ⟨_, _, rfl, l0, l0⟩
theorem Vb {B' : Nat} {c : List Int × Int × Int} (h : Cur B' c) (hB : B' ≤ 1000000000) : ∃ c' v, BX c = some (c', v) ∧ Cur (B' + 10) c' ∧ I64 v := by
  unfold BX
  obtain ⟨c0, v0, e0, q0⟩ := JU h (by omega) 2
  simp only [e0, Option.bind_some]
  cases v0
  · obtain ⟨c1, v1, e1, q1, a1, b1⟩ := Fn q0 (by omega) 256
    obtain ⟨c2, v2, e2, q2, a2, b2⟩ := Fn q1 (by omega) 50
    have b2 := b2 (by omega)
    simp only [cond_false, e1, e2, Option.bind_some]
    rw [show decide (IntKind.wrap .u64 v2 < 0) = false by rw [wrapU (by omega) (by omega)]; exact decide_eq_false (by omega)]
    refine ⟨_, _, rfl, q2.mono (by omega), ?_⟩
    unfold shlI I64
    exact wrapI' _
  · obtain ⟨c1, v1, e1, q1, m1⟩ := Jq q0 (by omega) [0, 1, -(1 : Int), 65535, 65536, -(65536 : Int), 4611686018427387904, -(4611686018427387904 : Int), 4611686018427387905, -(9223372036854775808 : Int), 9223372036854775807] (by simp) (by simp)
    simp only [cond_true, e1, Option.bind_some]
    refine ⟨_, _, rfl, q1.mono (by omega), ?_⟩
    unfold I64
    simp at m1
    omega
end Go.Proofs.YtgfchmagglhohaaGreatDoor.Ev

end
section
namespace Go.Proofs.YtgfchmagglhohaaGreatDoor.Ev
open Go
set_option linter.unusedVariables false
set_option linter.unusedSimpArgs false
set_option linter.unusedSectionVars false
def Sz (k : Nat) (q : Rat) : Prop := (q.num.natAbs : Int) < B k ∧ (q.den : Int) < B k
instance (k : Nat) (q : Rat) : Decidable (Sz k q) := by unfold Sz; infer_instance
theorem Sz.mono {k m : Nat} {q : Rat} (h : Sz k q) (hkm : k ≤ m) : Sz m q := by
  have := II hkm
  unfold Sz at *
  omega
theorem negB {x : Int} {k : Nat} (h : (x.natAbs : Int) < B k) : ((-x).natAbs : Int) < B k := by rw [Int.natAbs_neg]; exact h
section
variable {p q : Rat} {k m : Nat} (hp : Sz k p) (hq : Sz m q)
include hp hq
end
def goodQ (a : (Bool × List Int) × (Bool × List Int)) : Bool := goodB a.1 && goodB a.2 && ((!a.2.1 && !a.2.2.isEmpty) && decide (Nat.gcd (val a.1.2).toNat (val a.2.2).toNat = 1))
end Go.Proofs.YtgfchmagglhohaaGreatDoor.Ev

end
section
namespace Go.Proofs.YtgfchmagglhohaaGreatDoor.Ev
open Go
set_option linter.unusedVariables false
set_option linter.unusedSimpArgs false
set_option linter.unusedSectionVars false
abbrev RF := Bool × (List Int × (Bool × List Int))
theorem MP {x : Int} {k : Nat} (hk : k ≤ 1000000) (h : (x.natAbs : Int) < B k) : Brief (big x).2 := by
  have := Af.2 h; unfold big Brief; dsimp only; omega
theorem OV (x : Int) (s : Bool) : (lim (val (big x).2).toNat, s && decide ((val (big x).2).toNat ≠ 0)) = (lim x.natAbs, s && decide (x ≠ 0)) := by
  unfold big
  simp only [Ai, Int.toNat_natCast]
  congr 2
  exact decide_eq_decide.2 (by omega)
theorem Ve {x : Int} {k : Nat} (hk : k ≤ 1000000) (h : (x.natAbs : Int) < B k) : D0 (big x) = some (big (-x)) := by
  unfold D0
  rw [HI (show LB (big x).2 from Ar _) (MP hk h), OV]
  simp only [Option.bind_some]
  congr 1
  unfold big
  simp only
  refine Prod.ext ?_ (by simp)
  simp only
  by_cases h0 : x < 0
  · rw [decide_eq_true h0]; simp; omega
  · rw [decide_eq_false h0]; simp only [Bool.not_false, Bool.true_and]; exact decide_eq_decide.2 (by omega)
theorem Xx {x : Int} {k : Nat} (hk : k ≤ 1000000) (h : (x.natAbs : Int) < B k) : FG (big x) = some (big (-x)) := by
  unfold FG
  rw [Ey (show LB (big x).2 from Ar _) (MP hk h), OV]
  simp only [Option.bind_some]
  congr 1
  unfold big
  simp only
  refine Prod.ext ?_ (by simp)
  simp only
  by_cases h0 : x < 0
  · rw [decide_eq_true h0]; simp; omega
  · rw [decide_eq_false h0]; simp only [Bool.not_false, Bool.true_and]; exact decide_eq_decide.2 (by omega)
theorem S7 {x y : Int} {k : Nat} (hk : k ≤ 1000000) (hx : (x.natAbs : Int) < B k) (hy : (y.natAbs : Int) < B k) : Dj (big x) (big y) = some (cmpZ x y) := by
  have lx := C2 hx hk
  have ly := C2 hy hk
  have e1 := LS (a := x.natAbs) (b := y.natAbs) (by unfold Brief; omega) (by unfold Brief; omega)
  have e2 := LS (a := y.natAbs) (b := x.natAbs) (by unfold Brief; omega) (by unfold Brief; omega)
  unfold Dj
  rw [show (big x).1 = decide (x < 0) from rfl, show (big y).1 = decide (y < 0) from rfl, show (big x).2 = lim x.natAbs from rfl, show (big y).2 = lim y.natAbs from rfl, e1, e2]
  by_cases h1 : x < 0
  · by_cases h2 : y < 0
    · rw [decide_eq_true h1, decide_eq_true h2]
      simp only [cond_true, cond_false, Bool.not_true, Option.bind_some]
      congr 1
      rcases Bk x y with ⟨e, h⟩ | ⟨e, h⟩ | ⟨e, h⟩
      · rw [e]; exact Cx (by omega)
      · rw [e]; exact Dh (by omega)
      · rw [e, h]; exact FK _
    · rw [decide_eq_true h1, decide_eq_false h2, Cx (show x < y by omega)]; rfl
  · by_cases h2 : y < 0
    · rw [decide_eq_false h1, decide_eq_true h2, Dh (show y < x by omega)]; rfl
    · rw [decide_eq_false h1, decide_eq_false h2]
      simp only [cond_true, cond_false, Bool.not_false, Option.bind_some]
      congr 1
      rcases Bk x y with ⟨e, h⟩ | ⟨e, h⟩ | ⟨e, h⟩
      · rw [e]; exact Cx (by omega)
      · rw [e]; exact Dh (by omega)
      · rw [e, h]; exact FK _
section
variable {p q : Rat} {k : Nat} (hk : k ≤ 20000) (hp : Sz k p) (hq : Sz k q)
include hk hp hq
end
def BrF (a : RF) : Prop := Brief a.2.1 ∧ Brief a.2.2.2
def toQ (a : RF) : (Bool × List Int) × (Bool × List Int) := ((a.1, a.2.1), (a.2.2.1, a.2.2.2))
end Go.Proofs.YtgfchmagglhohaaGreatDoor.Ev

end
section
namespace Go.Proofs.YtgfchmagglhohaaGreatDoor.Ev
open Go
set_option linter.unusedVariables false
set_option linter.unusedSimpArgs false
set_option linter.unusedSectionVars false
theorem TA {x y : Int} {k : Nat} (hk : k ≤ 1000000) (hx : (x.natAbs : Int) < B k) (hy : (y.natAbs : Int) < B k) : Em (big x) (big y) = some (big (x + y)) := by
  have lx := C2 hx hk
  have ly := C2 hy hk
  unfold Em big
  simp only
  by_cases hs : decide (x < 0) = decide (y < 0)
  · rw [hs, beq_self_eq_true]
    obtain ⟨r, e1, e2, e3, e4, _⟩ := Jo (Ar x.natAbs) (Ar y.natAbs) (by omega) (by omega)
    rw [Ai, Ai] at e3
    simp only [cond_true, e1, Option.bind_some]
    rw [Ey e2 (by unfold Brief; omega)]
    simp only [Option.bind_some]
    have hv : (val r).toNat = (x + y).natAbs := by
      by_cases h1 : x < 0
      · have : y < 0 := by simpa [h1] using hs
        omega
      · have : ¬ y < 0 := by simpa [h1] using hs
        omega
    rw [hv]
    congr 2
    by_cases h2 : y < 0
    · have h1 : x < 0 := by simpa [h2] using hs
      rw [decide_eq_true h2, decide_eq_true (show x + y < 0 by omega), decide_eq_true (show (x + y).natAbs ≠ 0 by omega)]; rfl
    · have h1 : ¬ x < 0 := by simpa [h2] using hs
      rw [decide_eq_false h2, decide_eq_false (show ¬ x + y < 0 by omega)]; rfl
  · have hb : (decide (x < 0) == decide (y < 0)) = false := by simpa using hs
    rw [hb]
    simp only [cond_false]
    rw [LS (by unfold Brief; omega) (by unfold Brief; omega)]
    simp only [Option.bind_some]
    have hxy : (x < 0 ∧ ¬ y < 0) ∨ (¬ x < 0 ∧ y < 0) := by
      by_cases h1 : x < 0 <;> by_cases h2 : y < 0 <;> simp [h1, h2] at hs ⊢
    rcases Nat.lt_or_ge x.natAbs y.natAbs with hlt | hge
    · rw [Cx (by omega), decide_eq_false (by omega)]
      simp only [cond_false]
      have hl : (lim x.natAbs).length ≤ (lim y.natAbs).length := Af.2 (by have := Af.1 (Nat.le_refl (lim y.natAbs).length); omega)
      rw [JC (Ar _) (Ar _) hl (by omega) (by rw [Ai, Ai]; omega)]
      simp only [Option.bind_some, Ai]
      have e : ((y.natAbs : Int) - (x.natAbs : Int)).toNat = (x + y).natAbs := by omega
      rw [e, Ey (Ar _) (by
        have : (lim (x + y).natAbs).length ≤ (lim y.natAbs).length := Af.2 (by have := Af.1 (Nat.le_refl (lim y.natAbs).length); omega)
        unfold Brief; omega)]
      simp only [Option.bind_some, Ai, Int.toNat_natCast]
      congr 2
      by_cases h2 : y < 0
      · rw [decide_eq_true h2, decide_eq_true (show x + y < 0 by omega), decide_eq_true (show (x + y).natAbs ≠ 0 by omega)]; rfl
      · rw [decide_eq_false h2, decide_eq_false (show ¬ x + y < 0 by omega)]; rfl
    · have hc : cmpZ (x.natAbs : Int) (y.natAbs : Int) ≥ 0 := by unfold cmpZ; rw [if_neg (by omega)]; split <;> omega
      rw [decide_eq_true hc]
      simp only [cond_true]
      have hl : (lim y.natAbs).length ≤ (lim x.natAbs).length := Af.2 (by have := Af.1 (Nat.le_refl (lim x.natAbs).length); omega)
      rw [JC (Ar _) (Ar _) hl (by omega) (by rw [Ai, Ai]; omega)]
      simp only [Option.bind_some, Ai]
      have e : ((x.natAbs : Int) - (y.natAbs : Int)).toNat = (x + y).natAbs := by omega
      rw [e, Ey (Ar _) (by
        have : (lim (x + y).natAbs).length ≤ (lim x.natAbs).length := Af.2 (by have := Af.1 (Nat.le_refl (lim x.natAbs).length); omega)
        unfold Brief; omega)]
      simp only [Option.bind_some, Ai, Int.toNat_natCast]
      congr 2
      by_cases h2 : x < 0
      · rw [decide_eq_true h2]
        by_cases h3 : x + y < 0
        · rw [decide_eq_true h3, decide_eq_true (show (x + y).natAbs ≠ 0 by omega)]; rfl
        · rw [decide_eq_false h3, decide_eq_false (show ¬ (x + y).natAbs ≠ 0 by omega)]; rfl
      · rw [decide_eq_false h2, decide_eq_false (show ¬ x + y < 0 by omega)]; rfl
section
variable {p q : Rat} {k : Nat} (hk : k ≤ 20000) (hp : Sz k p) (hq : Sz k q)
include hk hp hq
end
theorem WW {x y : Int} {k : Nat} (hk : k ≤ 900000) (hx : (x.natAbs : Int) < B k) (hy : (y.natAbs : Int) < B k) : FL (big x) (big y) = some (big (x - y)) := by
  unfold FL
  simp only [peta, Xx (k := k) (by omega) hy, Option.bind_some]
  rw [TA (k := k) (by omega) hx (negB hy)]
  simp only [Option.bind_some, peta, Int.sub_eq_add_neg]
theorem Uk {x y : Int} {k : Nat} (hk : k ≤ 900000) (hx : (x.natAbs : Int) < B k) (hy : (y.natAbs : Int) < B k) : DQ (big x) (big y) = some (big (x - y)) := by
  unfold DQ
  simp only [peta, Ve (k := k) (by omega) hy, Option.bind_some]
  rw [Kl (k := k) (by omega) hx (negB hy)]
  simp only [Option.bind_some, peta, Int.sub_eq_add_neg]
section
variable {p q : Rat} (hp : Sz 40 p) (hq : Sz 40 q)
include hp hq
end
section
variable {a b : RF} (ha : BrF a) (hb : BrF b) (h : (goodQ (toQ a) && goodQ (toQ b)) = false)
include ha hb h
end
end Go.Proofs.YtgfchmagglhohaaGreatDoor.Ev

end
section
namespace Go.Proofs.YtgfchmagglhohaaGreatDoor.Ev
open Go
set_option linter.unusedVariables false
set_option linter.unusedSimpArgs false
set_option linter.unusedSectionVars false
section
variable {x y : Int} (hx : (x.natAbs : Int) < B 40) (hy : (y.natAbs : Int) < B 40)
include hx hy
theorem WH : Ch (big x) (big y) = some (fitsR (x + y)) := by
  unfold Ch
  simp only [A0 (Bj hx), A0 (Bj hy), Bb hx, Bb hy, Option.bind_some, Bool.not_true, cond_false, TA (k := 40) (by omega) hx hy, peta, OE]
theorem RM : A5 (big x) (big y) = some (fitsR (x - y)) := by
  unfold A5
  simp only [KM hx hy, Option.bind_some, Bool.not_true, cond_false, Uk (k := 40) (by omega) hx hy, Mg, peta]
theorem VW : Cm (big x) (big y) = some (fitsR (x - y)) := by
  unfold Cm
  simp only [A0 (Bj hx), A0 (Bj hy), Bb hx, Bb hy, Option.bind_some, Bool.not_true, cond_false, WW (k := 40) (by omega) hx hy, peta, OE]
theorem Qg : Bg (big x) (big y) = some (cmpZ x y, true) := by
  unfold Bg
  simp only [A0 (Bj hx), A0 (Bj hy), Bb hx, Bb hy, Option.bind_some, Bool.not_true, cond_false, S7 (k := 40) (by omega) hx hy]
end
section
variable {a b : Bool × List Int} (ha : Brief a.2) (hb : Brief b.2) (h : (goodB a && goodB b) = false)
include ha hb h
theorem P8 : A8 a b = some ((false, []), false) := by unfold A8; simp only [MC ha hb h]; rfl
theorem Po : A5 a b = some ((false, []), false) := by unfold A5; simp only [MC ha hb h]; rfl
theorem J5 : Bf a b = some (0, false) := by
  unfold Bf; simp only [Bi ha, Bi hb, Option.bind_some]
  cases h1 : goodB a
  · rfl
  · rw [h1] at h; rw [show goodB b = false by simpa using h]; rfl
theorem P2 : Ch a b = some ((false, []), false) := by
  unfold Ch; simp only [A0 ha, A0 hb, Option.bind_some]
  cases h1 : goodB a
  · rfl
  · rw [h1] at h; rw [show goodB b = false by simpa using h]; rfl
theorem Pw : Cm a b = some ((false, []), false) := by
  unfold Cm; simp only [A0 ha, A0 hb, Option.bind_some]
  cases h1 : goodB a
  · rfl
  · rw [h1] at h; rw [show goodB b = false by simpa using h]; rfl
theorem JZ : Bg a b = some (0, false) := by
  unfold Bg; simp only [A0 ha, A0 hb, Option.bind_some]
  cases h1 : goodB a
  · rfl
  · rw [h1] at h; rw [show goodB b = false by simpa using h]; rfl
end
end Go.Proofs.YtgfchmagglhohaaGreatDoor.Ev

end
section
namespace Go.Proofs.YtgfchmagglhohaaGreatDoor.Ev
open Go
set_option linter.unusedVariables false
set_option linter.unusedSimpArgs false
set_option linter.unusedSectionVars false
theorem sEl' {α β γ : Type} (f : α → γ) (g : β → γ) (x : α) : Sum.elim f g (.inl x) = f x := (rfl)
theorem sEr' {α β γ : Type} (f : α → γ) (g : β → γ) (x : β) : Sum.elim f g (.inr x) = g x := (rfl)
theorem app16 {l : List Str} {x : Str} (h : l.length ≤ 100000000) : appL 16 1 l [x] = some (l ++ [x]) := T4 (by simp [maxBytes]; omega) (by simp [maxBytes]; omega)
theorem O7 (xs : List Str) : Lib.join xs [] = xs.flatten := by
  cases xs with
  | nil => rw [Lib.join_nil]; rfl
  | cons x xs => rw [Lib.join_cons]; simp [Lib.joinTail]
theorem Pe {l : List Str} (hl : l.length ≤ 1000000000) : Ao l (0, l.length) = some l.reverse := by
  unfold Ao
  rw [wrapI (by simp only; omega) (by simp only; omega)]
  obtain ⟨m, h1, h2, h3⟩ := Fd (body := fun (s : ((List (List UInt8)) × ((Nat × Nat) × (Int × Int)))) => Ah s.1 s.2.1 s.2.2.1 s.2.2.2)
    (st := fun k (m : List Str) => (m, ((0, l.length), ((k : Int), ((l.length : Int) - 1 - (k : Int)))))) (fin := fun m => m)
    (I := fun i m => m.length = l.length ∧ ∀ k, k < l.length → m[k]? = if k < i ∨ l.length < k + i + 1 then l[l.length - 1 - k]? else l[k]?) (e := l.length / 2)
    (by
      rintro i m hi ⟨i1, i2⟩
      have hj : l.length - 1 - i < l.length := by omega
      have a1 := i2 i (by omega)
      have a2 := i2 (l.length - 1 - i) (by omega)
      rw [if_neg (by omega)] at a1 a2
      obtain ⟨x, hx⟩ : ∃ x, l[i]? = some x := ⟨l[i], List.getElem?_eq_getElem (by omega)⟩
      obtain ⟨y, hy⟩ : ∃ y, l[l.length - 1 - i]? = some y := ⟨l[l.length - 1 - i], List.getElem?_eq_getElem hj⟩
      rw [hx] at a1
      rw [hy] at a2
      refine ⟨(m.set i y).set (l.length - 1 - i) x, ?_, by simp [i1], ?_⟩
      · show Ah m (0, l.length) (i : Int) ((l.length : Int) - 1 - (i : Int)) = _
        unfold Ah getN
        have e : (l.length : Int) - 1 - (i : Int) = ((l.length - 1 - i : Nat) : Int) := by omega
        have g1 : idxI ((l.length - 1 - i : Nat) : Int) l.length = some (l.length - 1 - i) := BG hj
        have g2 : idxI (i : Int) l.length = some i := BG (by omega)
        rw [e, decide_eq_true (by omega), cT]
        simp only [g1, g2, obs, Nat.zero_add]
        rw [a2, obs, a1, obs]
        have g3 : (m.set i y)[l.length - 1 - i]? = some y := by rw [List.getElem?_set_ne (by omega)]; exact a2
        rw [g3, obs, wrapI (by omega) (by omega), wrapI (by omega) (by omega), show (((l.length - 1 - i : Nat) : Int)) - 1 = (l.length : Int) - 1 - ((i + 1 : Nat) : Int) by omega]
        rfl
      · intro k hk
        by_cases c1 : k = l.length - 1 - i
        · rw [c1, List.getElem?_set_self (by rw [List.length_set]; omega), if_pos (by omega), show l.length - 1 - (l.length - 1 - i) = i by omega, hx]
        · rw [List.getElem?_set_ne (by omega)]
          by_cases c2 : k = i
          · rw [c2, List.getElem?_set_self (by omega), if_pos (by omega), hy]
          · rw [List.getElem?_set_ne (by omega), i2 k hk]
            by_cases c3 : k < i ∨ l.length < k + i + 1
            · rw [if_pos c3, if_pos (by omega)]
            · rw [if_neg c3, if_neg (by omega)])
    (by
      rintro m _
      show Ah m (0, l.length) ((l.length / 2 : Nat) : Int) ((l.length : Int) - 1 - ((l.length / 2 : Nat) : Int)) = _
      unfold Ah
      rw [decide_eq_false (by omega), cF]) 0 l (by omega) ⟨rfl, fun k hk => by rw [if_neg (by omega)]⟩
  have h1' : loopM (fun (s : ((List (List UInt8)) × ((Nat × Nat) × (Int × Int)))) => Ah s.1 s.2.1 s.2.2.1 s.2.2.2) (l, ((0, l.length), ((0 : Int), ((l.length : Int) - (1 : Int))))) = some m := by
    have e : (l.length : Int) - 1 - ((0 : Nat) : Int) = (l.length : Int) - 1 := by omega
    rw [e] at h1
    exact h1
  rw [h1', obs]
  congr 1
  refine List.ext_getElem? fun k => ?_
  by_cases hk : k < l.length
  · rw [h3 k hk, List.getElem?_reverse hk]
    by_cases c : k < l.length / 2 ∨ l.length < k + l.length / 2 + 1
    · rw [if_pos c]
    · rw [if_neg c, show l.length - 1 - k = k by omega]
  · rw [List.getElem?_eq_none (by omega), List.getElem?_eq_none (by simp; omega)]
def groups (n : Nat) : List Str := if h : n < 10000 then (if n = 0 then [] else [Lib.decDigits n]) else four (n % 10000) :: groups (n / 10000)
theorem DY : groups 0 = [] := by unfold groups; simp
theorem FX {n : Nat} (h : n < 10000) (h0 : n ≠ 0) : groups n = [Lib.decDigits n] := by unfold groups; rw [dif_pos h, if_neg h0]
theorem Ga {n : Nat} (h : 10000 ≤ n) : groups n = four (n % 10000) :: groups (n / 10000) := by
  conv => lhs; unfold groups
  rw [dif_neg (by omega)]
theorem L0 (n : Nat) (h : n ≠ 0) : (groups n).reverse.flatten = Lib.decDigits n := by
  induction n using Nat.strongRecOn with
  | ind n ih =>
    by_cases h1 : n < 10000
    · rw [FX h1 h]; simp
    · rw [Ga (by omega), W8 (by omega), List.reverse_cons, List.flatten_append, ih (n / 10000) (by omega) (by omega)]
      simp
theorem Mf : ∀ (m n : Nat), n < 2 ^ m → (groups n).length ≤ m
  | 0, n, h => by
    have : n = 0 := by omega
    rw [this, DY]; simp
  | m + 1, n, h => by
    rw [Nat.pow_succ] at h
    by_cases h0 : n = 0
    · rw [h0, DY]; simp
    by_cases h1 : n < 10000
    · rw [FX h1 h0]; simp
    · rw [Ga (by omega)]
      have := Mf m (n / 10000) (by omega)
      simp only [List.length_cons]
      omega
theorem Np : ∀ (m n : Nat), n < 2 ^ m → (Lib.decDigits n).length ≤ m + 1
  | 0, n, h => by rw [BZ (by omega)]; simp
  | m + 1, n, h => by
    rw [Nat.pow_succ] at h
    by_cases h0 : n < 10
    · rw [BZ h0]; simp
    · rw [CG (by omega)]
      have := Np m (n / 10) (by omega)
      simp only [List.length_append, List.length_cons, List.length_nil]
      omega
theorem XF : ∀ k, B k = ((2 ^ (16 * k) : Nat) : Int)
  | 0 => by simp [B]
  | k + 1 => by
    rw [B, XF k, show 16 * (k + 1) = 16 * k + 16 by omega, Nat.pow_add, show (2 : Nat) ^ 16 = 65536 from rfl]
    generalize (2 : Nat) ^ (16 * k) = x
    omega
theorem WJ {n k : Nat} (h : (n : Int) < B k) : n < 2 ^ (16 * k) := by rw [XF] at h; exact Int.ofNat_lt.1 h
theorem R1 (b : Bool × List Int) : ∀ (m n : Nat) (acc : List Str), n < 2 ^ m → m ≤ 2000000 → (lim n).length ≤ 1000000 → acc.length + m ≤ 3000000 →
    loopM (fun (s : ((Bool × (List Int)) × ((List (List UInt8)) × (List Int)))) => AL s.1 s.2.1 s.2.2) (b, (acc, lim n)) = some (b, acc ++ groups n) := by
  intro m
  induction m with
  | zero =>
    intro n acc h _ _ _
    have h0 : n = 0 := by omega
    refine Aw ?_
    show AL b acc (lim n) = _
    unfold AL
    rw [h0, AH, DY, List.append_nil]
    rfl
  | succ m ih =>
    intro n acc h hm hl ha
    rw [Nat.pow_succ] at h
    by_cases h0 : n = 0
    · refine Aw ?_
      show AL b acc (lim n) = _
      unfold AL
      rw [h0, AH, DY, List.append_nil]
      rfl
    · have hgo : AL b acc (lim n) = some (.inl (b, (acc ++ [if n < 10000 then Lib.decDigits n else four (n % 10000)], lim (n / 10000)))) := by
        unfold AL
        have hd := Tn (n := n) (d := 10000) (by omega) (show (lim n).length ≤ 10000000 by omega)
        rw [show (10000 : Int).toNat = 10000 from rfl] at hd
        rw [Hq h0, cT, hd, obs, XZ (by simp only; omega) (by simp only; omega), obs]
        simp only
        rw [Vs (by omega), Int.toNat_natCast]
        by_cases h1 : n < 10000
        · rw [show n / 10000 = 0 by omega, AH, decide_eq_false (by simp), cF, app16 (by omega), obs, if_pos h1, show n % 10000 = n by omega]
        · obtain ⟨p1, p2, p3⟩ := WC (r := n % 10000) (by omega)
          rw [Hq (by omega), cT, wrapI (by omega) (by omega)]
          have hr : Cz [48] ((4 : Int) - ((Lib.decDigits (n % 10000)).length : Int)) = some (Lib.repeatL [48] (4 - (Lib.decDigits (n % 10000)).length)) := by
            unfold Cz Qp
            rw [show ((4 : Int) - ((Lib.decDigits (n % 10000)).length : Int)) = ((4 - (Lib.decDigits (n % 10000)).length : Nat) : Int) by omega, Int.toNat_natCast, if_pos (by simp only [List.length_cons, List.length_nil]; omega)]
          rw [hr, obs, LQ (by rw [Lib.repeatL_length]; simp only [List.length_cons, List.length_nil]; omega), obs, p3, app16 (by omega), obs, if_neg h1]
      refine (Bx (f := fun (s : ((Bool × (List Int)) × ((List (List UInt8)) × (List Int)))) => AL s.1 s.2.1 s.2.2) (s := (b, (acc, lim n))) hgo).trans ?_
      rw [ih (n / 10000) _ (by clear ih; omega) (by omega) (Nat.le_trans (Qn (Nat.div_le_self n 10000)) hl) (by simp; omega)]
      congr 2
      rw [List.append_assoc]
      congr 1
      by_cases h1 : n < 10000
      · rw [if_pos h1, show n / 10000 = 0 by omega, DY, FX h1 h0]; rfl
      · rw [if_neg h1, Ga (n := n) (by omega)]; rfl
theorem GZ (z : Int) : Lib.itoa z = if z < 0 then 45 :: Lib.decDigits z.natAbs else Lib.decDigits z.natAbs := by
  unfold Lib.itoa
  by_cases h : z < 0
  · rw [if_pos h, if_pos h]
  · rw [if_neg h, if_neg h, show z.toNat = z.natAbs by omega]
theorem NA {z : Int} {k : Nat} (hk : k ≤ 90000) (hz : (z.natAbs : Int) < B k) : CD (big z) = some (Lib.itoa z) := by
  have ht := WJ hz
  have hl := Af.2 hz
  have hg := Mf _ _ ht
  have hd := Np _ _ ht
  unfold CD
  rw [peta, SC, obs, GZ]
  by_cases h0 : z = 0
  · rw [h0, FK, if_neg (by omega), show (0 : Int).natAbs = 0 from rfl, BZ (by omega)]
    rfl
  have hc : (cmpZ z 0 == 0) = false := by
    rcases Bk z 0 with ⟨g, _⟩ | ⟨g, _⟩ | ⟨g, _⟩
    · rw [g]; rfl
    · rw [g]; rfl
    · omega
  rw [hc, cF]
  have hloop := R1 (big z) (16 * k) z.natAbs [] ht (by omega) (by omega) (by simp; omega)
  have hloop' : loopM (fun (s : ((Bool × (List Int)) × ((List (List UInt8)) × (List Int)))) => AL s.1 s.2.1 s.2.2) (((big z).1, (big z).2), ((List.nil : List (List UInt8)), (big z).2)) = _ := hloop
  rw [hloop', obs, List.nil_append]
  have hb1 : (big z).1 = decide (z < 0) := rfl
  simp only [hb1]
  have hne : z.natAbs ≠ 0 := by omega
  by_cases hs : z < 0
  · rw [decide_eq_true hs, cT, app16 (by omega), obs, Pe (by simp; omega), obs]
    rw [List.length_reverse, decide_eq_true rfl, cT, List.reverse_append]
    have hf : Lib.join ([[(45 : UInt8)]].reverse ++ (groups z.natAbs).reverse) [] = 45 :: Lib.decDigits z.natAbs := by
      rw [O7, List.flatten_append, L0 _ hne]; rfl
    rw [WB (by simp; omega) (by rw [hf]; simp; omega), obs, hf, if_pos hs]
  · rw [decide_eq_false hs, cF, Pe (by omega), obs]
    rw [List.length_reverse, decide_eq_true rfl, cT]
    have hf : Lib.join ((groups z.natAbs).reverse) [] = Lib.decDigits z.natAbs := by rw [O7, L0 _ hne]
    rw [WB (by simp; omega) (by rw [hf]; omega), obs, hf, if_neg hs]
theorem TT : lim 10 = [10] := by rw [Jc (by omega)]; simp [AH]
theorem limb0 {r : Nat} (h : r < 65536) : Bc (lim r) 0 = some (r : Int) := by
  have := Eu (l := lim r) 0
  rw [show ((0 : Nat) : Int) = 0 from rfl] at this
  rw [this]
  congr 1
  by_cases h0 : r = 0
  · rw [h0, AH]; rfl
  · rw [Jc h0]
    show ((r % 65536 : Nat) : Int) = r
    omega
theorem Q8 (b : Bool × List Int) : ∀ (m n : Nat) (acc : Str), n < 2 ^ m → m ≤ 2000000 → (lim n).length ≤ 90000 → acc.length + m ≤ 3000000 →
    loopM (fun (s : ((Bool × (List Int)) × ((List UInt8) × (List Int)))) => Be s.1 s.2.1 s.2.2) (b, (acc, lim n)) = some (b, if n = 0 then acc else Lib.decDigits n ++ acc) := by
  intro m
  induction m with
  | zero =>
    intro n acc h _ _ _
    have h0 : n = 0 := by omega
    refine Aw ?_
    show Be b acc (lim n) = _
    unfold Be
    rw [h0, AH, if_pos rfl]
    rfl
  | succ m ih =>
    intro n acc h hm hl ha
    rw [Nat.pow_succ] at h
    by_cases h0 : n = 0
    · refine Aw ?_
      show Be b acc (lim n) = _
      unfold Be
      rw [h0, AH, if_pos rfl]
      rfl
    · have hgo : Be b acc (lim n) = some (.inl (b, ([UInt8.ofNat (48 + n % 10)] ++ acc, lim (n / 10)))) := by
        unfold Be
        have hd := PY (a := n) (b := 10) (by omega) hl (by rw [TT]; simp)
        rw [TT] at hd
        rw [Hq h0, cT, hd, obs]
        simp only
        rw [limb0 (by omega), obs, Xf (by omega), obs, BZ (by omega), LQ (by simp; omega), obs]
      refine (Bx (f := fun (s : ((Bool × (List Int)) × ((List UInt8) × (List Int)))) => Be s.1 s.2.1 s.2.2) (s := (b, (acc, lim n))) hgo).trans ?_
      rw [ih (n / 10) _ (by omega) (by omega) (Nat.le_trans (Qn (Nat.div_le_self n 10)) hl) (by simp; omega), if_neg h0]
      congr 2
      by_cases h1 : n < 10
      · rw [if_pos (by omega), BZ h1, show n % 10 = n by omega]
      · rw [if_neg (by omega), CG (u := n) (by omega), List.append_assoc]
theorem QL {z : Int} {k : Nat} (hk : k ≤ 90000) (hz : (z.natAbs : Int) < B k) : CS (big z) = some (Lib.itoa z) := by
  have ht := WJ hz
  have hl := Af.2 hz
  have hd := Np _ _ ht
  unfold CS
  rw [GZ]
  by_cases h0 : z = 0
  · rw [h0]
    have : (big 0).2 = [] := AH
    rw [this, if_neg (by omega), show (0 : Int).natAbs = 0 from rfl, BZ (by omega)]
    rfl
  have hne : z.natAbs ≠ 0 := by omega
  have hlen : ((((big z).2.length : Nat) : Int) == 0) = false := by
    refine beq_eq_false_iff_ne.2 fun h => hne (Fi.1 (List.eq_nil_of_length_eq_zero ?_))
    exact Int.ofNat_eq_zero.1 h
  rw [hlen, cF]
  have hloop := Q8 (big z) (16 * k) z.natAbs [] ht (by omega) (by omega) (by simp; omega)
  have hloop' : loopM (fun (s : ((Bool × (List Int)) × ((List UInt8) × (List Int)))) => Be s.1 s.2.1 s.2.2) (((big z).1, (big z).2), ((List.nil : List UInt8), (big z).2)) = _ := hloop
  rw [hloop', obs, if_neg hne, List.append_nil]
  have hb1 : (big z).1 = decide (z < 0) := rfl
  simp only [hb1]
  by_cases hs : z < 0
  · rw [decide_eq_true hs, cT, LQ (by simp; omega), obs, if_pos hs]; rfl
  · rw [decide_eq_false hs, cF, if_neg hs]
end Go.Proofs.YtgfchmagglhohaaGreatDoor.Ev

end
section
namespace Go.Proofs.YtgfchmagglhohaaGreatDoor.Ev
open Go
set_option linter.unusedVariables false
set_option linter.unusedSimpArgs false
set_option linter.unusedSectionVars false
def sgn (neg : Bool) (n : Nat) : Int := if neg then -(n : Int) else n
theorem T9 (neg : Bool) (n : Nat) : (sgn neg n).natAbs = n := by unfold sgn; split <;> omega
theorem TN (neg : Bool) (n : Nat) : (neg && decide (n ≠ 0), lim n) = big (sgn neg n) := by
  unfold sgn
  cases neg
  · rw [if_neg (by simp), PI]; rfl
  · rw [if_pos rfl, W0]; rfl
theorem RJ {n : Nat} (h : (lim n).length ≤ 1000000) (neg : Bool) : BQ neg (lim n) = some (lim n, neg && decide (n ≠ 0)) := by
  rw [HI (Ar n) (by unfold Brief; omega), Ai, Int.toNat_natCast]
theorem P1 {n : Nat} (h : (lim n).length ≤ 1000000) (neg : Bool) : AY neg (lim n) = some (lim n, neg && decide (n ≠ 0)) := by
  rw [Ey (Ar n) (by unfold Brief; omega), Ai, Int.toNat_natCast]
theorem Ua (s : Str) : Lib.hasPrefix s [45] = decide (s.head? = some 45) ∧ Lib.trimPrefix s [45] = if s.head? = some 45 then s.drop 1 else s := by
  have h : Lib.hasPrefix s [45] = decide (s.head? = some 45) := by
    unfold Lib.hasPrefix
    cases s with
    | nil => rfl
    | cons b t =>
      rw [Bool.eq_iff_iff]
      simp [List.isPrefixOf]
      exact eq_comm
  refine ⟨h, ?_⟩
  unfold Lib.trimPrefix
  rw [h]
  by_cases hh : s.head? = some 45
  · rw [decide_eq_true hh, if_pos rfl, if_pos hh]; rfl
  · rw [decide_eq_false hh, if_neg (by simp), if_neg hh]
theorem U4 : (10 ^ 200 : Nat) < 65536 ^ 50 := by decide
theorem V3 : ∀ k, B k = ((65536 ^ k : Nat) : Int)
  | 0 => by simp [B]
  | k + 1 => by rw [B, V3 k, Nat.pow_succ]; generalize 65536 ^ k = x; omega
theorem Lm {n i : Nat} (h : n < 10 ^ i) (hi : i ≤ 200) : (n : Int) < B 50 := by
  rw [V3]
  exact Int.ofNat_lt.2 (Nat.lt_trans (Nat.lt_of_lt_of_le h (Nat.pow_le_pow_right (by omega) hi)) U4)
theorem ten50 : (((10 : Int)).natAbs : Int) < B 50 := Lm (n := 10) (i := 2) (by omega) (by omega)
theorem Uz : (65536 ^ 40 : Nat) < 10 ^ 193 := by decide
theorem Pj : ∀ (m n : Nat), n < 10 ^ m → 1 ≤ m → (Lib.decDigits n).length ≤ m
  | 0, n, h, h1 => by omega
  | m + 1, n, h, _ => by
    by_cases h0 : n < 10
    · rw [BZ h0]; simp
    · rw [CG (by omega)]
      rw [Nat.pow_succ] at h
      have h1 : 1 ≤ m := by
        rcases Nat.eq_zero_or_pos m with rfl | h1
        · simp at h; omega
        · exact h1
      have := Pj m (n / 10) (by omega) h1
      simp only [List.length_append, List.length_cons, List.length_nil]
      omega
theorem OO {n : Nat} (h : (n : Int) < B 40) : (Lib.decDigits n).length ≤ 193 := by
  rw [V3] at h
  exact Pj 193 n (Nat.lt_trans (Int.ofNat_lt.1 h) Uz) (by omega)
theorem Pt : ∀ (l : Str) (n i : Nat), n < 10 ^ i → (∀ b ∈ l, isDig b = true) → valF n l < 10 ^ (i + l.length)
  | [], n, i, h, _ => h
  | b :: l, n, i, h, hl => by
    have hb := En.1 (hl b (by simp))
    have := Pt l (n * 10 + (b.toNat - 48)) (i + 1) (by rw [Nat.pow_succ]; omega) (fun x hx => hl x (List.mem_cons_of_mem _ hx))
    show valF (n * 10 + (b.toNat - 48)) l < _
    rw [List.length_cons, show i + (l.length + 1) = i + 1 + l.length by omega]
    exact this
theorem RZ {s0 : Bool × List Int} {s t : Str} {neg : Bool} (ht : t.length ≤ 200) : ∀ (m k v : Nat), k + m = t.length → v < 10 ^ k →
    loopM (fun (st : ((Bool × (List Int)) × ((Bool × (List Int)) × ((List UInt8) × (Bool × ((List Int) × (Int × Int))))))) => Bd st.1 st.2.1 st.2.2.1 st.2.2.2.1 st.2.2.2.2.1 st.2.2.2.2.2.1 st.2.2.2.2.2.2)
      (s0, (big (v : Int), (s, (neg, (numsOf t, ((t.length : Int), (k : Int))))))) = some (if (t.drop k).all isDig then .inl (s0, (big ((valF v (t.drop k) : Nat) : Int), (s, neg))) else .inr ((false, []), false)) := by
  intro m
  induction m with
  | zero =>
    intro k v hk hv
    have h0 : t.drop k = [] := List.drop_eq_nil_of_le (by omega)
    refine Aw ?_
    show Bd s0 (big (v : Int)) s neg (numsOf t) (t.length : Int) (k : Int) = _
    unfold Bd
    rw [decide_eq_false (by omega), h0]
    rfl
  | succ m ih =>
    intro k v hk hv
    have hlt : k < t.length := by omega
    have hd : t.drop k = t[k] :: t.drop (k + 1) := List.drop_eq_getElem_cons hlt
    have hg : (numsOf t)[k]? = some ((t[k].toNat : Nat) : Int) := by unfold numsOf; rw [List.getElem?_map, List.getElem?_eq_getElem hlt]; rfl
    have hb := t[k].toNat_lt
    rw [hd]
    generalize t[k] = b at hg hb
    have hv2 : ((v : Int).natAbs : Int) < B 50 := by rw [Int.natAbs_natCast]; exact Lm hv (by omega)
    by_cases c : isDig b = true
    · have hdig := En.1 c
      have hgo : Bd s0 (big (v : Int)) s neg (numsOf t) (t.length : Int) (k : Int) = some (.inl (s0, (big ((v * 10 + (b.toNat - 48) : Nat) : Int), (s, (neg, (numsOf t, ((t.length : Int), ((k + 1 : Nat) : Int)))))))) := by
        unfold Bd
        rw [decide_eq_true (by omega), cT, Al, hg, obs, wrapI (by omega) (by omega), HT, obs, decide_eq_true (by omega), decide_eq_true (by omega), Bool.and_self, nT, cF, LV (by omega) (by omega), obs]
        obtain ⟨r, h1, h2⟩ := Vm (x := (v : Int)) (y := 10) (k := 50) (by omega) hv2 ten50
        simp only [peta]
        rw [h1, obs, h2]
        have w1 : IntKind.wrap .u8 (((b.toNat : Nat) : Int) - 48) = ((b.toNat - 48 : Nat) : Int) := by rw [IntKind.wrap_u8]; omega
        rw [w1, wrapI (by omega) (by omega), LV (by omega) (by omega), obs]
        have hv3 : (((v : Int) * 10).natAbs : Int) < B 51 := by
          have h4 : v * 10 < 10 ^ (k + 1) := by rw [Nat.pow_succ]; omega
          have h5 : (((v * 10 : Nat)) : Int) < B 50 := Lm h4 (by omega)
          have h6 := B_lt (show 50 < 51 by omega)
          omega
        have hd3 : ((((b.toNat - 48 : Nat) : Int)).natAbs : Int) < B 51 := by
          have h5 : ((b.toNat - 48 : Nat) : Int) < B 50 := Lm (i := 2) (by omega) (by omega)
          have h6 := B_lt (show 50 < 51 by omega)
          omega
        rw [Kl (k := 51) (by omega) hv3 hd3, obs, wrap1 (by omega)]
        congr 4
      refine (Bx (f := fun (st : ((Bool × (List Int)) × ((Bool × (List Int)) × ((List UInt8) × (Bool × ((List Int) × (Int × Int))))))) => Bd st.1 st.2.1 st.2.2.1 st.2.2.2.1 st.2.2.2.2.1 st.2.2.2.2.2.1 st.2.2.2.2.2.2)
        (s := (s0, (big (v : Int), (s, (neg, (numsOf t, ((t.length : Int), (k : Int)))))))) hgo).trans ?_
      rw [ih (k + 1) (v * 10 + (b.toNat - 48)) (by omega) (by rw [Nat.pow_succ]; omega), List.all_cons, c, Bool.true_and]
      try rfl
    · refine Aw ?_
      show Bd s0 (big (v : Int)) s neg (numsOf t) (t.length : Int) (k : Int) = _
      unfold Bd
      have hdig : ¬ (48 ≤ b.toNat ∧ b.toNat ≤ 57) := fun h => c (En.2 h)
      have hf : (decide ((48 : Int) ≤ ((b.toNat : Nat) : Int)) && decide (((b.toNat : Nat) : Int) ≤ 57)) = false := by
        rw [← Bool.decide_and]
        exact decide_eq_false (by omega)
      rw [decide_eq_true (by omega), cT, Al, hg, obs, wrapI (by omega) (by omega), HT, obs, hf, nF, cT, List.all_cons, Bool.eq_false_iff.2 c, Bool.false_and]
      rfl
theorem UE (z : Int) (h : (lim z.natAbs).length ≤ 1000000) : goodB (big z) = decide ((z.natAbs : Int) < B 40) := by
  rw [Bool.eq_iff_iff, El]
  simp only [decide_eq_true_eq]
  constructor
  · rintro ⟨w, h1, h2⟩
    rw [W3 h2]
    exact h1
  · intro h
    exact ⟨z, h, rfl⟩
def rdV (s : Str) (w : Int) : (Bool × List Int) × Bool := if (w.natAbs : Int) < B 40 ∧ Lib.itoa w = s then (big w, true) else ((false, []), false)
theorem Ti {s : Str} (hs : s.length ≤ 200) {neg : Bool} {t : Str} (hn : Lib.hasPrefix s [45] = neg) (htr : Lib.trimPrefix s [45] = t) (ht : t ≠ []) (htl : t.length ≤ 200) :
    A1 s = some (if t.all isDig then rdV s (sgn neg (valF 0 t)) else ((false, []), false)) := by
  unfold A1 Bm Ko
  rw [hn, htr, obs, decide_eq_false (by omega), cF]
  simp only
  rw [show (t == ([] : Str)) = false from beq_eq_false_iff_ne.2 ht, cF, decide_eq_true (by omega), cT]
  have h := RZ (s0 := (false, [])) (s := s) (neg := neg) htl t.length 0 0 (by omega) (by omega)
  rw [List.drop_zero] at h
  have hb0 : big ((0 : Nat) : Int) = (false, []) := by unfold big; rw [show (((0 : Nat) : Int)).natAbs = 0 from rfl, AH]; rfl
  rw [hb0] at h
  have hln : ((List.length (numsOf t) : Nat) : Int) = (t.length : Int) := by unfold numsOf; simp
  rw [← hln, show ((0 : Nat) : Int) = 0 from rfl] at h
  rw [h, obs]
  by_cases hd : t.all isDig = true
  · rw [if_pos hd, if_pos hd, sEl']
    have hv := Pt t 0 0 (by omega) (fun b hb => (List.all_eq_true.1 hd) b hb)
    rw [Nat.zero_add] at hv
    have hv50 := Lm hv htl
    have hl := Af.2 hv50
    generalize valF 0 t = v at hv50 hl
    have e1 : (big (v : Int)).2 = lim v := by rw [PI]
    simp only [e1]
    rw [RJ (by omega), obs]
    simp only
    rw [TN]
    have ha := T9 neg v
    generalize sgn neg v = w at ha
    have hlw : (lim w.natAbs).length ≤ 50 := by rw [ha]; exact hl
    rw [Bi (by unfold Brief big; dsimp only; omega), obs, UE w (by omega)]
    unfold rdV
    by_cases hw : (w.natAbs : Int) < B 40
    · rw [decide_eq_true hw, nT, cF, NA (k := 40) (by omega) hw, obs]
      by_cases he : Lib.itoa w = s
      · rw [if_pos ⟨hw, he⟩, he, beq_self_eq_true, nT, cF]
      · rw [if_neg (fun h => he h.2), beq_eq_false_iff_ne.2 he, nF, cT]
    · rw [if_neg (fun h => hw h.1), decide_eq_false hw, nF, cT]
  · rw [if_neg hd, if_neg hd, sEr']
theorem RY {s0 : Bool × List Int} {s t : Str} {neg : Bool} (ht : t.length ≤ 200) : ∀ (m k v : Nat), k + m = t.length → v < 10 ^ k →
    loopM (fun (st : ((Bool × (List Int)) × ((List Int) × ((List UInt8) × (Bool × ((List UInt8) × Int)))))) => AM st.1 st.2.1 st.2.2.1 st.2.2.2.1 st.2.2.2.2.1 st.2.2.2.2.2)
      (s0, (lim v, (s, (neg, (t, (k : Int)))))) = some (if (t.drop k).all isDig then .inl (s0, (lim (valF v (t.drop k)), (s, neg))) else .inr ((false, []), false)) := by
  intro m
  induction m with
  | zero =>
    intro k v hk hv
    have h0 : t.drop k = [] := List.drop_eq_nil_of_le (by omega)
    refine Aw ?_
    show AM s0 (lim v) s neg t (k : Int) = _
    unfold AM
    rw [decide_eq_false (by omega), h0]
    rfl
  | succ m ih =>
    intro k v hk hv
    have hlt : k < t.length := by omega
    have hd : t.drop k = t[k] :: t.drop (k + 1) := List.drop_eq_getElem_cons hlt
    have hg : t[k]? = some t[k] := List.getElem?_eq_getElem hlt
    have hb := t[k].toNat_lt
    rw [hd]
    generalize t[k] = b at hg hb
    have hv2 : (lim v).length ≤ 50 := Af.2 (Lm hv (by omega))
    by_cases c : isDig b = true
    · have hdig := En.1 c
      have hgo : AM s0 (lim v) s neg t (k : Int) = some (.inl (s0, (lim (v * 10 + (b.toNat - 48)), (s, (neg, (t, ((k + 1 : Nat) : Int))))))) := by
        unfold AM
        rw [decide_eq_true (by omega), cT, Al, hg, obs, decide_eq_false (by omega), cF, obs, decide_eq_false (by omega), cF, obs]
        have w1 : IntKind.wrap .u8 (((b.toNat : Nat) : Int) - 48) = ((b.toNat - 48 : Nat) : Int) := by rw [IntKind.wrap_u8]; omega
        have l10 : LB [(10 : Int)] := LB.cons (by omega) LB.nil
        have ld : LB [((b.toNat - 48 : Nat) : Int)] := LB.cons (by omega) LB.nil
        rw [w1, wrapI (by omega) (by omega), PO (Ar v) l10 (by omega) (by simp), obs, Ai]
        have e10 : ((v : Int) * val [10]).toNat = v * 10 := by simp only [val]; omega
        rw [e10]
        have hv3 : (lim (v * 10)).length ≤ 50 := Af.2 (Lm (i := k + 1) (by rw [Nat.pow_succ]; omega) (by omega))
        obtain ⟨r, h1, h2⟩ := Jo (Ar (v * 10)) ld (by omega) (by simp)
        rw [h1, obs, De (by unfold Brief; have := h2; grind), obs, Br (by grind), wrap1 (by omega)]
        have hval : val r = ((v * 10 + (b.toNat - 48) : Nat) : Int) := by
          have e : val [((b.toNat - 48 : Nat) : Int)] = ((b.toNat - 48 : Nat) : Int) := by simp only [val]; omega
          have e2 := Ai (v * 10)
          grind
        rw [hval, Int.toNat_natCast]
      refine (Bx (f := fun (st : ((Bool × (List Int)) × ((List Int) × ((List UInt8) × (Bool × ((List UInt8) × Int)))))) => AM st.1 st.2.1 st.2.2.1 st.2.2.2.1 st.2.2.2.2.1 st.2.2.2.2.2)
        (s := (s0, (lim v, (s, (neg, (t, (k : Int))))))) hgo).trans ?_
      rw [ih (k + 1) (v * 10 + (b.toNat - 48)) (by omega) (by rw [Nat.pow_succ]; omega), List.all_cons, c, Bool.true_and]
      try rfl
    · refine Aw ?_
      show AM s0 (lim v) s neg t (k : Int) = _
      unfold AM
      have hdig : ¬ (48 ≤ b.toNat ∧ b.toNat ≤ 57) := fun h => c (En.2 h)
      rw [decide_eq_true (by omega), cT, Al, hg, obs, List.all_cons, Bool.eq_false_iff.2 c, Bool.false_and]
      by_cases c1 : b.toNat < 48
      · rw [decide_eq_true (by omega), cT]; rfl
      · rw [decide_eq_false (by omega), cF, obs, decide_eq_true (by omega), cT]; rfl
theorem Si {s : Str} (hs : s.length ≤ 4000000000) : Co s = some (let neg := decide (s.head? = some 45); let t := if s.head? = some 45 then s.drop 1 else s
    if 1 ≤ t.length ∧ t.length ≤ 200 then (if t.all isDig then rdV s (sgn neg (valF 0 t)) else ((false, []), false)) else ((false, []), false)) := by
  have key : ∀ (neg : Bool) (t : Str), ((ED ((t.length : Nat) : Int) (1 : Int) (200 : Int))).bind (fun x8 =>
      bif (!x8) then
        some (((false, []), false) : (Bool × List Int) × Bool)
      else
      (loopM (fun (st : ((Bool × (List Int)) × ((List Int) × ((List UInt8) × (Bool × ((List UInt8) × Int)))))) => AM st.1 st.2.1 st.2.2.1 st.2.2.2.1 st.2.2.2.2.1 st.2.2.2.2.2) ((false, []), ([], (s, (neg, (t, (0 : Int))))))).bind fun x9 =>
      Sum.elim
        (fun x10 =>
        ((AY x10.2.2.2 x10.2.1)).bind fun x11 =>
        bif decide (((x10.2.1.length : Nat) : Int) > (40 : Int)) then
          some ((false, []), false)
        else
        ((CS (x11.2, x11.1))).bind fun x12 =>
        bif (!(x12 == x10.2.2.1)) then
          some ((false, []), false)
        else
        some ((x11.2, x11.1), true))
        (fun x13 =>
        some x13)
        x9) = some (if 1 ≤ t.length ∧ t.length ≤ 200 then (if t.all isDig then rdV s (sgn neg (valF 0 t)) else ((false, []), false)) else ((false, []), false)) := by
    intro neg t
    rw [PH, obs]
    by_cases hl : 1 ≤ t.length ∧ t.length ≤ 200
    · rw [if_pos hl, decide_eq_true (by omega), decide_eq_true (by omega), Bool.and_self, nT, cF]
      have h := RY (s0 := (false, [])) (s := s) (neg := neg) hl.2 t.length 0 0 (by omega) (by omega)
      rw [List.drop_zero, AH] at h
      have h' : loopM (fun (st : ((Bool × (List Int)) × ((List Int) × ((List UInt8) × (Bool × ((List UInt8) × Int)))))) => AM st.1 st.2.1 st.2.2.1 st.2.2.2.1 st.2.2.2.2.1 st.2.2.2.2.2) ((false, []), ([], (s, (neg, (t, (0 : Int)))))) = _ := h
      rw [h', obs]
      by_cases hd : t.all isDig = true
      · rw [if_pos hd, if_pos hd, sEl']
        have hv := Pt t 0 0 (by omega) (fun b hb => (List.all_eq_true.1 hd) b hb)
        rw [Nat.zero_add] at hv
        have hv50 := Lm hv hl.2
        have hln := Af.2 hv50
        generalize valF 0 t = v at hv50 hln
        simp only
        rw [P1 (by omega), obs]
        simp only
        rw [TN]
        have ha := T9 neg v
        generalize sgn neg v = w at ha
        unfold rdV
        by_cases hw : (w.natAbs : Int) < B 40
        · have h40 := Af.2 hw
          rw [ha] at h40
          rw [decide_eq_false (by omega), cF, QL (k := 40) (by omega) hw, obs]
          by_cases he : Lib.itoa w = s
          · rw [if_pos ⟨hw, he⟩, he, beq_self_eq_true, nT, cF]
          · rw [if_neg (fun h => he h.2), beq_eq_false_iff_ne.2 he, nF, cT]
        · have h40 : ¬ (lim w.natAbs).length ≤ 40 := fun h => hw (Af.1 h)
          rw [ha] at h40
          rw [if_neg (fun h => hw h.1), decide_eq_true (by omega), cT]
      · rw [if_neg hd, if_neg hd, sEr']
    · rw [if_neg hl]
      have hf : (decide ((1 : Int) ≤ ((t.length : Nat) : Int)) && decide (((t.length : Nat) : Int) ≤ 200)) = false := by
        rw [← Bool.decide_and]
        exact decide_eq_false (by omega)
      rw [hf, nF, cT]
  unfold Co
  cases s with
  | nil =>
    have := key false []
    simp only [List.length_nil] at this ⊢
    rw [decide_eq_false (by omega), cF, obs, sEr']
    simp only [cF]
    rw [obs, sEr']
    simp only [List.length_nil]
    rw [this]
    rfl
  | cons b s' =>
    have hg : getI (b :: s') 0 = some b := rfl
    rw [decide_eq_true (by simp only [List.length_cons]; omega), cT, hg, obs, obs, sEr']
    simp only
    by_cases hb : b = 45
    · subst hb
      rw [show ((((45 : UInt8).toNat : Nat) : Int) == 45) = true from rfl, cT]
      have e : subI (1 : Int) (((45 :: s').length : Nat) : Int) (45 :: s' : Str).length = some (1, (45 :: s' : Str).length) := Ui rfl rfl (by simp) (Nat.le_refl _)
      rw [e, obs, obs, sEr']
      simp only
      rw [List.take_length, key]
      rfl
    · have hb' : ((((b.toNat : Nat) : Int)) == 45) = false := by
        refine beq_eq_false_iff_ne.2 fun h => hb ?_
        have : b.toNat = (45 : UInt8).toNat := Int.ofNat_inj.1 h
        exact UInt8.toNat_inj.1 this
      rw [hb', cF, obs, sEr']
      simp only
      rw [key]
      have : ¬ (b :: s').head? = some 45 := fun h => hb (Option.some.inj h)
      simp only [this, if_false, decide_false]
end Go.Proofs.YtgfchmagglhohaaGreatDoor.Ev

end
section
namespace Go.Proofs.YtgfchmagglhohaaGreatDoor.Ev
open Go
set_option linter.unusedVariables false
set_option linter.unusedSimpArgs false
set_option linter.unusedSectionVars false
def rdBig (s : Str) : (Bool × List Int) × Bool := let neg := decide (s.head? = some 45); let t := if s.head? = some 45 then s.drop 1 else s
  if 1 ≤ t.length ∧ t.length ≤ 200 then (if t.all isDig then rdV s (sgn neg (valF 0 t)) else ((false, []), false)) else ((false, []), false)
theorem U8 {s : Str} (hs : s.length ≤ 4000000000) : Co s = some (rdBig s) := Si hs
theorem Iz {w : Int} (h : (w.natAbs : Int) < B 40) : (Lib.itoa w).length ≤ 194 := by
  rw [GZ]
  have := OO h
  split <;> simp <;> omega
theorem OK {s : Str} (hs : s.length ≤ 4000000000) : A1 s = some (rdBig s) := by
  obtain ⟨h1, h2⟩ := Ua s
  have htl : (if s.head? = some 45 then s.drop 1 else s).length ≤ s.length ∧ s.length ≤ (if s.head? = some 45 then s.drop 1 else s).length + 1 := by
    split <;> simp <;> omega
  unfold rdBig
  generalize (if s.head? = some 45 then s.drop 1 else s) = t at h2 htl
  generalize decide (s.head? = some 45) = neg at h1
  simp only
  by_cases hl : s.length ≤ 200
  · by_cases ht : t = []
    · rw [if_neg (by rw [ht]; simp)]
      unfold A1 Bm Ko
      rw [h2, ht, obs, decide_eq_false (by omega), cF]
      rfl
    · have : 1 ≤ t.length := by
        rcases Nat.eq_zero_or_pos t.length with h | h
        · exact absurd (List.eq_nil_of_length_eq_zero h) ht
        · exact h
      rw [if_pos ⟨this, by omega⟩, Ti hl h1 h2 ht (by omega)]
  · have : A1 s = some ((false, []), false) := by
      unfold A1 Bm Ko
      rw [obs, decide_eq_true (by omega), cT]
    rw [this]
    congr 1
    symm
    split
    · split
      · unfold rdV
        rw [if_neg]
        rintro ⟨g1, g2⟩
        have := Iz g1
        rw [g2] at this
        omega
      · rfl
    · rfl
theorem S3 {w : Int} (h : (w.natAbs : Int) < B 40) : rdBig (Lib.itoa w) = (big w, true) := by
  have hl := OO h
  obtain ⟨⟨c1, c2, c3⟩, c4, c5⟩ := OF w.natAbs
  have h1 : 1 ≤ (Lib.decDigits w.natAbs).length := by
    rcases Nat.eq_zero_or_pos (Lib.decDigits w.natAbs).length with h | h
    · exact absurd (List.eq_nil_of_length_eq_zero h) c2
    · exact h
  have ha : (Lib.decDigits w.natAbs).all isDig = true := List.all_eq_true.2 c1
  have hv : ∀ s, Lib.itoa w = s → rdV s w = (big w, true) := fun s hs => by unfold rdV; rw [if_pos ⟨h, hs⟩]
  unfold rdBig
  by_cases hw : w < 0
  · have e : Lib.itoa w = 45 :: Lib.decDigits w.natAbs := by rw [GZ, if_pos hw]
    have hs : sgn true w.natAbs = w := by unfold sgn; rw [if_pos rfl]; omega
    have hh : (45 :: Lib.decDigits w.natAbs).head? = some 45 := rfl
    have hd : (45 :: Lib.decDigits w.natAbs).drop 1 = Lib.decDigits w.natAbs := rfl
    rw [e]
    simp only [hh, if_true, decide_true, hd]
    rw [if_pos ⟨h1, by omega⟩, if_pos ha, c4, hs, hv _ e]
  · have e : Lib.itoa w = Lib.decDigits w.natAbs := by rw [GZ, if_neg hw]
    have hs : sgn false w.natAbs = w := by unfold sgn; rw [if_neg (by simp)]; omega
    have hh : ¬ (Lib.decDigits w.natAbs).head? = some 45 := by
      intro hh
      cases hz : Lib.decDigits w.natAbs with
      | nil => exact c2 hz
      | cons b t =>
        rw [hz] at hh
        exact Qc (u := w.natAbs) (t := t) (by rw [hz, Option.some.inj hh])
    rw [e]
    simp only [hh, if_false, decide_false]
    rw [if_pos ⟨h1, by omega⟩, if_pos ha, c4, hs, hv _ e]
theorem R4 (s : Str) : (rdBig s).1.2.length ≤ 1000000 := by
  have hv : ∀ w, (rdV s w).1.2.length ≤ 1000000 := by
    intro w
    unfold rdV
    split
    · rename_i h
      have := Af.2 h.1
      unfold big; dsimp only; omega
    · simp
  unfold rdBig
  simp only
  generalize (if s.head? = some 45 then s.drop 1 else s) = t
  split
  · split
    · exact hv _
    · simp
  · simp
theorem Uu {w : Int} (h : (w.natAbs : Int) < B 40) : B0 (big w) = some (Lib.itoa w, true) := by
  unfold B0
  simp only [peta]
  rw [Bi (Bj h), obs, Bb h, nT, cF, NA (k := 40) (by omega) h, obs]
theorem Oq {w : Int} (h : (w.natAbs : Int) < B 40) : Bp (big w) = some (Lib.itoa w, true) := by
  unfold Bp
  simp only [peta]
  rw [A0 (Bj h), obs, Bb h, nT, cF, QL (k := 40) (by omega) h, obs]
theorem Oc {b : Bool × List Int} (hb : Brief b.2) (h : goodB b = false) : B0 b = some ([], false) := by
  unfold B0
  simp only [peta]
  rw [Bi hb, obs, h, nF, cT]
theorem H5 {b : Bool × List Int} (hb : Brief b.2) (h : goodB b = false) : Bp b = some ([], false) := by
  unfold Bp
  simp only [peta]
  rw [A0 hb, obs, h, nF, cT]
theorem NP {b : Bool × List Int} (hb : Brief b.2) : ∃ t ok, Bp b = some (t, ok) ∧ t.length ≤ 194 := by
  cases hg : goodB b with
  | false => exact ⟨_, _, H5 hb hg, by simp⟩
  | true =>
    obtain ⟨w, h1, rfl⟩ := El.1 hg
    exact ⟨_, _, Oq h1, Iz h1⟩
theorem Yh {B' : Nat} {c : List Int × Int × Int} (h : Cur B' c) (hB : B' ≤ 1000000000000) (l : List Str) (h1 : 1 ≤ l.length) (h2 : l.length < 1000000) : ∃ c' v, Da c l = some (c', v) ∧ Cur (B' + 2) c' ∧ v ∈ l := by
  obtain ⟨c1, v1, e1, q1, a1, b1⟩ := Fn h (by omega) (l.length : Int)
  have b1 := b1 (by omega)
  obtain ⟨k, rfl⟩ : ∃ k : Nat, v1 = (k : Int) := ⟨v1.toNat, by omega⟩
  have hk : k < l.length := by omega
  unfold Da
  simp only [peta]
  rw [e1, obs, Al, List.getElem?_eq_getElem hk, obs]
  exact ⟨_, _, rfl, q1, List.getElem_mem hk⟩
end Go.Proofs.YtgfchmagglhohaaGreatDoor.Ev

end
section
namespace Go.Proofs.YtgfchmagglhohaaGreatDoor.Ev
open Go Go.RowKit Go.ChangeShapes Go.WideShapes Go.ChangeAt
set_option linter.unusedVariables false
theorem I6 {l : List Int} (h : WFC (.sl 1 (.int .u8)) l) : (∀ x ∈ l, 0 ≤ x ∧ x ≤ 255) ∧ l.length ≤ 1000000000000000 := by
  have h1 : ∀ x ∈ l, (Lit.int .u8 x).wf = true := h.1
  have h2 : l.length * 1 ≤ maxBytes := h.2
  refine ⟨fun x hx => ?_, by unfold maxBytes at h2; omega⟩
  have := h1 x hx
  simp [Lit.wf, IntKind.min, IntKind.max, IntKind.bits, IntKind.signed] at this
  omega
end Go.Proofs.YtgfchmagglhohaaGreatDoor.Ev

end
section
namespace Go.Proofs.YtgfchmagglhohaaGreatDoor.Ev
open Go
set_option linter.unusedVariables false
set_option linter.unusedSimpArgs false
set_option linter.unusedSectionVars false
abbrev BB := Bool × List Int
theorem VZ {b : List Int} (hb : Cur 0 (b, 0, 0)) :
    (((BC b)).bind fun x40 =>
          ((A1 x40)).bind fun x41 =>
          ((Co x40)).bind fun x42 =>
          bif (x41.2 == x42.2) then
            ((Am (x41.1.1, x41.1.2) (x42.1.1, x42.1.2))).bind fun x43 =>
            some x43
          else
          some false) = some true := by
  have h1 : ∃ s : Str, BC b = some s ∧ s.length ≤ 200 := by
    unfold BC
    obtain ⟨c0, x, e0, q0, n0⟩ := Qe hb (by omega)
    obtain ⟨t, ok, et, lt⟩ := NP (b := x) (by unfold Brief; omega)
    obtain ⟨c1, v1, e1, q1⟩ := JU q0 (by omega) 4
    simp only [e0, obs, peta, et, e1]
    cases v1
    · exact ⟨_, rfl, by omega⟩
    · obtain ⟨c2, r, e2, q2, m2⟩ := Yh q1 (by omega) [[], [45], [45, 48], [48, 48, 55], [49, 50, 97], [48], [45, 53]] (by simp) (by simp)
      simp only [cT]
      rw [e2, obs]
      refine ⟨_, rfl, ?_⟩
      simp at m2
      rcases m2 with h | h | h | h | h | h | h <;> rw [h] <;> simp
  obtain ⟨s, e, hs⟩ := h1
  simp only [peta]
  rw [e, obs, OK (by omega), obs, U8 (by omega), obs, beq_self_eq_true, cT, DG (R4 s), obs]
theorem Wu {b : List Int} (hb : Cur 0 (b, 0, 0)) {K : List Int → Option Bool} (hK : K b = some true) :
    (((BA b)).bind fun x32 =>
        ((B0 (x32.1, x32.2))).bind fun x33 =>
        ((Bp (x32.1, x32.2))).bind fun x34 =>
        bif (!(x33.2 == x34.2)) then
          some false
        else
        bif (!(x33.1 == x34.1)) then
          some false
        else
        (bif x33.2 then
            ((A1 x33.1)).bind fun x35 =>
            bif decide (((x33.1.length : Nat) : Int) ≤ (200 : Int)) then
              bif (!x35.2) then
                some (Sum.inl false)
              else
              ((Am (x35.1.1, x35.1.2) (x32.1, x32.2))).bind fun x36 =>
              bif (!x36) then
                some (Sum.inl false)
              else
              some (Sum.inr b)
            else
            some (Sum.inr b)
          else
          some (Sum.inr b)).bind fun x37 =>
        Sum.elim
          (fun x38 =>
          some x38)
          (fun x39 => K x39)
          x37) = some true := by
  have h1 : ∃ x : BB, BA b = some x ∧ x.2.length ≤ 100 := by
    unfold BA CQ
    obtain ⟨c0, x, e0, q0, n0⟩ := Qe hb (by omega)
    simp only [e0, obs, peta]
    exact ⟨_, rfl, n0⟩
  obtain ⟨x, e, hx⟩ := h1
  simp only [peta]
  rw [e, obs]
  cases hg : goodB x with
  | false =>
    rw [Oc (by unfold Brief; omega) hg, obs, H5 (by unfold Brief; omega) hg, obs]
    simp only [beq_self_eq_true, nT, cF, obs, sEr']
    exact hK
  | true =>
    obtain ⟨w, h1, rfl⟩ := El.1 hg
    have hl := Iz h1
    have hb := Fl w
    rw [Ej h1] at hb
    rw [Uu h1, obs, Oq h1, obs]
    simp only [beq_self_eq_true, nT, cF, cT]
    rw [OK (by omega), obs, S3 h1, decide_eq_true (by omega)]
    simp only [cT, nT, cF]
    rw [DG hb]
    simp only [obs, nT, cF, sEr']
    exact hK
theorem X1 {b : List Int} (hb : Cur 0 (b, 0, 0)) {K : List Int → Option Bool} (hK : K b = some true) :
    (((B8 b)).bind fun x23 =>
      ((Cy x23)).bind fun x24 =>
      ((As (x24.1, x24.2))).bind fun x25 =>
      bif (!x25) then
        some false
      else
      ((Ek x23)).bind fun x26 =>
      ((Am (x24.1, x24.2) (x26.1, x26.2))).bind fun x27 =>
      bif (!x27) then
        some false
      else
      ((DH (x24.1, x24.2))).bind fun x28 =>
      (bif x28.2 then
          bif (x28.1 != x23) then
            some (Sum.inl false)
          else
          bif decide (x23 ≥ (-(4611686018427387904 : Int))) then
            bif (!(x28.2 == decide (x23 ≤ (4611686018427387904 : Int)))) then
              some (Sum.inl false)
            else
            some (Sum.inr b)
          else
          bif (!(x28.2 == false)) then
            some (Sum.inl false)
          else
          some (Sum.inr b)
        else
        bif decide (x23 ≥ (-(4611686018427387904 : Int))) then
          bif (!(x28.2 == decide (x23 ≤ (4611686018427387904 : Int)))) then
            some (Sum.inl false)
          else
          some (Sum.inr b)
        else
        bif (!(x28.2 == false)) then
          some (Sum.inl false)
        else
        some (Sum.inr b)).bind fun x29 =>
      Sum.elim
        (fun x30 =>
        some x30)
        (fun x31 => K x31)
        x29) = some true := by
  have h1 : ∃ v, B8 b = some v ∧ I64 v := by
    unfold B8
    obtain ⟨c0, x, e0, q0, n0⟩ := Vb hb (by omega)
    rw [e0, obs]
    exact ⟨_, rfl, n0⟩
  obtain ⟨v, e, hv⟩ := h1
  have hl := @lim64 v.natAbs (by unfold I64 at hv; omega)
  have hv40 : (v.natAbs : Int) < B 40 := Af.1 (by omega)
  have hbr := Fl v
  rw [Ej hv40] at hbr
  simp only [peta]
  rw [e, obs, LV hv.1 hv.2, obs, Bi (Bj hv40), obs, Bb hv40, nT, cF, WT hv.1 hv.2, obs, DG hbr, obs, nT, cF, Xp hv40, obs]
  unfold smallR
  by_cases hs : v.natAbs ≤ 4611686018427387904
  · rw [if_pos hs, decide_eq_true (show v ≥ -4611686018427387904 by omega), decide_eq_true (show v ≤ 4611686018427387904 by omega)]
    simp only [cT, bne_self_eq_false, cF, beq_self_eq_true, nT, obs, sEr']
    exact hK
  · rw [if_neg hs]
    simp only [cF]
    by_cases h2 : v ≥ -4611686018427387904
    · rw [decide_eq_true h2, decide_eq_false (show ¬ v ≤ 4611686018427387904 by omega)]
      simp only [cT, beq_self_eq_true, nT, cF, obs, sEr']
      exact hK
    · rw [decide_eq_false h2]
      simp only [cT, beq_self_eq_true, nT, cF, obs, sEr']
      exact hK
theorem Xr (z : Int) : (big z).1 = decide (z < 0) := rfl
theorem VK (x y : Int) (b : List Int) : (bif (fitsR (x - y)).2 then
    bif (!((fitsR (x - y)).1.1 == decide (cmpZ x y < (0 : Int)))) then
      some (Sum.inl false)
    else
    ((BF (fitsR (x - y)).1)).bind fun x19 =>
    bif (!(x19 == (cmpZ x y == (0 : Int)))) then
      some (Sum.inl false)
    else
    some (Sum.inr b)
  else
  some (Sum.inr b)) = (some (Sum.inr b) : Option (Bool ⊕ List Int)) := by
  by_cases hf : ((x - y).natAbs : Int) < B 40
  · rw [Ej hf]
    simp only [cT]
    rw [Ud, obs, Xr]
    have c1 : (decide (x - y < 0) == decide (cmpZ x y < 0)) = true := by
      rw [beq_iff_eq, Bool.eq_iff_iff]
      simp only [decide_eq_true_eq]
      rcases Bk x y with ⟨g, _⟩ | ⟨g, _⟩ | ⟨g, _⟩ <;> rw [g] <;> omega
    have c2 : (decide (x - y = 0) == (cmpZ x y == 0)) = true := by
      rw [beq_iff_eq, Bool.eq_iff_iff]
      simp only [decide_eq_true_eq, beq_iff_eq]
      rcases Bk x y with ⟨g, _⟩ | ⟨g, _⟩ | ⟨g, _⟩ <;> rw [g] <;> omega
    rw [c1, c2]
    rfl
  · rw [UU hf]
    rfl
theorem T1 {b : List Int} {K : List Int → Option Bool} (hK : K b = some true) (f2 : BB × Bool) (c : Int) (tail : (bif f2.2 then
      bif !f2.1.1 == decide (c < 0) then some (Sum.inl false)
      else (BF f2.1).bind fun x19 => bif !x19 == (c == 0) then some (Sum.inl false) else some (Sum.inr b)
    else some (Sum.inr b)) = (some (Sum.inr b) : Option (Bool ⊕ List Int))) :
    (fun (x18 : BB × (List Int × (Bool × Int))) =>
    (bif x18.2.2.1 then
        bif (!(x18.1.1 == decide (x18.2.2.2 < (0 : Int)))) then
          some (Sum.inl false)
        else
        ((BF x18.1)).bind fun x19 =>
        bif (!(x19 == (x18.2.2.2 == (0 : Int)))) then
          some (Sum.inl false)
        else
        some (Sum.inr x18.2.1)
      else
      some (Sum.inr x18.2.1)).bind fun x20 =>
    Sum.elim
      (fun x21 =>
      some x21)
      (fun x22 => K x22)
      x20) (f2.1, (b, (f2.2, c))) = some true := by
  simp only
  rw [tail, obs, sEr']
  exact hK
theorem W5 {γ : Type} {p q r : BB} (v : γ) (e1 : A5 r q = some (p, true)) (e2 : A8 q p = some (r, true)) (e3 : As r = some true) (lp : Am p p = some true) (l1 : Am r r = some true) :
    (((A5 r q)).bind fun x11 =>
      ((A8 q p)).bind fun x12 =>
      ((As r)).bind fun x13 =>
      bif (!x13) then
        (some (Sum.inl false) : Option (Bool ⊕ γ))
      else
      bif (!x11.2) then
        some (Sum.inl false)
      else
      ((Am x11.1 p)).bind fun x14 =>
      bif (!x14) then
        some (Sum.inl false)
      else
      bif (!x12.2) then
        some (Sum.inl false)
      else
      ((Am x12.1 r)).bind fun x15 =>
      bif (!x15) then
        some (Sum.inl false)
      else
      some (Sum.inr v)) = some (Sum.inr v) := by
  simp only [e1, e2, e3, obs, nT, cF, lp, l1]
theorem Xs {a b : List Int} (ha : Cur 0 (a, 0, 0)) {K : List Int → Option Bool} (hK : K b = some true) :
    (((BY a)).bind fun x0 =>
  ((A8 (x0.1.1, x0.1.2) (x0.2.1, x0.2.2))).bind fun x1 =>
  ((Ch (x0.1.1, x0.1.2) (x0.2.1, x0.2.2))).bind fun x2 =>
  ((A5 (x0.1.1, x0.1.2) (x0.2.1, x0.2.2))).bind fun x3 =>
  ((Cm (x0.1.1, x0.1.2) (x0.2.1, x0.2.2))).bind fun x4 =>
  ((Bf (x0.1.1, x0.1.2) (x0.2.1, x0.2.2))).bind fun x5 =>
  ((Bg (x0.1.1, x0.1.2) (x0.2.1, x0.2.2))).bind fun x6 =>
  bif (!(x1.2 == x2.2)) then
    some false
  else
  ((Am (x1.1.1, x1.1.2) (x2.1.1, x2.1.2))).bind fun x7 =>
  bif (!x7) then
    some false
  else
  bif (!(x3.2 == x4.2)) then
    some false
  else
  ((Am (x3.1.1, x3.1.2) (x4.1.1, x4.1.2))).bind fun x8 =>
  bif (!x8) then
    some false
  else
  bif (!(x5.2 == x6.2)) then
    some false
  else
  bif (x5.1 != x6.1) then
    some false
  else
  ((As (x0.1.1, x0.1.2))).bind fun x9 =>
  ((AQ (x0.1.1, x0.1.2))).bind fun x10 =>
  bif (!(x9 == x10)) then
    some false
  else
  (bif x1.2 then
      ((A5 (x1.1.1, x1.1.2) (x0.2.1, x0.2.2))).bind fun x11 =>
      ((A8 (x0.2.1, x0.2.2) (x0.1.1, x0.1.2))).bind fun x12 =>
      ((As (x1.1.1, x1.1.2))).bind fun x13 =>
      bif (!x13) then
        some (Sum.inl false)
      else
      bif (!x11.2) then
        some (Sum.inl false)
      else
      ((Am (x11.1.1, x11.1.2) (x0.1.1, x0.1.2))).bind fun x14 =>
      bif (!x14) then
        some (Sum.inl false)
      else
      bif (!x12.2) then
        some (Sum.inl false)
      else
      ((Am (x12.1.1, x12.1.2) (x1.1.1, x1.1.2))).bind fun x15 =>
      bif (!x15) then
        some (Sum.inl false)
      else
      some (Sum.inr ((x3.1.1, x3.1.2), (b, (x3.2, x5.1))))
    else
    some (Sum.inr ((x3.1.1, x3.1.2), (b, (x3.2, x5.1))))).bind fun x16 =>
  Sum.elim
    (fun x17 =>
    some x17)
    (fun x18 =>
    (bif x18.2.2.1 then
        bif (!(x18.1.1 == decide (x18.2.2.2 < (0 : Int)))) then
          some (Sum.inl false)
        else
        ((BF (x18.1.1, x18.1.2))).bind fun x19 =>
        bif (!(x19 == (x18.2.2.2 == (0 : Int)))) then
          some (Sum.inl false)
        else
        some (Sum.inr x18.2.1)
      else
      some (Sum.inr x18.2.1)).bind fun x20 =>
    Sum.elim
      (fun x21 =>
      some x21)
      (fun x22 => K x22)
      x20)
    x16) = some true := by
  obtain ⟨p, q, e, hp, hq⟩ : ∃ p q, BY a = some (p, q) ∧ p.2.length ≤ 100 ∧ q.2.length ≤ 100 := by
    obtain ⟨p, q, e, h1, h2⟩ := Qa ha
    refine ⟨p, q, ?_, h1, h2⟩
    unfold BY
    rw [e, obs]
  have bp : Brief p.2 := by unfold Brief; omega
  have bq : Brief q.2 := by unfold Brief; omega
  simp only [peta]
  rw [e, obs]
  simp only
  cases hg : goodB p && goodB q with
  | false =>
    have hz : Am (false, []) (false, []) = some true := DG (by simp)
    rw [P8 bp bq hg, obs, P2 bp bq hg, obs, Po bp bq hg, obs, Pw bp bq hg, obs, J5 bp bq hg, obs, JZ bp bq hg, obs]
    rw [beq_self_eq_true, nT, cF, hz, obs, nT, cF, cF, obs, nT, cF, cF, bne_self_eq_false, cF]
    rw [Bi bp, obs, A0 bp, obs]
    simp only [beq_self_eq_true, nT, cF, obs, sEr']
    exact hK
  | true =>
    rw [Bool.and_eq_true] at hg
    obtain ⟨x, hx, ex⟩ := El.1 hg.1
    obtain ⟨y, hy, ey⟩ := El.1 hg.2
    have l1 := DG (Fl (x + y))
    have l2 := DG (Fl (x - y))
    have lp : Am p p = some true := DG (by omega)
    have tail := VK x y b
    have a1 := QB hx hy
    have a2 := WH hx hy
    have a3 := RM hx hy
    have a4 := VW hx hy
    have a5 := PW hx hy
    have a6 := Qg hx hy
    have inv : (fitsR (x + y)).2 = true → A5 (fitsR (x + y)).1 (big y) = some (big x, true) ∧ A8 (big y) (big x) = some ((fitsR (x + y)).1, true) ∧ As (fitsR (x + y)).1 = some true := by
      intro h
      have hf : ((x + y).natAbs : Int) < B 40 := by
        unfold fitsR at h
        by_cases hf : ((x + y).natAbs : Int) < B 40
        · exact hf
        · rw [if_neg hf] at h; cases h
      have e1 := RM hf hy
      have e2 := QB hy hx
      have e3 := Bi (Bj hf)
      rw [show x + y - y = x by omega, Ej hx] at e1
      rw [show y + x = x + y by omega, Ej hf] at e2
      rw [Bb hf] at e3
      rw [Ej hf]
      exact ⟨e1, e2, e3⟩
    rw [← ex, ← ey] at a1 a2 a3 a4 a5 a6 inv
    clear ex ey hx hy
    generalize fitsR (x + y) = f1 at l1 a1 a2 inv
    generalize fitsR (x - y) = f2 at l2 a3 a4 tail
    generalize cmpZ x y = c at a5 a6 tail
    rw [a1, obs, a2, obs, a3, obs, a4, obs, a5, obs, a6, obs, beq_self_eq_true, nT, cF, l1, obs, nT, cF, beq_self_eq_true, nT, cF, l2, obs, nT, cF]
    simp only
    rw [beq_self_eq_true, nT, cF, bne_self_eq_false, cF, Bi bp, obs, A0 bp, obs, beq_self_eq_true, nT, cF]
    cases hf : f1.2 with
    | true =>
      obtain ⟨e1, e2, e3⟩ := inv hf
      rw [cT, W5 _ e1 e2 e3 lp l1, obs, sEr']
      exact T1 hK f2 c tail
    | false =>
      rw [cF, obs, sEr']
      exact T1 hK f2 c tail
theorem pureFnNumbers {a b : List Int} (ha : ∀ x ∈ a, 0 ≤ x ∧ x ≤ 255) (hb : ∀ x ∈ b, 0 ≤ x ∧ x ≤ 255) (la : a.length ≤ 1000000000000000) (lb : b.length ≤ 1000000000000000) : CP a b = some true := by
  unfold CP
  rw [wrapI (by omega) (by omega)]
  by_cases hl : (a.length : Int) + (b.length : Int) > 1048576
  · rw [decide_eq_true hl]; rfl
  rw [decide_eq_false hl, cF]
  have ca : Cur 0 (a, 0, 0) := .start ha (by omega)
  have cb : Cur 0 (b, 0, 0) := .start hb (by omega)
  exact Xs ca (X1 cb (Wu cb (VZ cb)))
end Go.Proofs.YtgfchmagglhohaaGreatDoor.Ev

end
section
namespace Go.Proofs.YtgfchmagglhohaaGreatDoor.Ev
open Go Go.RowKit Go.ChangeShapes Go.WideShapes Go.ChangeAt
set_option linter.unusedVariables false
set_option maxRecDepth 100000
def shs : List Sh := [.sl 1 (.int .u8), .sl 1 (.int .u8)]
theorem fits : FitsL Tryz.prog [22, 22] shs := by
  exact ⟨.sl (e := 5) (by kernel_rfl) (by kernel_rfl) (by kernel_rfl) (.int (by kernel_rfl)), .sl (e := 5) (by kernel_rfl) (by kernel_rfl) (by kernel_rfl) (.int (by kernel_rfl)), trivial⟩
theorem own : ownKnob Tryz.prog.godebug = none := by kernel_rfl
theorem laid : laidOutB Tryz.prog = true := by kernel_rfl
theorem door_met (os : Os) (args : Array Value) : laidMetH Tryz.prog Rows.fnNumbersRow.laid ((World.laidAll Tryz.prog os Rows.fnNumbersRow.laid).forCall (fun _ _ => 0) ⟨#[], args, []⟩).memory := by
  rw [MakeChecks.laidMetH_plain _ _ _ (by kernel_rfl)]
  exact laidMet_laidAll _ (by kernel_rfl) (by kernel_rfl)
theorem starE : "*" ++ "errors.errorString" = "*errors.errorString" := by decide
def ids : List Nat := [3]
theorem libJ {W : World} (hsh : W.ShapedOpen Tryz.prog) (hL : laidMetH Tryz.prog Rows.fnNumbersRow.laid W) : LibJ (Jof W ids) := by
  rw [MakeChecks.laidMetH_plain _ _ _ (by kernel_rfl)] at hL
  have hP : laidMet Tryz.prog Rows.fnNumbersRow.laid W := hL
  have htab : Lib.TabIs Tryz.prog W "internal/strconv.uint64pow10" .u64 Lib.pow10Tab := Lib.tabIs_of_head (g := 3) (t := 228) (e := 76) (n := 20) (by kernel_rfl) (by kernel_rfl) (by kernel_rfl) (by kernel_rfl) (by kernel_rfl) (by kernel_rfl) (show laidMet Tryz.prog ((_, Lib.tabData .u64 Lib.pow10Tab) :: _) W from JE 2 hP)
  unfold ids
  exact { tab := jtab (g := 3) (by kernel_rfl) (by simp) htab }
theorem lifted (os : Os) (started : os.Started) (H : Type) (enc : TypeId × Value → H) :
    ReturnsInHanded {} Tryz.checked os 4 .any (fun w args => (Rows.fnNumbersSpec.pre enc Tryz.prog Tryz.f4 [] false w args ∧ laidMetH Tryz.prog Rows.fnNumbersRow.laid w) ∧ sizedMet enc Tryz.prog Tryz.f4 (OpenSpec.ofChange Rows.fnNumbersSpec) false w args)
      (Rows.fnNumbersSpec.post enc Tryz.prog Tryz.f4 false true false false) := by
  refine GQ (C := Tryz.checked) (X := fun w _ => laidMetH Tryz.prog Rows.fnNumbersRow.laid w) (fun _ _ _ hh h => h.of_heap hh) own started (by kernel_rfl) Tryz.func4
    (ChangeSpec.witness_shaped (enc := enc) (C := Tryz.checked) (os := os) (X := fun w _ => laidMetH Tryz.prog Rows.fnNumbersRow.laid w) false (World.laidAll Tryz.prog os Rows.fnNumbersRow.laid) #[.slice none 0 0, .slice none 0 0] 8 (World.laidAll_os _ _ _) (World.shaped_of_ZipB (by kernel_rfl) (by kernel_rfl)) (by kernel_rfl) (by kernel_rfl) (by kernel_rfl) (door_met os _)) ?_
  intro W base args ds gs before hval hW hsz hsh hL
  exact P4 (P := Tryz.prog) (J := Jof W ids) (cf := cf0) (ext := ext0) (F := fun x => CP x.1 x.2) (shs := shs) (by kernel_rfl) (VH (libJ hsh hL)) Ms (fun d => by kernel_rfl)
    (fun d hd => pureFnNumbers (I6 hd.1).1 (I6 hd.2.1).1 (I6 hd.1).2 (I6 hd.2.1).2) rfl rfl rfl (by kernel_rfl) fits laid
    (fun t ht => by
      have : t = 22 := by simpa using ht
      rcases this with rfl <;> exact ⟨by kernel_rfl, of_decide_eq_true (by kernel_rfl)⟩) rfl
    (fun ds hl => by
      match ds, hl with
      | [_, _], _ => rfl) VS hval hW hsz
theorem over : Rows.fnNumbersRow.holds Tryz.pinned (OpenSpec.ofChange Rows.fnNumbersSpec) :=
  OpenClaim.holds_of_wide 4 Tryz.f4 rfl rfl rfl rfl rfl rfl rfl ⟨rfl, rfl, rfl, rfl, rfl⟩ rfl rfl rfl rfl rfl (by kernel_rfl) Tryz.func4 (by kernel_rfl)
    (of_decide_eq_true (by kernel_rfl)) (by unfold Func.isWrapper; first | (rw [if_pos (by decide +kernel)]; kernel_rfl) | (rw [if_neg (by decide +kernel)]; exact ⟨rfl, rfl⟩))
    (fun os started H enc _ => lifted os started H enc)
theorem carded : Rows.FnNumbersCardSaid :=
  Claim7.holds_tied_plain_at .later [] [.data, .data, .data] true (true, "13742ff60ebdca116fcfe556ed49df439607de04dc04ac1f6eda776bad92e3f2") true
    over (fun _ h => by cases h) (by kernel_rfl) (fun _ h => by cases h) fnNumbers_row_tie rfl ⟨rfl, rfl⟩ (by kernel_rfl) rfl
    (fun f fn hf hfn => by
      obtain rfl : f = 4 := Option.some.inj ((show Tryz.prog.funcNamed "loop.example/g00409/laws.FnNumbers" = some 4 by kernel_rfl).symm.trans hf) |>.symm
      obtain rfl : fn = Tryz.f4 := (Option.some.inj (Tryz.func4.symm.trans hfn)).symm
      exact ⟨by kernel_rfl, fun j t ht => by
        rw [show Tryz.f4.params = #[22, 22] from rfl] at ht
        have hm : t ∈ [22, 22] := by simpa using Array.mem_of_getElem? ht
        have hall : ([22, 22].all fun u => !Tryz.prog.wantsStandIn u) = true := by kernel_rfl
        exact (show Tryz.prog.wantsStandIn t = false by simpa using List.all_eq_true.1 hall t hm)⟩)
    (by kernel_rfl)
end Go.Proofs.YtgfchmagglhohaaGreatDoor.Ev
namespace Go.Proofs.YtgfchmagglhohaaGreatDoor
theorem fnNumbers_holds : Rows.FnNumbersSaid := Ev.over
theorem fnNumbers_card_holds : Rows.FnNumbersCardSaid := Ev.carded
#print axioms fnNumbers_card_holds
end Go.Proofs.YtgfchmagglhohaaGreatDoor

end
