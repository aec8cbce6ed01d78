/- Whatever comes in, the law of this claim answers true, and nothing that was handed in changes. -/
import Derived.Test.YtgfchmagglhohaaGreatKE
import Derived.Test.YtgfchmagglhohaaGreatRows
import Derived.WalkKit
import Derived.ProofKit
import Derived.OpenShut
import Derived.ShutString
import Derived.ChangeOld
import Derived.Below
import Derived.SizedLaws
import Derived.Test.YtgfchmagglhohaaGreatChecked
section
namespace Go.Proofs.YtgfchmagglhohaaGreat.Ev
open Go
set_option linter.unusedVariables false
set_option linter.unusedSimpArgs false
set_option linter.unusedSectionVars false
def pw (k : Nat) : Nat := 2 ^ k
theorem UN (k : Nat) : pw (k + 1) = pw k + pw k := by unfold pw; rw [Nat.pow_succ]; omega
theorem Ru (k : Nat) : 1 ≤ pw k := Nat.one_le_two_pow
theorem Xe : ∀ k, B k = ((2 ^ (16 * k) : Nat) : Int)
  | 0 => by simp [B]
  | k + 1 => by
    rw [B, Xe k, show 16 * (k + 1) = 16 * k + 16 by omega, Nat.pow_add, show (2 : Nat) ^ 16 = 65536 from rfl]
    generalize (2 : Nat) ^ (16 * k) = x
    omega
theorem pw_B {k m : Nat} (h : k < 16 * m) : ((pw k : Nat) : Int) < B m := by
  rw [Xe]
  exact Int.ofNat_lt.2 (Nat.pow_lt_pow_right (by omega) h)
theorem Ap3 {n : Nat} {m : Nat} (h : (n : Int) < B m) : (((n : Int)).natAbs : Int) < B m := natB h
theorem Nm {k : Nat} (hk : k ≤ 100000) : CN (k : Int) = some (big ((pw k : Nat) : Int)) := by
  have key : ∀ (m j : Nat), j + m = k → loopM (fun (s : ((Bool × List Int) × ((Bool × List Int) × Int))) => BC s.1 s.2.1 s.2.2) ((false, []), (big ((pw j : Nat) : Int), (m : Int))) = some ((false, []), big ((pw k : Nat) : Int)) := by
    intro m
    induction m with
    | zero =>
      intro j hj
      refine Av ?_
      show BC (false, []) (big ((pw j : Nat) : Int)) ((0 : Nat) : Int) = _
      unfold BC
      rw [show j = k by omega]
      rfl
    | succ m ih =>
      intro j hj
      have hgo : BC (false, []) (big ((pw j : Nat) : Int)) ((m + 1 : Nat) : Int) = some (.inl ((false, []), (big ((pw (j + 1) : Nat) : Int), (m : Int)))) := by
        unfold BC
        have hb := Ap3 (pw_B (k := j) (m := j + 1) (by omega))
        rw [decide_eq_true (by omega)]
        simp only [peta, cT]
        rw [PC (k := j + 1) (by omega) hb hb]
        simp only [obs]
        rw [wrapI (by omega) (by omega), show ((m + 1 : Nat) : Int) - 1 = (m : Int) by omega, UN]
        simp
      refine (Bo (f := fun (s : ((Bool × List Int) × ((Bool × List Int) × Int))) => BC s.1 s.2.1 s.2.2) (s := ((false, []), (big ((pw j : Nat) : Int), ((m + 1 : Nat) : Int)))) hgo).trans ?_
      exact ih (j + 1) (by omega)
  unfold CN
  rw [Me, obs]
  have h := key k 0 (by omega)
  have h' : loopM (fun (s : ((Bool × List Int) × ((Bool × List Int) × Int))) => BC s.1 s.2.1 s.2.2) ((false, []), (((big 1).1, (big 1).2), (k : Int))) = some ((false, []), big ((pw k : Nat) : Int)) := h
  simp only [peta] at h' ⊢
  rw [h', obs]
def T (k : Nat) : Rat := (((pw k : Nat) : Int) : Rat)
theorem Au2 (k : Nat) : T k + T k = T (k + 1) := by unfold T; rw [UN, ← Rat.intCast_add]; congr 1
theorem At6 (k : Nat) : (T k).num = (pw k : Nat) := Rat.num_intCast _
theorem Au3 (k : Nat) : (T k).den = 1 := Rat.den_intCast _
theorem T_ne (k : Nat) : T k ≠ 0 := fun h => by
  have := Rat.intCast_eq_zero_iff.1 h
  have := Ru k
  omega
theorem Tp (k : Nat) : 0 < T k := Rat.intCast_pos.2 (by have := Ru k; omega)
theorem T_sz {k : Nat} (h : k ≤ 66) : Sz 5 (T k) := Gh (Ap3 (pw_B (by omega))) (by omega)
theorem Sw {k : Nat} (hk : k ≤ 64) : DZ (k : Int) = some (rqF (T k)) := by
  have key : ∀ (m j : Nat), j + m = k → loopM (fun (s : (RF × (RF × (Int × Int)))) => Bk s.1 s.2.1 s.2.2.1 s.2.2.2) (zF, (rqF (T j), ((k : Int), (j : Int)))) = some (zF, rqF (T k)) := by
    intro m
    induction m with
    | zero =>
      intro j hj
      refine Av ?_
      show Bk zF (rqF (T j)) (k : Int) (j : Int) = _
      unfold Bk
      rw [decide_eq_false (by omega), show j = k by omega]
      rfl
    | succ m ih =>
      intro j hj
      have hgo : Bk zF (rqF (T j)) (k : Int) (j : Int) = some (.inl (zF, (rqF (T (j + 1)), ((k : Int), ((j + 1 : Nat) : Int))))) := by
        unfold Bk
        have hs := T_sz (k := j) (by omega)
        rw [decide_eq_true (by omega)]
        simp only [rq_e, cT]
        rw [M6 (k := 5) (by omega) hs hs]
        simp only [obs, rq_e]
        rw [wrap1 (by omega), Au2]
      refine (Bo (f := fun (s : (RF × (RF × (Int × Int)))) => Bk s.1 s.2.1 s.2.2.1 s.2.2.2) (s := (zF, (rqF (T j), ((k : Int), (j : Int))))) hgo).trans ?_
      exact ih (j + 1) (by omega)
  unfold DZ
  rw [UM (by omega) (by omega), obs]
  have h := key k 0 (by omega)
  have e : rqF (T 0) = rqF (((1 : Int)) : Rat) := rfl
  rw [e] at h
  have h' : loopM (fun (s : (RF × (RF × (Int × Int)))) => Bk s.1 s.2.1 s.2.2.1 s.2.2.2) (zF, (rqF (((1 : Int)) : Rat), ((k : Int), (0 : Int)))) = _ := h
  have h'' : loopM (fun (s : (RF × (RF × (Int × Int)))) => Bk s.1 s.2.1 s.2.2.1 s.2.2.2) ((false, ([], (false, []))), (((rqF (((1 : Int)) : Rat)).1, ((rqF (((1 : Int)) : Rat)).2.1, ((rqF (((1 : Int)) : Rat)).2.2.1, (rqF (((1 : Int)) : Rat)).2.2.2))), ((k : Int), (0 : Int)))) = some (zF, rqF (T k)) := h'
  first
  | (rw [h'', obs]; done)
  | (rw [h'', obs]; simp only [rq_e])
def IsRoot (n r : Nat) : Prop := r * r ≤ n ∧ n < (r + 1) * (r + 1)
theorem V0 {n r s : Nat} (h : IsRoot n r) (h' : IsRoot n s) : r = s := by
  rcases Nat.lt_trichotomy r s with c | c | c
  · have := Nat.mul_le_mul (show r + 1 ≤ s from c) (show r + 1 ≤ s from c)
    have h1 := h.2
    have h2 := h'.1
    omega
  · exact c
  · have := Nat.mul_le_mul (show s + 1 ≤ r from c) (show s + 1 ≤ r from c)
    have h1 := h'.2
    have h2 := h.1
    omega
theorem amgm (a b : Nat) : 4 * (a * b) ≤ (a + b) * (a + b) := by
  rcases Nat.le_total a b with h | h
  · obtain ⟨d, rfl⟩ := Nat.exists_eq_add_of_le h
    have : (a + (a + d)) * (a + (a + d)) = 4 * (a * (a + d)) + d * d := by grind
    omega
  · obtain ⟨d, rfl⟩ := Nat.exists_eq_add_of_le h
    have : (b + d + b) * (b + d + b) = 4 * ((b + d) * b) + d * d := by grind
    omega
theorem newton {n x : Nat} (hx : 1 ≤ x) : n < ((x + n / x) / 2 + 1) * ((x + n / x) / 2 + 1) := by
  have h1 : n < x * (n / x + 1) := by
    have := Nat.lt_mul_div_succ n (show 0 < x by omega)
    exact this
  have h2 := amgm x (n / x + 1)
  generalize n / x = q at *
  have h3 : x + (q + 1) ≤ 2 * ((x + q) / 2 + 1) := by omega
  have h4 := Nat.mul_le_mul h3 h3
  generalize (x + q) / 2 + 1 = y at *
  have h5 : 2 * y * (2 * y) = 4 * (y * y) := by grind
  omega
theorem W2 {n x : Nat} (hx : 1 ≤ x) (h : x ≤ (x + n / x) / 2) : x * x ≤ n := by
  have h1 : x ≤ n / x := by omega
  have := Nat.mul_le_mul_left x h1
  have h2 := Nat.mul_div_le n x
  omega
theorem VT {n K : Nat} (hK : 1 ≤ K) (hk : K ≤ 80000) (hn : (n : Int) < B K) (s1 : Bool × List Int) : ∀ (f x : Nat), x < f → 1 ≤ x → (x : Int) < B K → 1 ≤ n → n < (x + 1) * (x + 1) →
    ∃ r, loopM (fun (s : ((Bool × List Int) × ((Bool × List Int) × (Bool × List Int)))) => EC s.1 s.2.1 s.2.2.1 s.2.2.2) (big (n : Int), (s1, big (x : Int))) = some (big ((r : Nat) : Int)) ∧ IsRoot n r := by
  intro f
  induction f with
  | zero => intro x h; omega
  | succ f ih =>
    intro x hf hx hxB hn1 hI
    have hd : (n : Int).tdiv (x : Int) = ((n / x : Nat) : Int) := by rw [Int.tdiv_eq_ediv_of_nonneg (by omega)]; rfl
    have e1 := EG (k := K) (x := (n : Int)) (y := (x : Int)) (by omega) (natB hn) (natB hxB) (by omega)
    rw [hd] at e1
    have hq : ((n / x : Nat) : Int) < B K := by
      have := Nat.div_le_self n x
      omega
    have e2 := N2 (k := K) (x := (x : Int)) (y := ((n / x : Nat) : Int)) (by omega) (natB hxB) (natB hq)
    have hsum := addB (natB hxB) (natB hq)
    have two : (((2 : Int)).natAbs : Int) < B (K + 1) := by
      have := C1 (show 1 ≤ K + 1 by omega)
      rw [B1] at this
      exact Int.lt_of_lt_of_le (by decide) this
    have e3 := EG (k := K + 1) (x := (x : Int) + ((n / x : Nat) : Int)) (y := 2) (by omega) hsum two (by omega)
    have hy : ((x : Int) + ((n / x : Nat) : Int)).tdiv 2 = (((x + n / x) / 2 : Nat) : Int) := by generalize n / x = q; rw [Int.tdiv_eq_ediv_of_nonneg (by omega)]; push_cast; rfl
    rw [hy] at e3
    have hyB : (((x + n / x) / 2 : Nat) : Int) < B (K + 1) := by
      have e : ((x : Int) + ((n / x : Nat) : Int)) = ((x + n / x : Nat) : Int) := by push_cast; rfl
      rw [e, Int.natAbs_natCast] at hsum
      generalize n / x = q at hsum ⊢
      omega
    have hxB' : (x : Int) < B (K + 1) := Int.lt_of_lt_of_le hxB (C1 (by omega))
    have e4 := H2 (k := K + 1) (x := (((x + n / x) / 2 : Nat) : Int)) (y := (x : Int)) (by omega) (natB hyB) (natB hxB')
    have two64 : A7 (2 : Int) = some (big 2) := Km (by omega) (by omega)
    have hbody : EC (big (n : Int)) s1 (big (x : Int)).1 (big (x : Int)).2 = if x ≤ (x + n / x) / 2 then some (.inr (big (x : Int))) else some (.inl (big (n : Int), (s1, big (((x + n / x) / 2 : Nat) : Int)))) := by
      unfold EC
      simp only [peta]
      rw [e1, obs]
      simp only
      rw [e2, obs, two64, obs, e3, obs]
      simp only
      rw [e4, obs]
      by_cases c : x ≤ (x + n / x) / 2
      · rw [if_pos c, decide_eq_true (by rcases AT (((x + n / x) / 2 : Nat) : Int) (x : Int) with ⟨g, h⟩ | ⟨g, h⟩ | ⟨g, h⟩ <;> rw [g] <;> omega), cT]
      · rw [if_neg c, decide_eq_false (by rcases AT (((x + n / x) / 2 : Nat) : Int) (x : Int) with ⟨g, h⟩ | ⟨g, h⟩ | ⟨g, h⟩ <;> rw [g] <;> omega), cF]
    have hnew := newton (n := n) hx
    have hstop := W2 (n := n) hx
    generalize (x + n / x) / 2 = y at *
    by_cases c : x ≤ y
    · rw [if_pos c] at hbody
      refine ⟨x, Av ?_, hstop c, hI⟩
      exact hbody
    · rw [if_neg c] at hbody
      have hy1 : 1 ≤ y := by
        rcases Nat.eq_zero_or_pos y with h | h
        · rw [h] at hnew; omega
        · exact h
      obtain ⟨r, h1, h2⟩ := ih y (by omega) hy1 (by omega) hn1 hnew
      refine ⟨r, ?_, h2⟩
      exact (Bo (f := fun (s : ((Bool × List Int) × ((Bool × List Int) × (Bool × List Int)))) => EC s.1 s.2.1 s.2.2.1 s.2.2.2) (s := (big (n : Int), (s1, big (x : Int)))) hbody).trans h1
theorem Ah2 {n K : Nat} (hk : K ≤ 10000) (hn : (n : Int) < B K) : ∃ r, EQ (big (n : Int)) = some (big ((r : Nat) : Int)) ∧ IsRoot n r := by
  unfold EQ
  simp only [peta]
  rw [Nz, obs]
  by_cases h0 : n = 0
  · subst h0
    refine ⟨0, ?_, by unfold IsRoot; omega⟩
    have : big (((0 : Nat)) : Int) = (false, []) := by unfold big; rw [show (((0 : Nat) : Int)).natAbs = 0 from rfl, AW]; rfl
    rw [show ((((0 : Nat)) : Int)) = 0 from rfl] at this ⊢
    rw [HC, this]
    rfl
  have hl := Af.2 hn
  have hc : (cmpZ (n : Int) 0 == 0) = false := by rw [Es (by omega)]; rfl
  have e2 : (big (n : Int)).2 = lim n := by rw [DD]
  rw [hc, cF, e2]
  generalize hm : (lim n).length = L at hl
  rw [wrapI (n := (L : Int) + 1) (by omega) (by omega)]
  have ht : ((L : Int) + 1).tdiv 2 = (((L + 1) / 2 : Nat) : Int) := by rw [Int.tdiv_eq_ediv_of_nonneg (by omega)]; push_cast; rfl
  rw [ht, wrapI (by omega) (by omega)]
  generalize hM : (L + 1) / 2 = M
  have hlen : lenI (M : Int) 8 1 = some M := by
    unfold lenI
    rw [if_pos (by simp [maxBytes]; omega)]
    congr 1
  rw [hlen, obs, app1 (by simp; omega), obs]
  have hLB : LB (List.replicate M (0 : Int) ++ [1]) := (LB.zeros M).append (LB.cons (by omega) LB.nil)
  have hval : val (List.replicate M (0 : Int) ++ [1]) = B M := by rw [FU, Cv]; simp
  have hBM := Dk M
  rw [Ep hLB (by unfold Brief; simp; omega), obs, hval]
  obtain ⟨x, hx⟩ : ∃ x : Nat, B M = (x : Int) := ⟨(B M).toNat, by omega⟩
  rw [hx, Int.toNat_natCast]
  simp only [Bool.false_and]
  have hnB : (n : Int) < B L := by rw [← hm]; exact Af.1 (Nat.le_refl _)
  have hsq : B L ≤ B M * B M := by rw [← KL]; exact C1 (by omega)
  have hlt : n < (x + 1) * (x + 1) := by
    rw [hx] at hsq
    have h1 : (n : Int) < ((x * x : Nat) : Int) := by push_cast; omega
    have h2 : n < x * x := Int.ofNat_lt.1 h1
    have h3 := Nat.mul_le_mul (show x ≤ x + 1 by omega) (show x ≤ x + 1 by omega)
    omega
  have hxB : (x : Int) < B (K + 1) := by rw [← hx]; exact B_lt (by omega)
  have hnB' : (n : Int) < B (K + 1) := Int.lt_of_lt_of_le hn (C1 (by omega))
  obtain ⟨r, h1, h2⟩ := VT (n := n) (K := K + 1) (by omega) (by omega) hnB' (false, []) (x + 1) x (by omega) (by omega) hxB (by omega) hlt
  refine ⟨r, ?_, h2⟩
  have hb : ((false, lim x) : Bool × List Int) = big (x : Int) := (DD x).symm
  simp only [hb] at h1 ⊢
  rw [h1, obs]
theorem VE {n L : Nat} (hL : L ≤ 1000) (hn : (n : Int) < B L) (s0 : RF) (s1 : SF) (s2 : Bool × List Int) : ∀ (j c : Nat), j ≤ 8 * L + 2 → c * c ≤ n → n < (c + pw j) * (c + pw j) →
    ∃ r, loopM (fun (s : (RF × (SF × ((Bool × List Int) × ((Bool × List Int) × ((Bool × List Int) × Int)))))) => A4 s.1 s.2.1 s.2.2.1 s.2.2.2.1 s.2.2.2.2.1 s.2.2.2.2.2) (s0, (s1, (s2, (big (n : Int), (big (c : Int), ((j : Int) - 1)))))) = some (s0, (s1, (s2, big ((r : Nat) : Int)))) ∧ IsRoot n r := by
  intro j
  induction j with
  | zero =>
    intro c _ h1 h2
    refine ⟨c, Av ?_, h1, h2⟩
    show A4 s0 s1 s2 (big (n : Int)) (big (c : Int)) (((0 : Nat) : Int) - 1) = _
    unfold A4
    rfl
  | succ j ih =>
    intro c hj h1 h2
    have hcn : c ≤ n := by
      rcases Nat.eq_zero_or_pos c with h | h
      · omega
      · have := Nat.mul_le_mul_right c (show 1 ≤ c from h); omega
    have hcB : (c : Int) < B (8 * L + 3) := Int.lt_of_lt_of_le (show (c : Int) < B L by omega) (C1 (by omega))
    have hpB : ((pw j : Nat) : Int) < B (8 * L + 3) := pw_B (by omega)
    have hsB := addB (natB hcB) (natB hpB)
    have hm := mulB hsB hsB
    have hgo : A4 s0 s1 s2 (big (n : Int)) (big (c : Int)) (((j + 1 : Nat) : Int) - 1) = some (.inl (s0, (s1, (s2, (big (n : Int), (big (((if (c + pw j) * (c + pw j) ≤ n then c + pw j else c : Nat)) : Int), ((j : Int) - 1))))))) := by
      unfold A4
      rw [show ((j + 1 : Nat) : Int) - 1 = (j : Int) by omega, decide_eq_true (by omega)]
      simp only [cT, peta]
      rw [Nm (by omega), obs, PC (k := 8 * L + 3) (by omega) (natB hcB) (natB hpB), obs, GL (k := 8 * L + 3 + 1) (by omega) hsB hsB, obs]
      have hnB : (n : Int) < B (8 * L + 3 + 1 + (8 * L + 3 + 1)) := Int.lt_of_lt_of_le hn (C1 (by omega))
      rw [P0 (k := 8 * L + 3 + 1 + (8 * L + 3 + 1)) (by omega) hm (natB hnB), obs, wrapI (by omega) (by omega)]
      have ee : ((c : Int) + ((pw j : Nat) : Int)) * ((c : Int) + ((pw j : Nat) : Int)) = (((c + pw j) * (c + pw j) : Nat) : Int) := by push_cast; rfl
      rw [ee]
      generalize (c + pw j) * (c + pw j) = w
      by_cases hw : w ≤ n
      · rw [decide_eq_true (by rcases AT (w : Int) (n : Int) with ⟨g, h⟩ | ⟨g, h⟩ | ⟨g, h⟩ <;> rw [g] <;> omega), if_pos hw]
        simp
      · rw [decide_eq_false (by rcases AT (w : Int) (n : Int) with ⟨g, h⟩ | ⟨g, h⟩ | ⟨g, h⟩ <;> rw [g] <;> omega), if_neg hw]
        simp
    have hnext : ∃ r, loopM (fun (s : (RF × (SF × ((Bool × List Int) × ((Bool × List Int) × ((Bool × List Int) × Int)))))) => A4 s.1 s.2.1 s.2.2.1 s.2.2.2.1 s.2.2.2.2.1 s.2.2.2.2.2) (s0, (s1, (s2, (big (n : Int), (big (((if (c + pw j) * (c + pw j) ≤ n then c + pw j else c : Nat)) : Int), ((j : Int) - 1)))))) = some (s0, (s1, (s2, big ((r : Nat) : Int)))) ∧ IsRoot n r := by
      by_cases hw : (c + pw j) * (c + pw j) ≤ n
      · rw [if_pos hw]
        refine ih (c + pw j) (by omega) hw ?_
        rw [UN] at h2
        rw [show c + pw j + pw j = c + (pw j + pw j) by omega]
        exact h2
      · rw [if_neg hw]
        exact ih c (by omega) h1 (by omega)
    obtain ⟨r, g1, g2⟩ := hnext
    exact ⟨r, (Bo (f := fun (s : (RF × (SF × ((Bool × List Int) × ((Bool × List Int) × ((Bool × List Int) × Int)))))) => A4 s.1 s.2.1 s.2.2.1 s.2.2.2.1 s.2.2.2.2.1 s.2.2.2.2.2) (s := (s0, (s1, (s2, (big (n : Int), (big (c : Int), (((j + 1 : Nat) : Int) - 1))))))) hgo).trans g1, g2⟩
theorem XZ {n L : Nat} (hn : (n : Int) < B L) : n < (0 + pw (8 * L + 2)) * (0 + pw (8 * L + 2)) := by
  rw [Xe] at hn
  have h := Int.ofNat_lt.1 hn
  have e : pw (8 * L + 2) * pw (8 * L + 2) = 2 ^ (16 * L + 4) := by unfold pw; rw [← Nat.pow_add]; congr 1; omega
  rw [Nat.zero_add, e]
  exact Nat.lt_of_lt_of_le h (Nat.pow_le_pow_right (by omega) (by omega))
end Go.Proofs.YtgfchmagglhohaaGreat.Ev

end
section
namespace Go.Proofs.YtgfchmagglhohaaGreat.Ev
open Go
set_option linter.unusedVariables false
set_option linter.unusedSimpArgs false
set_option linter.unusedSectionVars false
theorem sEr {α β γ : Type} (f : α → γ) (g : β → γ) (x : β) : Sum.elim f g (.inr x) = g x := (rfl)
theorem YJ (q : Rat) (z : Nat) : Rat.divInt (q.num * (z : Int)) (q.den : Int) = q * (((z : Int)) : Rat) := by
  rw [Yu, Rat.num_intCast, Rat.den_intCast]
  congr 1
  simp
theorem HK (z : Int) (k : Nat) : Rat.divInt z ((pw k : Nat) : Int) = (z : Rat) / T k := by
  rw [Ac0, Rat.num_intCast, Rat.den_intCast, At6, Au3]
  congr 1 <;> simp
theorem SG {q : Rat} {k : Nat} (hq : Sz 40 q) (hk : k ≤ 64) : D4 (rqF q) (big ((pw k : Nat) : Int)) = some (big (q * T k).floor) := by
  have hp := natB (pw_B (k := k) (m := 40) (by omega))
  unfold D4
  simp only [rq_n, rq_d, JD, peta]
  rw [GL (k := 40) (by omega) hq.1 hp, obs]
  rw [Ew (k := 80) (by omega) (upB (mulB hq.1 hp) (by omega)) (upB (natB hq.2) (by omega)) (N1 q), obs, YJ, show (((pw k : Nat) : Int) : Rat) = T k from rfl]
  try simp only [rq_e]
  rw [Tv (k := 80) (by omega) (by omega) ((Gx hq ((T_sz (k := k) (by omega)).mono (show 5 ≤ 40 by omega))).mono (by omega)), obs]
theorem fl_B {q : Rat} {k : Nat} (hq : Sz 40 q) (hk : k ≤ 64) : (((q * T k).floor.natAbs : Nat) : Int) < B 80 := YA ((Gx hq ((T_sz (k := k) (by omega)).mono (show 5 ≤ 40 by omega))).mono (by omega))
def roLo (p : Rat) (k : Nat) : Rat := (((p * T k).floor : Int) : Rat) / T k
def roHi (q : Rat) (k : Nat) : Rat := (((-(-q * T k).floor) : Int) : Rat) / T k
def roV (p q : Rat) (k : Int) : SF × Bool := if 0 ≤ k ∧ k ≤ 64 then fitsS (roLo p k.toNat) (roHi q k.toNat) else (zS, false)
theorem Ap2 {z : Int} {k : Nat} (h : (z.natAbs : Int) < B 80) (hk : k ≤ 64) : Sz 160 ((z : Rat) / T k) := by
  have := Uj (Gh h (by omega)) ((T_sz (k := k) (by omega)).mono (show 5 ≤ 80 by omega)) (T_ne k)
  exact this.mono (by omega)
section
variable {p q : Rat} (hp : Sz 40 p) (hq : Sz 40 q) (hpq : p ≤ q)
include hp hq hpq
theorem RK (k : Int) : AR (sF (rqF p) (rqF q)) k = some (roV p q k) := by
  unfold AR roV
  simp only [peta, II, IL, sF_e]
  rw [(MP hp hq hpq).1, obs, nT, cF, HJ, obs]
  by_cases h : 0 ≤ k ∧ k ≤ 64
  · obtain ⟨n, rfl⟩ : ∃ n : Nat, k = (n : Int) := ⟨k.toNat, by omega⟩
    have hn : n ≤ 64 := by omega
    have t40 := (T_sz (k := n) (by omega)).mono (show 5 ≤ 40 by omega)
    have t80 := (T_sz (k := n) (by omega)).mono (show 5 ≤ 80 by omega)
    have f1 := fl_B hp hn
    have f2 := fl_B (K3 hq) hn
    have z1 := Gh f1 (show 1 ≤ 80 by omega)
    have z2 := Gh f2 (show 1 ≤ 80 by omega)
    rw [decide_eq_true (by omega), decide_eq_true (by omega), Bool.and_self, nT, cF, Sw hn, obs]
    try simp only [rq_e]
    rw [EZ (k := 40) (by omega) hp t40, obs]
    try simp only [rq_e]
    rw [I5 (k := 80) (by omega) (by omega) ((Gx hp t40).mono (by omega)), obs]
    try simp only [peta]
    rw [Uz (by omega) f1, obs]
    try simp only [rq_e]
    rw [Oa (k := 40) (by omega) hq, obs]
    try simp only [rq_e]
    rw [EZ (k := 40) (by omega) (K3 hq) t40, obs]
    try simp only [rq_e]
    rw [I5 (k := 80) (by omega) (by omega) ((Gx (K3 hq) t40).mono (by omega)), obs]
    try simp only [peta]
    rw [Uz (by omega) f2, obs]
    try simp only [rq_e]
    rw [Oa (k := 80) (by omega) z2, obs]
    try simp only [rq_e]
    rw [Kl (k := 80) (by omega) z1 t80 (T_ne n), obs, Kl (k := 80) (by omega) (K3 z2) t80 (T_ne n), obs]
    try simp only [rq_e]
    rw [Dr, obs, if_pos h, Int.toNat_natCast]
    unfold roLo roHi
    rw [Rat.intCast_neg]
  · have hf : (decide ((0 : Int) ≤ k) && decide (k ≤ 64)) = false := by
      rw [← Bool.decide_and]
      exact decide_eq_false (by omega)
    rw [hf, nF, cT, if_neg h]
    rfl
theorem Xb (k : Int) : Bz (sF (rqF p) (rqF q)) k = some (roV p q k) := by
  unfold Bz roV
  simp only [peta, II, IL, sF_e]
  rw [(MP hp hq hpq).2, obs, nT, cF, Mt, obs]
  by_cases h : 0 ≤ k ∧ k ≤ 64
  · obtain ⟨n, rfl⟩ : ∃ n : Nat, k = (n : Int) := ⟨k.toNat, by omega⟩
    have hn : n ≤ 64 := by omega
    have f1 := fl_B hp hn
    have f2 := fl_B (K3 hq) hn
    have hpw := natB (pw_B (k := n) (m := 80) (by omega))
    have hpn : ((pw n : Nat) : Int) ≠ 0 := by have := Ru n; omega
    rw [decide_eq_true (by omega), decide_eq_true (by omega), Bool.and_self, nT, cF, Nm (by omega), obs]
    try simp only [rq_e, peta]
    rw [SG hp hn, obs, Al1 (k := 40) (by omega) hq, obs]
    try simp only [rq_e, peta]
    rw [SG (K3 hq) hn, obs]
    try simp only [rq_e, peta]
    rw [MR (k := 80) (by omega) f2, obs]
    try simp only [rq_e, peta]
    rw [Ew (k := 80) (by omega) f1 hpw hpn, obs, Ew (k := 80) (by omega) (negB f2) hpw hpn, obs, HK, HK]
    try simp only [rq_e, Zb]
    rw [MZ (k := 160) (by omega) (Ap2 f1 hn) (Ap2 (negB f2) hn), obs, if_pos h, Int.toNat_natCast]
    rfl
  · have hf : (decide ((0 : Int) ≤ k) && decide (k ≤ 64)) = false := by
      rw [← Bool.decide_and]
      exact decide_eq_false (by omega)
    rw [hf, nF, cT, if_neg h]
    rfl
end
theorem Q8 {s : SF} (hs : GS s false) (k : Int) : AR s k = some (zS, false) := by unfold AR; simp only [peta]; rw [hs.1]; rfl
theorem QE {s : SF} (hs : GS s false) (k : Int) : Bz s k = some (zS, false) := by unfold Bz; simp only [peta]; rw [hs.2]; rfl
theorem EN (x : Rat) (k : Nat) : x / T k * T k = x := Rat.div_mul_cancel (T_ne k)
theorem An3 (p : Rat) (k : Nat) : roLo p k ≤ p := by
  refine Rat.le_of_mul_le_mul_right (c := T k) ?_ (Tp k)
  unfold roLo
  rw [EN]
  exact Rat.floor_le _
theorem Ao7 (q : Rat) (k : Nat) : q ≤ roHi q k := by
  refine Rat.le_of_mul_le_mul_right (c := T k) ?_ (Tp k)
  unfold roHi
  rw [EN, Rat.intCast_neg]
  have := Rat.floor_le (-q * T k)
  grind
theorem TG (z : Int) : ((z : Rat)).floor = z := Rat.floor_intCast z
theorem XI (p : Rat) (k : Nat) : roLo (roLo p k) k = roLo p k := by
  have e : roLo (roLo p k) k = (((roLo p k * T k).floor : Int) : Rat) / T k := rfl
  have : roLo p k * T k = (((p * T k).floor : Int) : Rat) := by unfold roLo; rw [EN]
  rw [e, this, TG]
  rfl
theorem X2 (q : Rat) (k : Nat) : roHi (roHi q k) k = roHi q k := by
  have e : roHi (roHi q k) k = (((-(-(roHi q k) * T k).floor) : Int) : Rat) / T k := rfl
  have : -(roHi q k) * T k = (((-q * T k).floor : Int) : Rat) := by
    unfold roHi
    rw [Rat.neg_mul, EN, Rat.intCast_neg, Rat.neg_neg]
  rw [e, this, TG]
  rfl
end Go.Proofs.YtgfchmagglhohaaGreat.Ev

end
section
namespace Go.Proofs.YtgfchmagglhohaaGreat.Ev
open Go
set_option linter.unusedVariables false
set_option linter.unusedSimpArgs false
set_option linter.unusedSectionVars false
theorem T6 : ∀ n, ∃ r, IsRoot n r
  | 0 => ⟨0, by unfold IsRoot; omega⟩
  | n + 1 => by
    obtain ⟨r, h1, h2⟩ := T6 n
    have e : (r + 1 + 1) * (r + 1 + 1) = (r + 1) * (r + 1) + 2 * r + 3 := by grind
    by_cases c : (r + 1) * (r + 1) ≤ n + 1
    · exact ⟨r + 1, c, by omega⟩
    · exact ⟨r, by omega, by omega⟩
noncomputable def rt (n : Nat) : Nat := Classical.choose (T6 n)
theorem YY (n : Nat) : IsRoot n (rt n) := Classical.choose_spec (T6 n)
theorem W5 {n K : Nat} (hk : K ≤ 10000) (hn : (n : Int) < B K) : EQ (big (n : Int)) = some (big ((rt n : Nat) : Int)) := by
  obtain ⟨r, h1, h2⟩ := Ah2 hk hn
  rw [h1, V0 h2 (YY n)]
theorem At9 (n : Nat) : rt n ≤ n := by
  have := (YY n).1
  rcases Nat.eq_zero_or_pos (rt n) with h | h
  · omega
  · have := Nat.mul_le_mul_right (rt n) (show 1 ≤ rt n from h); omega
noncomputable def rsN (p : Rat) (k : Nat) : Nat := (p * T k * T k).floor.toNat
noncomputable def rsLo (p : Rat) (k : Nat) : Rat := (((rt (rsN p k) : Nat) : Int) : Rat) / T k
noncomputable def rsHi (p : Rat) (k : Nat) : Rat := if rsLo p k * rsLo p k = p then rsLo p k else rsLo p k + 1 / T k
noncomputable def rsV (p : Rat) (k : Int) : SF × Bool := if 0 ≤ p ∧ 0 ≤ k ∧ k ≤ 64 then fitsS (rsLo p k.toNat) (rsHi p k.toNat) else (zS, false)
theorem Kt {p : Rat} (h : 0 ≤ p) (k : Nat) : (p * T k * T k).floor = ((rsN p k : Nat) : Int) := by
  have h1 : 0 ≤ p * T k * T k := Rat.mul_nonneg (Rat.mul_nonneg h (Rat.le_of_lt (Tp k))) (Rat.le_of_lt (Tp k))
  have h2 : 0 ≤ (p * T k * T k).floor := Rat.le_floor_iff.2 (by simpa using h1)
  unfold rsN
  omega
section
variable {p : Rat} (hp : Sz 40 p) {k : Nat} (hk : k ≤ 64)
include hp hk
theorem Ah9 : Sz 80 (p * T k) := (Gx hp ((T_sz (k := k) (by omega)).mono (show 5 ≤ 40 by omega))).mono (by omega)
theorem XF : Sz 160 (p * T k * T k) := (Gx (Ah9 hp hk) ((T_sz (k := k) (by omega)).mono (show 5 ≤ 80 by omega))).mono (by omega)
theorem rs_n (h : 0 ≤ p) : ((rsN p k : Nat) : Int) < B 160 := by
  have := YA (XF hp hk)
  rw [Kt h] at this
  rwa [Int.natAbs_natCast] at this
theorem rs_r (h : 0 ≤ p) : ((rt (rsN p k) : Nat) : Int) < B 160 := by
  have := rs_n hp hk h
  have := At9 (rsN p k)
  omega
theorem Wv (h : 0 ≤ p) : Sz 320 (rsLo p k) := (Uj (Gh (natB (rs_r hp hk h)) (by omega)) ((T_sz (k := k) (by omega)).mono (show 5 ≤ 160 by omega)) (T_ne k)).mono (by omega)
theorem Ap0 : Sz 320 (1 / T k) := (Uj (p := ((1 : Int) : Rat)) (k := 5) (m := 5) (Gh (Mh (by omega)) (by omega)) (T_sz (k := k) (by omega)) (T_ne k)).mono (by omega)
end
theorem Am5 (p : Rat) : decide (cmpQ p 0 < 0) = decide (p < 0) := decide_eq_decide.2 PA
theorem Am6 (p : Rat) : (rqF p).1 = decide (p < 0) := by
  show decide (p.num < 0) = _
  rw [decide_eq_decide]
  constructor
  · intro h
    have h2 : ¬ 0 ≤ p := fun c => by have := Rat.num_nonneg.2 c; omega
    grind
  · intro h
    have h2 : ¬ 0 ≤ p.num := fun c => by have := Rat.num_nonneg.1 c; grind
    omega
theorem Vg (a b : Rat) : (cmpQ a b == 0) = decide (a = b) := by
  rw [Bool.eq_iff_iff]
  simp only [beq_iff_eq, decide_eq_true_eq]
  exact Ak5
theorem Yo {p : Rat} (hp : Sz 40 p) (k : Int) : BA (rqF p) k = some (rsV p k) := by
  unfold BA rsV
  simp only [rq_e]
  rw [EY (Ed (by omega) hp), obs, ED hp, nT, cF, XS, obs, Am5]
  by_cases h0 : p < 0
  · rw [decide_eq_true h0, cT, if_neg (fun h => by have := h.1; grind)]
    rfl
  have h0' : 0 ≤ p := by grind
  rw [decide_eq_false h0, cF, HJ, obs]
  by_cases h : 0 ≤ k ∧ k ≤ 64
  · obtain ⟨n, rfl⟩ : ∃ n : Nat, k = (n : Int) := ⟨k.toNat, by omega⟩
    have hn : n ≤ 64 := by omega
    have t40 := (T_sz (k := n) (by omega)).mono (show 5 ≤ 40 by omega)
    have t80 := (T_sz (k := n) (by omega)).mono (show 5 ≤ 80 by omega)
    have t160 := (T_sz (k := n) (by omega)).mono (show 5 ≤ 160 by omega)
    have zr := Gh (natB (rs_r hp hn h0')) (show 1 ≤ 160 by omega)
    have zl := Wv hp hn h0'
    have hmul : Sz 640 (rsLo p n * rsLo p n) := (Gx zl zl).mono (by omega)
    rw [decide_eq_true (by omega), decide_eq_true (by omega), Bool.and_self, nT, cF, Sw hn, obs]
    try simp only [rq_e]
    rw [EZ (k := 40) (by omega) hp t40, obs]
    try simp only [rq_e]
    rw [EZ (k := 80) (by omega) (Ah9 hp hn) t80, obs]
    try simp only [rq_e]
    rw [I5 (k := 160) (by omega) (by omega) (XF hp hn), obs, Kt h0']
    try simp only [peta]
    rw [W5 (by omega) (rs_n hp hn h0'), obs]
    try simp only [peta]
    rw [Uz (by omega) (natB (rs_r hp hn h0')), obs]
    try simp only [rq_e]
    rw [Kl (k := 160) (by omega) zr t160 (T_ne n), obs, show (((rt (rsN p n) : Nat) : Int) : Rat) / T n = rsLo p n from rfl]
    try simp only [rq_e]
    rw [EZ (k := 320) (by omega) zl zl, obs]
    have hsame : EB (rqF (rsLo p n * rsLo p n)) (rqF p) = some (decide (rsLo p n * rsLo p n = p)) := by
      unfold EB
      simp only [rq_e]
      rw [FJ (k := 640) (by omega) hmul (hp.mono (by omega)), obs, Vg]
    try simp only [rq_e]
    rw [hsame, obs, if_pos ⟨h0', h⟩, Int.toNat_natCast]
    unfold rsHi
    by_cases c : rsLo p n * rsLo p n = p
    · rw [decide_eq_true c, nT, cF, obs, sEr, if_pos c]
      try simp only [rq_e]
      rw [Dr, obs]
    · rw [decide_eq_false c, nF, cT, Ae7, obs]
      try simp only [rq_e]
      rw [Kl (p := 1) (k := 5) (by omega) (by have := Gh (z := 1) (Mh (k := 5) (by omega)) (by omega); exact this) (T_sz (by omega)) (T_ne n), obs]
      try simp only [rq_e]
      rw [M6 (k := 320) (by omega) zl (Ap0 hp hn), obs, obs, sEr, if_neg c]
      try simp only [rq_e]
      rw [Dr, obs]
  · have hf : (decide ((0 : Int) ≤ k) && decide (k ≤ 64)) = false := by
      rw [← Bool.decide_and]
      exact decide_eq_false (by omega)
    rw [hf, nF, cT, if_neg (fun g => h g.2)]
    rfl
theorem XB {p : Rat} (hp : Sz 40 p) (k : Int) : Bw (rqF p) k = some (rsV p k) := by
  unfold Bw rsV
  simp only [rq_e]
  simp only [rq_n, JD, peta]
  rw [Cw (Ed (by omega) hp), obs, ED hp, nT, cF, Am6]
  by_cases h0 : p < 0
  · rw [decide_eq_true h0, cT, if_neg (fun h => by have := h.1; grind)]
    rfl
  have h0' : 0 ≤ p := by grind
  rw [decide_eq_false h0, cF, Mt, obs]
  by_cases h : 0 ≤ k ∧ k ≤ 64
  · obtain ⟨n, rfl⟩ : ∃ n : Nat, k = (n : Int) := ⟨k.toNat, by omega⟩
    have hn : n ≤ 64 := by omega
    have zl := Wv hp hn h0'
    have hpw := natB (pw_B (k := n) (m := 40) (by omega))
    have hpn : ((pw n : Nat) : Int) ≠ 0 := by have := Ru n; omega
    have hm2 := upB (mulB hpw hpw) (show 40 + 40 ≤ 80 by omega)
    have hm3 := upB (mulB (upB hp.1 (show 40 ≤ 80 by omega)) hm2) (show 80 + 80 ≤ 160 by omega)
    have e1 : Rat.divInt (p.num * (((pw n : Nat) : Int) * ((pw n : Nat) : Int))) (p.den : Int) = p * T n * T n := by
      have := YJ p (pw n * pw n)
      rw [show (((pw n * pw n : Nat)) : Int) = ((pw n : Nat) : Int) * ((pw n : Nat) : Int) by push_cast; rfl] at this
      rw [this, Rat.intCast_mul, Rat.mul_assoc]
      rfl
    have hr := rs_r hp hn h0'
    have hrn := rs_n hp hn h0'
    have hl := Af.2 hrn
    rw [decide_eq_true (by omega), decide_eq_true (by omega), Bool.and_self, nT, cF, Nm (by omega), obs]
    try simp only [peta, rq_n, rq_d, JD]
    rw [GL (k := 40) (by omega) hpw hpw, obs]
    try simp only [peta]
    rw [GL (k := 80) (by omega) (upB hp.1 (by omega)) hm2, obs]
    try simp only [peta]
    rw [Ew (k := 160) (by omega) hm3 (upB (natB hp.2) (by omega)) (N1 p), obs, e1]
    try simp only [rq_e]
    rw [Tv (k := 160) (by omega) (by omega) (XF hp hn), obs, Kt h0', LP (n := 0) (by omega) (by omega), obs]
    have e2 : (big ((rsN p n : Nat) : Int)).2 = lim (rsN p n) := by rw [DD]
    rw [e2]
    generalize hL : (lim (rsN p n)).length = L at hl
    rw [wrapI (n := 8 * (L : Int)) (by omega) (by omega), wrapI (by omega) (by omega)]
    obtain ⟨r, g1, g2⟩ := VE (n := rsN p n) (L := L) (by omega) (Af.1 (Nat.le_of_eq hL)) (rqF p) zS (big ((pw n : Nat) : Int)) (8 * L + 2) 0 (by omega) (by omega) (XZ (Af.1 (Nat.le_of_eq hL)))
    have hrt := V0 g2 (YY _)
    rw [hrt] at g1
    have e3 : (((8 * L + 2 : Nat) : Int) - 1) = 8 * (L : Int) + 1 := by omega
    rw [e3, show (((0 : Nat)) : Int) = 0 from rfl] at g1
    have g1' : loopM (fun (s : (RF × (SF × ((Bool × List Int) × ((Bool × List Int) × ((Bool × List Int) × Int)))))) => A4 s.1 s.2.1 s.2.2.1 s.2.2.2.1 s.2.2.2.2.1 s.2.2.2.2.2) (rqF p, ((false, ([], (false, ([], (false, ([], (false, []))))))), (big ((pw n : Nat) : Int), (big ((rsN p n : Nat) : Int), (big 0, (8 * (L : Int) + 1)))))) = some (rqF p, (zS, (big ((pw n : Nat) : Int), big ((rt (rsN p n) : Nat) : Int)))) := g1
    try simp only [peta, rq_e]
    rw [g1', obs]
    try simp only [peta, rq_e]
    have hpw160 := upB hpw (show 40 ≤ 160 by omega)
    have hr1 := addB (natB hr) (Mh (k := 160) (by omega))
    rw [Ew (k := 160) (by omega) (natB hr) hpw160 hpn, obs, Me, obs, PC (k := 160) (by omega) (natB hr) (Mh (by omega)), obs]
    try simp only [peta, rq_e]
    rw [Ew (k := 161) (by omega) hr1 (upB hpw (by omega)) hpn, obs, HK, HK, show (((rt (rsN p n) : Nat) : Int) : Rat) / T n = rsLo p n from rfl]
    try simp only [rq_e]
    rw [Y9 (k := 320) (by omega) zl zl, obs]
    try simp only [rq_e]
    rw [ML (k := 640) (by omega) ((Gx zl zl).mono (by omega)) (hp.mono (by omega)), obs, Vg, if_pos ⟨h0', h⟩, Int.toNat_natCast]
    have e4 : (((((rt (rsN p n) : Nat) : Int) + 1 : Int)) : Rat) / T n = rsLo p n + 1 / T n := by
      unfold rsLo
      rw [Rat.intCast_add, Rat.div_def, Rat.div_def, Rat.div_def, Rat.add_mul]
      rfl
    unfold rsHi
    by_cases c : rsLo p n * rsLo p n = p
    · rw [decide_eq_true c, cT, if_pos c]
      try simp only [Zb, rq_e]
      rw [MZ (k := 320) (by omega) zl zl, obs]
    · rw [decide_eq_false c, cF, if_neg c, e4]
      try simp only [Zb, rq_e]
      rw [MZ (k := 641) (by omega) (zl.mono (by omega)) ((Ar6 zl (Ap0 hp hn)).mono (by omega)), obs]
  · have hf : (decide ((0 : Int) ≤ k) && decide (k ≤ 64)) = false := by
      rw [← Bool.decide_and]
      exact decide_eq_false (by omega)
    rw [hf, nF, cT, if_neg (fun g => h g.2)]
    rfl
theorem Qt {a : RF} (ha : BrF a) (h : goodQ (toQ a) = false) (k : Int) : BA a k = some (zS, false) := by unfold BA; simp only [rq_e]; rw [EY ha, h]; rfl
theorem QF {a : RF} (ha : BrF a) (h : goodQ (toQ a) = false) (k : Int) : Bw a k = some (zS, false) := by unfold Bw; simp only [rq_e]; rw [Cw ha, h]; rfl
theorem U2 (p : Rat) (k : Nat) : 0 ≤ rsLo p k := by
  refine Rat.le_of_mul_le_mul_right (c := T k) ?_ (Tp k)
  unfold rsLo
  rw [EN, Rat.zero_mul]
  exact Rat.intCast_nonneg.2 (by omega)
theorem At4 {p : Rat} (h : 0 ≤ p) (k : Nat) : rsLo p k * rsLo p k ≤ p ∧ p ≤ rsHi p k * rsHi p k ∧ rsLo p k ≤ rsHi p k := by
  obtain ⟨h1, h2⟩ := YY (rsN p k)
  have hf := Kt h k
  have hT := Tp k
  have hTT : 0 < T k * T k := Rat.mul_pos hT hT
  have f1 := Rat.floor_le (p * T k * T k)
  have f2 := Rat.lt_floor_add_one (p * T k * T k)
  rw [hf] at f1 f2
  have hlo : rsLo p k * T k = (((rt (rsN p k) : Nat) : Int) : Rat) := by unfold rsLo; rw [EN]
  have g1 : ((((rt (rsN p k) * rt (rsN p k) : Nat)) : Int) : Rat) ≤ (((rsN p k : Nat) : Int) : Rat) := Rat.intCast_le_intCast.2 (Int.ofNat_le.2 h1)
  have g2 : ((((rsN p k + 1 : Nat)) : Int) : Rat) ≤ (((((rt (rsN p k) + 1) * (rt (rsN p k) + 1) : Nat)) : Int) : Rat) := Rat.intCast_le_intCast.2 (Int.ofNat_le.2 h2)
  have k1 : ((((rt (rsN p k) * rt (rsN p k) : Nat)) : Int) : Rat) = (rsLo p k * T k) * (rsLo p k * T k) := by rw [hlo, ← Rat.intCast_mul]; congr 1
  have k2 : (((((rt (rsN p k) + 1) * (rt (rsN p k) + 1) : Nat)) : Int) : Rat) = (rsLo p k * T k + 1) * (rsLo p k * T k + 1) := by
    rw [hlo, show (((rt (rsN p k) : Nat) : Int) : Rat) + 1 = ((((rt (rsN p k) : Nat) : Int) + 1 : Int) : Rat) by rw [Rat.intCast_add]; rfl, ← Rat.intCast_mul]
    congr 1
  rw [k1] at g1
  rw [k2, show (((rsN p k + 1 : Nat)) : Int) = ((rsN p k : Nat) : Int) + 1 by omega] at g2
  have hone : 1 / T k * T k = 1 := EN 1 k
  have hlow : rsLo p k * rsLo p k ≤ p := by
    refine Rat.le_of_mul_le_mul_right (c := T k * T k) ?_ hTT
    have e1 : rsLo p k * rsLo p k * (T k * T k) = (rsLo p k * T k) * (rsLo p k * T k) := by grind
    have e2 : p * (T k * T k) = p * T k * T k := by grind
    rw [e1, e2]
    exact Rat.le_trans g1 f1
  have hinv : 0 ≤ 1 / T k := by
    refine Rat.le_of_mul_le_mul_right (c := T k) ?_ hT
    rw [hone, Rat.zero_mul]
    decide
  refine ⟨hlow, ?_, ?_⟩
  · unfold rsHi
    by_cases c : rsLo p k * rsLo p k = p
    · rw [if_pos c, c]
      exact Rat.le_refl
    · rw [if_neg c]
      refine Rat.le_of_mul_le_mul_right (c := T k * T k) ?_ hTT
      have e1 : (rsLo p k + 1 / T k) * (rsLo p k + 1 / T k) * (T k * T k) = (rsLo p k * T k + 1 / T k * T k) * (rsLo p k * T k + 1 / T k * T k) := by grind
      have e2 : p * (T k * T k) = p * T k * T k := by grind
      rw [e1, e2, hone]
      exact Rat.le_trans (Rat.le_of_lt f2) g2
  · unfold rsHi
    split
    · exact Rat.le_refl
    · grind
end Go.Proofs.YtgfchmagglhohaaGreat.Ev

end
section
namespace Go.Proofs.YtgfchmagglhohaaGreat.Ev
open Go
set_option linter.unusedVariables false
set_option linter.unusedSimpArgs false
set_option linter.unusedSectionVars false
theorem Yx {B' : Nat} {c : List Int × Int × Int} (h : Cur B' c) (hB : B' ≤ 800000000) : ∃ c' a b, Cc c = some (c', sF a b) ∧ Cur (B' + 1500) c' ∧ ShF a ∧ ShF b := by
  unfold Cc
  obtain ⟨c0, a, e0, q0, s0⟩ := PO h (by omega)
  obtain ⟨c1, b, e1, q1, s1⟩ := PO q0 (by omega)
  simp only [e0, e1, obs, peta, Cw s0.br, Cw s1.br]
  have fin : ∃ c' u v, (some (c1, (a.1, (a.2.1, (a.2.2.1, (a.2.2.2, b))))) : Option ((List Int × Int × Int) × SF)) = some (c', sF u v) ∧ Cur (B' + 1500) c' ∧ ShF u ∧ ShF v := ⟨c1, a, b, rfl, q1.mono (by omega), s0, s1⟩
  cases g1 : goodQ (toQ a) with
  | false => simp only [cF]; exact fin
  | true =>
    cases g2 : goodQ (toQ b) with
    | false => simp only [cT, cF]; exact fin
    | true =>
      obtain ⟨p, hp, rfl⟩ := GE g1
      obtain ⟨q, hq, rfl⟩ := GE g2
      simp only [cT, ML (k := 40) (by omega) hp hq, obs]
      by_cases hc : cmpQ p q > 0
      · obtain ⟨c2, v2, e2, q2⟩ := Nh q1 (by omega) 12
        rw [decide_eq_true hc]
        simp only [cT, e2, obs]
        cases v2
        · exact ⟨c2, rqF q, rqF p, rfl, q2.mono (by omega), s1, s0⟩
        · exact ⟨c2, rqF p, rqF q, rfl, q2.mono (by omega), s0, s1⟩
      · rw [decide_eq_false hc]
        exact fin
theorem X8 {l : List Int} (h : Cur 0 (l, 0, 0)) : ∃ a b k, BH l = some (sF a b, k) ∧ ShF a ∧ ShF b := by
  unfold BH
  obtain ⟨c, a, b, e, q, s1, s2⟩ := Yx h (by omega)
  obtain ⟨c2, k, e2, q2, m2⟩ := HB q (by omega) [-(1 : Int), 0, 1, 4, 16, 64, 65] (by simp) (by simp)
  simp only [e, obs, peta]
  rw [e2, obs]
  exact ⟨a, b, k, rfl, s1, s2⟩
theorem ZQ {l : List Int} (h : Cur 0 (l, 0, 0)) : ∃ a k, BG l = some (a, k) ∧ ShF a := by
  unfold BG
  obtain ⟨c, a, e, q, s1⟩ := PO h (by omega)
  simp only [e, obs, rq_e, peta]
  rw [Cw s1.br, obs]
  cases hg : goodQ (toQ a) with
  | false =>
    obtain ⟨c2, k, e2, q2, m2⟩ := HB q (by omega) [-(1 : Int), 0, 1, 4, 16, 64, 65] (by simp) (by simp)
    rw [cF, e2, obs]
    exact ⟨a, k, rfl, s1⟩
  | true =>
    obtain ⟨x, hx, rfl⟩ := GE hg
    obtain ⟨c1, v, e1, q1⟩ := Nh q (by omega) 3
    obtain ⟨c2, k, e2, q2, m2⟩ := HB q1 (by omega) [-(1 : Int), 0, 1, 4, 16, 64, 65] (by simp) (by simp)
    rw [cT, e1, obs]
    cases v with
    | false =>
      simp only [cF]
      rw [e2, obs]
      exact ⟨_, k, rfl, s1⟩
    | true =>
      simp only [cT]
      rw [Y9 (k := 40) (by omega) hx hx, obs]
      have hsh := Sy (k := 80) (by omega) ((Gx hx hx).mono (show 40 + 40 ≤ 80 by omega))
      generalize rqF (x * x) = y at hsh
      cases decide (((y.2.1.length : Nat) : Int) > 40) with
      | true =>
        rw [cT, Ak3 (by omega) (by omega), obs, e2, obs]
        exact ⟨_, k, rfl, Sy (k := 1) (by omega) (Gh (by rw [B1]; decide) (by omega))⟩
      | false =>
        rw [cF, e2, obs]
        exact ⟨_, k, rfl, hsh⟩
theorem Ak6 {l : List Int} (h : Cur 0 (l, 0, 0)) : ∃ a b c, B6 l = some (sF a b, c) ∧ ShF a ∧ ShF b ∧ ShF c := by
  unfold B6
  obtain ⟨c0, a, b, e, q, s1, s2⟩ := Yx h (by omega)
  obtain ⟨c1, c, e2, q2, s3⟩ := PO q (by omega)
  simp only [e, obs, peta]
  rw [e2, obs]
  exact ⟨a, b, c, rfl, s1, s2, s3⟩
theorem WY {q : Rat} (hq : Sz 40 q) : Bm (rqF q) = some (fitsS q q) := by
  unfold Bm
  simp only [peta]
  rw [EY (Ed (by omega) hq), obs, ED hq, nT, cF, Dr, obs]
theorem Wj {q : Rat} (hq : Sz 40 q) : Bl (rqF q) = some (fitsS q q) := by
  unfold Bl
  simp only [peta]
  try simp only [Zb]
  rw [Cw (Ed (by omega) hq), obs, ED hq, nT, cF, MZ (k := 40) (by omega) hq hq, obs]
theorem Pp {a : RF} (ha : BrF a) (h : goodQ (toQ a) = false) : Bm a = some (zS, false) := by unfold Bm; simp only [rq_e]; rw [EY ha, h]; rfl
theorem Pr {a : RF} (ha : BrF a) (h : goodQ (toQ a) = false) : Bl a = some (zS, false) := by unfold Bl; simp only [rq_e]; rw [Cw ha, h]; rfl
theorem W6 {a : RF} (h : ShF a) : ∃ v : SF × Bool, Bm a = some v ∧ Bl a = some v ∧ Ar v.1 v.1 = some true := by
  cases hg : goodQ (toQ a) with
  | false => exact ⟨_, Pp h.br hg, Pr h.br hg, C6⟩
  | true =>
    obtain ⟨q, hq, rfl⟩ := GE hg
    exact ⟨_, WY hq, Wj hq, Fz _ _⟩
theorem Am2 {a b c : RF} (ha : ShF a) (hb : ShF b) (hc : ShF c) : ∃ v : Bool × Bool, CY (sF a b) c = some v ∧ EU (sF a b) c = some v := by
  obtain ⟨g, hg, hk⟩ := spK ha.br hb.br
  unfold CY EU
  simp only [rq_e, peta]
  rw [hg.1, hg.2, obs, obs]
  cases g with
  | false => exact ⟨_, rfl, rfl⟩
  | true =>
    obtain ⟨p, q, hp, hq, hpq, e2⟩ := hk rfl
    rw [e2]
    rw [nT, cF, cF, EY hc.br, Cw hc.br, obs, obs]
    cases hg2 : goodQ (toQ c) with
    | false => exact ⟨_, rfl, rfl⟩
    | true =>
      obtain ⟨x, hx, rfl⟩ := GE hg2
      rw [nT, cF, cF]
      try simp only [sF_e]
      rw [KW hp hq hpq hx, As8 hp hq hpq hx, obs]
      exact ⟨_, rfl, rfl⟩
theorem XO {b : List Int} (hb : Cur 0 (b, 0, 0)) :
    (((Bt b)).bind fun x27 =>
      ((Bm x27)).bind fun x28 =>
      ((Bl x27)).bind fun x29 =>
      ((B6 b)).bind fun x30 =>
      ((CY x30.1 x30.2)).bind fun x31 =>
      ((EU x30.1 x30.2)).bind fun x32 =>
      bif (x28.2 == x29.2) then
        ((Ar x28.1 x29.1)).bind fun x33 =>
        bif x33 then
          bif (x31.2 == x32.2) then
            some (x31.1 == x32.1)
          else
          some false
        else
        some false
      else
      some false) = some true := by
  obtain ⟨a, ea, ha⟩ : ∃ a, Bt b = some a ∧ ShF a := by
    obtain ⟨a, ea, ha⟩ := Af0 hb
    unfold Bt
    rw [ea, obs]
    exact ⟨_, rfl, ha⟩
  obtain ⟨v, v1, v2, v3⟩ := W6 ha
  obtain ⟨x, y, z, e, s1, s2, s3⟩ := Ak6 hb
  obtain ⟨w, w1, w2⟩ := Am2 s1 s2 s3
  generalize sF x y = s at e w1 w2
  rw [ea, obs, v1, obs, v2, obs, e, obs]
  simp only
  rw [w1, obs, w2, obs, beq_self_eq_true, cT, v3, obs, cT, beq_self_eq_true, cT, beq_self_eq_true]
theorem YH {k : Nat} (hk : k ≤ 64) : Sz 40 (1 / T k) := (Uj (p := ((1 : Int) : Rat)) (k := 5) (m := 5) (Gh (Mh (by omega)) (by omega)) (T_sz (k := k) (by omega)) (T_ne k)).mono (by omega)
theorem Ag1 (p : Rat) (k : Nat) : rsHi p k - rsLo p k = 0 ∨ rsHi p k - rsLo p k = 1 / T k := by
  unfold rsHi
  split
  · exact .inl (by grind)
  · exact .inr (by grind)
theorem Ys {n : Nat} (hn : n ≤ 64) : Int.tmod (n : Int) 60 = ((n % 60 : Nat) : Int) ∧ decide (IntKind.wrap .u64 ((n % 60 : Nat) : Int) < 0) = false ∧ shlI .i64 1 (IntKind.wrap .u64 ((n % 60 : Nat) : Int)) = ((pw (n % 60) : Nat) : Int) ∧ ((pw (n % 60) : Nat) : Int) ≤ 4611686018427387904 := by
  have hm : n % 60 < 60 := Nat.mod_lt _ (by omega)
  have hp : pw (n % 60) ≤ 4611686018427387904 := by
    have : pw (n % 60) ≤ 2 ^ 62 := Nat.pow_le_pow_right (by omega) (by omega)
    exact this
  refine ⟨by rw [Int.tmod_eq_emod_of_nonneg (by omega)]; omega, decide_eq_false (by rw [wrapU (by omega) (by omega)]; omega), ?_, by omega⟩
  have e : (1 : Int) * 2 ^ (n % 60) = ((pw (n % 60) : Nat) : Int) := by unfold pw; push_cast; omega
  rw [MU (by omega) (by rw [e]; omega) (by rw [e]; omega), e]
theorem Al9 {n : Nat} (hn : n ≤ 64) : EM 1 ((pw (n % 60) : Nat) : Int) = some (rqF (1 / T (n % 60)), true) := by
  have h := (Ys hn).2.2.2
  have hp := Ru (n % 60)
  rw [Ao8, Yg (by omega) (by omega) (by omega), HK]
  rfl
theorem Xz {b : List Int} {w t : RF} {k : Int} (h : k < 60 → AV (w.1, w.2.1) = some false → AN w t = some true) (hz : ∃ z, AV (w.1, w.2.1) = some z) :
    (bif decide (k < (60 : Int)) then
      ((AV (w.1, w.2.1))).bind fun x22 =>
      bif (!x22) then
        ((AN w t)).bind fun x23 =>
        bif (!x23) then
          (some (Sum.inl false) : Option (Bool ⊕ List Int))
        else
        some (Sum.inr b)
      else
      some (Sum.inr b)
    else
    some (Sum.inr b)) = some (Sum.inr b) := by
  by_cases hk : k < 60
  · obtain ⟨z, ez⟩ := hz
    rw [decide_eq_true hk, cT, ez, obs]
    cases z with
    | true => rfl
    | false => rw [nF, cT, h hk ez, obs]; rfl
  · rw [decide_eq_false hk, cF]
theorem Xn {b : List Int} {y : SF × Bool} {p w t : RF} {k : Int} (hy : y.2 = true → AY y.1 p = some true)
    (h : k < 60 → AV (w.1, w.2.1) = some false → AN w t = some true) (hz : ∃ z, AV (w.1, w.2.1) = some z) :
    ((bif y.2 then
            ((AY y.1 p)).bind fun x18 =>
            bif (!x18) then
              (some (Sum.inl (Sum.inl false)) : Option ((Bool ⊕ List Int) ⊕ (RF × (RF × (List Int × Int)))))
            else
            bif (!true) then
              some (Sum.inl (Sum.inl false))
            else
            bif (!true) then
              some (Sum.inl (Sum.inl false))
            else
            some (Sum.inr (w, (t, (b, k))))
          else
          bif (!true) then
            some (Sum.inl (Sum.inl false))
          else
          bif (!true) then
            some (Sum.inl (Sum.inl false))
          else
          some (Sum.inr (w, (t, (b, k))))).bind fun x19 =>
        Sum.elim
          (fun x20 =>
          some x20)
          (fun (x21 : RF × (RF × (List Int × Int))) =>
          bif decide (x21.2.2.2 < (60 : Int)) then
            ((AV (x21.1.1, x21.1.2.1))).bind fun x22 =>
            bif (!x22) then
              ((AN x21.1 x21.2.1)).bind fun x23 =>
              bif (!x23) then
                (some (Sum.inl false) : Option (Bool ⊕ List Int))
              else
              some (Sum.inr x21.2.2.1)
            else
            some (Sum.inr x21.2.2.1)
          else
          some (Sum.inr x21.2.2.1))
          x19) = some (Sum.inr b) := by
  have fin := Xz (b := b) h hz
  cases hy2 : y.2 with
  | false =>
    rw [cF, nT, cF, cF, obs, sEr]
    exact fin
  | true =>
    rw [cT, hy hy2, obs, nT, cF, cF, cF, obs, sEr]
    exact fin
theorem Ai7 {b : List Int} (hb : Cur 0 (b, 0, 0)) {K : List Int → Option Bool} (hK : K b = some true) :
    (((BG b)).bind fun x11 =>
    ((BA x11.1 x11.2)).bind fun x12 =>
    ((Bw x11.1 x11.2)).bind fun x13 =>
    bif (!(x12.2 == x13.2)) then
      some false
    else
    ((Ar x12.1 x13.1)).bind fun x14 =>
    bif (!x14) then
      some false
    else
    (bif x12.2 then
        ((BK x12.1)).bind fun x15 =>
        ((CQ x12.1)).bind fun x16 =>
        bif decide ((Go.IntKind.wrap Go.IntKind.u64 (Int.tmod x11.2 (60 : Int))) < (0 : Int)) then
          none
        else
        ((EM (1 : Int) (shlI Go.IntKind.i64 (1 : Int) (Go.IntKind.wrap Go.IntKind.u64 (Int.tmod x11.2 (60 : Int)))))).bind fun x17 =>
        (bif x15.2 then
            ((AY x15.1 x11.1)).bind fun x18 =>
            bif (!x18) then
              some (Sum.inl (Sum.inl false))
            else
            bif (!x16.2) then
              some (Sum.inl (Sum.inl false))
            else
            bif (!x17.2) then
              some (Sum.inl (Sum.inl false))
            else
            some (Sum.inr (x16.1, (x17.1, (b, x11.2))))
          else
          bif (!x16.2) then
            some (Sum.inl (Sum.inl false))
          else
          bif (!x17.2) then
            some (Sum.inl (Sum.inl false))
          else
          some (Sum.inr (x16.1, (x17.1, (b, x11.2))))).bind fun x19 =>
        Sum.elim
          (fun x20 =>
          some x20)
          (fun (x21 : RF × (RF × (List Int × Int))) =>
          bif decide (x21.2.2.2 < (60 : Int)) then
            ((AV (x21.1.1, x21.1.2.1))).bind fun x22 =>
            bif (!x22) then
              ((AN x21.1 x21.2.1)).bind fun x23 =>
              bif (!x23) then
                some (Sum.inl false)
              else
              some (Sum.inr x21.2.2.1)
            else
            some (Sum.inr x21.2.2.1)
          else
          some (Sum.inr x21.2.2.1))
          x19
      else
      some (Sum.inr b)).bind fun x24 =>
    Sum.elim
      (fun x25 =>
      some x25)
      (fun x26 => K x26)
      x24) = some true := by
  obtain ⟨a, k, e, ha⟩ := ZQ hb
  have all : ∃ v : SF × Bool, BA a k = some v ∧ Bw a k = some v ∧ Ar v.1 v.1 = some true ∧
      (v.2 = true → ∃ (n : Nat) (y : SF × Bool) (w : RF), k = (n : Int) ∧ n ≤ 64 ∧ BK v.1 = some y ∧ CQ v.1 = some (w, true) ∧ (y.2 = true → AY y.1 a = some true) ∧
        (k < 60 → AV (w.1, w.2.1) = some false → AN w (rqF (1 / T (n % 60))) = some true) ∧ ∃ z, AV (w.1, w.2.1) = some z) := by
    cases hg : goodQ (toQ a) with
    | false => exact ⟨_, Qt ha.br hg k, QF ha.br hg k, C6, fun h => by cases h⟩
    | true =>
      obtain ⟨p, hp, rfl⟩ := GE hg
      have i1 := Yo hp k
      have i2 := XB hp k
      unfold rsV at i1 i2
      by_cases c : 0 ≤ p ∧ 0 ≤ k ∧ k ≤ 64
      · rw [if_pos c] at i1 i2
        refine ⟨_, i1, i2, Fz _ _, fun h => ?_⟩
        obtain ⟨f1, f2, f3⟩ := Lc h
        obtain ⟨n, rfl⟩ : ∃ n : Nat, k = (n : Int) := ⟨k.toNat, by omega⟩
        rw [Int.toNat_natCast] at f1 f2 f3 ⊢
        rw [f3]
        have hn : n ≤ 64 := by omega
        obtain ⟨r1, r2, r3⟩ := At4 c.1 n
        have r0 := U2 p n
        have hw := Ag1 p n
        have wsz : Sz 40 (rsHi p n - rsLo p n) := by
          rcases hw with h | h
          · rw [h]; exact S0' (by omega)
          · rw [h]; exact YH hn
        have hsq := UT f1 f2 r3
        have hwd := Zq f1 f2 r3
        rw [Kz wsz] at hwd
        refine ⟨n, _, _, rfl, hn, hsq, hwd, fun hy => ?_, fun hk hz => ?_, ?_⟩
        · obtain ⟨g1, g2, g3⟩ := Lc hy
          obtain ⟨m0, m1⟩ := Af2 (sqL (rsLo p n) (rsHi p n)) (rsLo p n * rsLo p n)
          obtain ⟨x0, x1⟩ := Ah8 (sqL (rsLo p n) (rsHi p n)) (rsLo p n * rsLo p n)
          have hmem : rsHi p n * rsHi p n ∈ sqL (rsLo p n) (rsHi p n) := by
            unfold sqL
            split <;> simp
          have hlo := Rat.le_trans m0 r1
          have hhi := Rat.le_trans r2 (x1 _ hmem)
          rw [g3, QQ g1 g2 (Rat.le_trans hlo hhi) hp, decide_eq_true ⟨hlo, hhi⟩]
        · rcases hw with h | h
          · rw [h] at hz
            exfalso
            rw [rq_n, SU] at hz
            have := Option.some.inj hz
            exact absurd (of_decide_eq_false this) (by intro h; exact h rfl)
          · rw [h, show n % 60 = n by omega]
            exact UV (by omega) (YH hn)
        · rw [rq_n, SU]
          exact ⟨_, rfl⟩
      · rw [if_neg c] at i1 i2
        exact ⟨_, i1, i2, C6, fun h => by cases h⟩
  obtain ⟨v, i1, i2, i3, rest⟩ := all
  rw [e, obs]
  simp only
  rw [i1, obs, i2, obs, beq_self_eq_true, nT, cF, i3, obs, nT, cF]
  cases hv : v.2 with
  | false => rw [cF, obs, sEr]; exact hK
  | true =>
    obtain ⟨n, y, w, rfl, hn, e1, e2, e3, e4, e5⟩ := rest hv
    obtain ⟨t1, t2, t3, t4⟩ := Ys hn
    have fin := Xn (b := b) e3 e4 e5
    rw [cT, e1, obs, e2, obs, t1, t2, cF, t3, Al9 hn, obs]
    simp only
    rw [fin, obs, sEr]
    exact hK
theorem WS {a b : List Int} (ha : Cur 0 (a, 0, 0)) {K : List Int → Option Bool} (hK : K b = some true) :
    (((BH a)).bind fun x0 =>
  ((AR x0.1 x0.2)).bind fun x1 =>
  ((Bz x0.1 x0.2)).bind fun x2 =>
  bif (!(x1.2 == x2.2)) then
    some false
  else
  ((Ar x1.1 x2.1)).bind fun x3 =>
  bif (!x3) then
    some false
  else
  (bif x1.2 then
      ((AR x1.1 x0.2)).bind fun x4 =>
      ((AY x1.1 (x0.1.1, (x0.1.2.1, (x0.1.2.2.1, x0.1.2.2.2.1))))).bind fun x5 =>
      bif (!x5) then
        some (Sum.inl false)
      else
      ((AY x1.1 x0.1.2.2.2.2)).bind fun x6 =>
      bif (!x6) then
        some (Sum.inl false)
      else
      bif (!x4.2) then
        some (Sum.inl false)
      else
      ((Ar x4.1 x1.1)).bind fun x7 =>
      bif (!x7) then
        some (Sum.inl false)
      else
      some (Sum.inr b)
    else
    some (Sum.inr b)).bind fun x8 =>
  Sum.elim
    (fun x9 =>
    some x9)
    (fun x10 => K x10)
    x8) = some true := by
  obtain ⟨x, y, k, e, s1, s2⟩ := X8 ha
  obtain ⟨g, hg, hk⟩ := spK s1.br s2.br
  have all : ∃ v : SF × Bool, AR (sF x y) k = some v ∧ Bz (sF x y) k = some v ∧ Ar v.1 v.1 = some true ∧
      (v.2 = true → AR v.1 k = some v ∧ AY v.1 x = some true ∧ AY v.1 y = some true) := by
    cases g with
    | false => exact ⟨_, Q8 hg k, QE hg k, C6, fun h => by cases h⟩
    | true =>
      obtain ⟨p, q, hp, hq, hpq, e2⟩ := hk rfl
      have hx : x = rqF p := by have := congrArg (fun s : SF => ((s.1, (s.2.1, (s.2.2.1, s.2.2.2.1))) : RF)) e2; exact this
      have hy : y = rqF q := by have := congrArg (fun s : SF => s.2.2.2.2) e2; exact this
      rw [hx, hy]
      have i1 := RK hp hq hpq k
      have i2 := Xb hp hq hpq k
      have i3 : ∀ v w : Rat, Sz 40 v → Sz 40 w → v ≤ w → AR (sF (rqF v) (rqF w)) k = some (roV v w k) := fun v w hv hw hvw => RK hv hw hvw k
      unfold roV at i1 i2 i3
      by_cases c : 0 ≤ k ∧ k ≤ 64
      · simp only [if_pos c] at i1 i2 i3
        refine ⟨_, i1, i2, Fz _ _, fun h => ?_⟩
        obtain ⟨f1, f2, f3⟩ := Lc h
        have l1 := An3 p k.toNat
        have l2 := Ao7 q k.toNat
        have lw : roLo p k.toNat ≤ roHi q k.toNat := Rat.le_trans l1 (Rat.le_trans hpq l2)
        have i4 := i3 _ _ f1 f2 lw
        rw [XI, X2] at i4
        rw [f3] at i4 ⊢
        refine ⟨i4, ?_, ?_⟩
        · rw [QQ f1 f2 lw hp, decide_eq_true ⟨l1, Rat.le_trans hpq l2⟩]
        · rw [QQ f1 f2 lw hq, decide_eq_true ⟨Rat.le_trans l1 hpq, l2⟩]
      · simp only [if_neg c] at i1 i2
        exact ⟨_, i1, i2, C6, fun h => by cases h⟩
  obtain ⟨v, i1, i2, i3, rest⟩ := all
  have e3 : ((sF x y).1, ((sF x y).2.1, ((sF x y).2.2.1, (sF x y).2.2.2.1))) = x := rfl
  have e4 : (sF x y).2.2.2.2 = y := rfl
  clear hg hk
  generalize sF x y = s at e i1 i2 e3 e4
  rw [e, obs]
  simp only
  rw [i1, obs, i2, obs, beq_self_eq_true, nT, cF, i3, obs, nT, cF, e3, e4]
  cases hv : v.2 with
  | false => rw [cF, obs, sEr]; exact hK
  | true =>
    obtain ⟨r1, r2, r3⟩ := rest hv
    rw [cT, r1, obs, r2, obs, nT, cF, r3, obs, nT, cF, hv, nT, cF, i3, obs, nT, cF, obs, sEr]
    exact hK
theorem pureFnRounded {a b : List Int} (ha : ∀ x ∈ a, 0 ≤ x ∧ x ≤ 255) (hb : ∀ x ∈ b, 0 ≤ x ∧ x ≤ 255) (la : a.length ≤ 1000000000000000) (lb : b.length ≤ 1000000000000000) : Ds a b = some true := by
  unfold Ds
  rw [wrapI (by omega) (by omega)]
  by_cases hl : (a.length : Int) + (b.length : Int) > 1048576
  · rw [decide_eq_true hl]; rfl
  rw [decide_eq_false hl, cF]
  have ca : Cur 0 (a, 0, 0) := .start ha (by omega)
  have cb : Cur 0 (b, 0, 0) := .start hb (by omega)
  exact WS ca (Ai7 cb (XO cb))
end Go.Proofs.YtgfchmagglhohaaGreat.Ev

end
section
namespace Go.Proofs.YtgfchmagglhohaaGreat.Ev
open Go Go.RowKit Go.ChangeShapes Go.WideShapes Go.ChangeAt
set_option linter.unusedVariables false
def shs : List Sh := [.sl 1 (.int .u8), .sl 1 (.int .u8)]
theorem fits : FitsL Tryz.prog [22, 22] shs := by
  have h : Fits Tryz.prog 22 (.sl 1 (.int .u8)) := .sl Tryz.underlying22 (by kernel_rfl) (by kernel_rfl) (.int Tryz.underlying5)
  exact ⟨h, h, trivial⟩
theorem bytes_wf {l : List Int} (h : WFC (.sl 1 (.int .u8)) l) : (∀ x ∈ l, 0 ≤ x ∧ x ≤ 255) ∧ l.length ≤ 1000000000000000 := by
  have h1 : ∀ x ∈ l, (Lit.int .u8 x).wf = true := h.1
  have h2 : l.length * 1 ≤ maxBytes := h.2
  refine ⟨fun x hx => ?_, by unfold maxBytes at h2; omega⟩
  have := h1 x hx
  simp [Lit.wf, IntKind.min, IntKind.max, IntKind.bits, IntKind.signed] at this
  omega
theorem own : ownKnob Tryz.prog.godebug = none := by kernel_rfl
theorem laid : laidOutB Tryz.prog = true := by kernel_rfl
set_option maxRecDepth 100000 in
theorem lifted (os : Os) (started : os.Started) (H : Type) (enc : TypeId × Value → H) :
    ReturnsInHanded {} Tryz.checked os 5 .any (Rows.fnRoundedSpec.pre6 enc Tryz.prog Tryz.f5 Rows.fnRoundedRow.domain false) (Rows.fnRoundedSpec.post enc Tryz.prog Tryz.f5 false true false false) := by
  refine returnsInHanded_of_change_sized (C := Tryz.checked) own started (by kernel_rfl) Tryz.func5 (ChangeSpec.witness6 (enc := enc) (C := Tryz.checked) false ⟨#[], #[.slice none 0 0, .slice none 0 0], []⟩ 8 (by kernel_rfl) (by kernel_rfl) (by kernel_rfl) (by kernel_rfl)) ?_
  intro W base args ds gs before hval hW hcnd hsz _
  exact UC (P := Tryz.prog) (J := []) (cf := cf0) (ext := ext0) (F := fun x => Ds x.1 x.2) (shs := shs) (by kernel_rfl) Ai9 QY (fun d => by kernel_rfl)
    (fun d hd => pureFnRounded (bytes_wf hd.1).1 (bytes_wf hd.2.1).1 (bytes_wf hd.1).2 (bytes_wf hd.2.1).2) rfl rfl rfl (by kernel_rfl) fits laid
    (fun t ht => by
      have : t = 22 := by simpa using ht
      subst this
      exact ⟨by kernel_rfl, of_decide_eq_true (by kernel_rfl)⟩) rfl
    (fun ds hl => by
      match ds, hl with
      | [_, _], _ => rfl) (fun x hx => absurd hx (List.not_mem_nil)) hval hW hsz
theorem over : Rows.fnRoundedRow.holds Tryz.pinned (OpenSpec.ofChange Rows.fnRoundedSpec) :=
  OpenClaim.holds_of_wide 5 Tryz.f5 rfl rfl rfl rfl rfl rfl rfl ⟨rfl, rfl, rfl, rfl, rfl⟩ rfl rfl rfl rfl rfl (by kernel_rfl) Tryz.func5 (by kernel_rfl)
    (of_decide_eq_true (by kernel_rfl)) (by unfold Func.isWrapper; first | (rw [if_pos (by decide +kernel)]; kernel_rfl) | (rw [if_neg (by decide +kernel)]; exact ⟨rfl, rfl⟩))
    (fun os started H enc _ => lifted os started H enc)
end Go.Proofs.YtgfchmagglhohaaGreat.Ev
namespace Go.Proofs.YtgfchmagglhohaaGreat
theorem fnRounded_holds : Rows.FnRoundedSaid := Ev.over
#print axioms fnRounded_holds
end Go.Proofs.YtgfchmagglhohaaGreat

end
