/- Whatever comes in, the law of this claim answers true, and nothing that was handed in changes. -/
import Derived.Test.YtgfchmagglhohaaGreatDoorKE
import Derived.Test.YtgfchmagglhohaaGreatDoorRows
import Derived.Test.YtgfchmagglhohaaGreatDoorCards
import Derived.Test.YtgfchmagglhohaaGreatDoorTie
import Derived.WalkKit
import Derived.ProofKit
import Derived.OpenShut
import Derived.ShutString
import Derived.ChangeOld
import Derived.Below
import Derived.SizedLaws
import Derived.SevenTiedAt
import Derived.LaidMore
import Derived.Lay
import Derived.Stop.Joined
import Derived.Test.YtgfchmagglhohaaGreatDoorChecked
section
namespace Go.Proofs.YtgfchmagglhohaaGreatDoor.Ev
open Go
set_option linter.unusedVariables false
set_option linter.unusedSimpArgs false
set_option linter.unusedSectionVars false
def txtQ (q : Rat) : Str := if q.den = 1 then Lib.itoa q.num else (Lib.itoa q.num ++ [47]) ++ Lib.itoa (q.den : Int)
theorem Af6 : lim 1 = [1] := by rw [GL (by omega)]; simp [Av]
theorem T9 (q : Rat) : (cmpZ (q.den : Int) 1 == 0) = decide (q.den = 1) := by
  rw [Bool.eq_iff_iff]
  simp only [beq_iff_eq, decide_eq_true_eq]
  rcases Bg (q.den : Int) 1 with ⟨g, h⟩ | ⟨g, h⟩ | ⟨g, h⟩ <;> rw [g] <;> omega
theorem Jo {z : Int} {k : Nat} (h : (z.natAbs : Int) < B k) : (Lib.itoa z).length ≤ 16 * k + 2 := by
  have := La _ _ (VC h)
  rw [O5]
  split <;> simp <;> omega
theorem Vk {q : Rat} {k : Nat} (hk : k ≤ 80000) (h1 : 1 ≤ k) (h : Sz k q) : D0 (rqF q) = some (txtQ q) := by
  have ln := Jo h.1
  have ld := Jo (natB h.2)
  unfold D0 txtQ
  simp only [rq_n, rq_d, JF, peta]
  rw [BigOf1, obs, GY (by omega) (natB h.2) (Af4 h1), obs, T9]
  by_cases hd : q.den = 1
  · rw [decide_eq_true hd, cT, Kh (by omega) h.1, obs, if_pos hd]
  · rw [decide_eq_false hd, cF, Kh (by omega) h.1, obs, E9 (by simp; omega), obs, Kh (by omega) (natB h.2), obs, E9 (by simp; omega), obs, if_neg hd]
theorem Y1 {q : Rat} {k : Nat} (hk : k ≤ 80000) (h1 : 1 ≤ k) (h : Sz k q) : FW (rqF q) = some (txtQ q) := by
  have ln := Jo h.1
  have ld := Jo (natB h.2)
  have hl := Af.2 h.2
  have hc : AY (big (q.den : Int)).2 [1] = some (cmpZ (q.den : Int) 1) := by
    have := Jl (a := q.den) (b := 1) (by unfold Brief; omega) (by unfold Brief; rw [Af6]; simp)
    rw [Af6] at this
    rw [Et]
    exact this
  unfold FW txtQ
  have e : (rqF q).2.2.2 = (big (q.den : Int)).2 := rfl
  simp only [rq_n, rq_d, e, peta]
  rw [hc, obs, T9]
  by_cases hd : q.den = 1
  · rw [decide_eq_true hd, cT, Ky (by omega) h.1, obs, if_pos hd]
  · rw [decide_eq_false hd, cF, Ky (by omega) h.1, obs, E9 (by simp; omega), obs]
    first
    | rw [Ky (by omega) (natB h.2), obs, E9 (by simp; omega), obs, if_neg hd]
    | (simp only [JF, rq_d, peta]; rw [Ky (by omega) (natB h.2), obs, E9 (by simp; omega), obs, if_neg hd])
theorem XN {q : Rat} (h : Sz 40 q) : BE (rqF q) = some (txtQ q, true) := by
  unfold BE
  simp only [rq_e]
  rw [Fk (EA (by omega) h), obs, EL h, nT, cF, Vk (by omega) (by omega) h, obs]
theorem Yq {q : Rat} (h : Sz 40 q) : BH (rqF q) = some (txtQ q, true) := by
  unfold BH
  simp only [rq_e]
  rw [GA (EA (by omega) h), obs, EL h, nT, cF, Y1 (by omega) (by omega) h, obs]
theorem Qn {a : RF} (ha : BrF a) (h : goodQ (toQ a) = false) : BE a = some ([], false) := by
  unfold BE
  simp only [rq_e]
  rw [Fk ha, obs, h, nF, cT]
theorem Qq {a : RF} (ha : BrF a) (h : goodQ (toQ a) = false) : BH a = some ([], false) := by
  unfold BH
  simp only [rq_e]
  rw [GA ha, obs, h, nF, cT]
end Go.Proofs.YtgfchmagglhohaaGreatDoor.Ev

end
section
namespace Go.Proofs.YtgfchmagglhohaaGreatDoor.Ev
open Go Go.RowKit Go.ChangeShapes Go.WideShapes Go.ChangeAt
set_option linter.unusedVariables false
theorem K1 {l : List Int} (h : WFC (.sl 1 (.int .u8)) l) : (∀ x ∈ l, 0 ≤ x ∧ x ≤ 255) ∧ l.length ≤ 1000000000000000 := by
  have h1 : ∀ x ∈ l, (Lit.int .u8 x).wf = true := h.1
  have h2 : l.length * 1 ≤ maxBytes := h.2
  refine ⟨fun x hx => ?_, by unfold maxBytes at h2; omega⟩
  have := h1 x hx
  simp [Lit.wf, IntKind.min, IntKind.max, IntKind.bits, IntKind.signed] at this
  omega
end Go.Proofs.YtgfchmagglhohaaGreatDoor.Ev

end
section
namespace Go.Proofs.YtgfchmagglhohaaGreatDoor.Ev
open Go
set_option linter.unusedVariables false
set_option linter.unusedSimpArgs false
set_option linter.unusedSectionVars false
theorem Ag6 {γ : Type} {p q s d : RF} {c : Int} (v : γ) (e1 : A6 s q = some (p, true)) (e2 : A2 d q = some (p, true)) (e3 : An s = some true) (lp : Ae p p = some true)
    (hc : (d.1 == decide (c < 0)) = true) :
    (((A6 s q)).bind fun x17 =>
        ((A2 d q)).bind fun x18 =>
        ((An s)).bind fun x19 =>
        bif (!x19) then
          (some (Sum.inl false) : Option (Bool ⊕ γ))
        else
        bif x17.2 then
          ((Ae x17.1 p)).bind fun x20 =>
          bif (!x20) then
            some (Sum.inl false)
          else
          bif x18.2 then
            ((Ae x18.1 p)).bind fun x21 =>
            bif (!x21) then
              some (Sum.inl false)
            else
            bif (!(d.1 == decide (c < (0 : Int)))) then
              some (Sum.inl false)
            else
            some (Sum.inr v)
          else
          bif (!(d.1 == decide (c < (0 : Int)))) then
            some (Sum.inl false)
          else
          some (Sum.inr v)
        else
        bif x18.2 then
          ((Ae x18.1 p)).bind fun x22 =>
          bif (!x22) then
            some (Sum.inl false)
          else
          bif (!(d.1 == decide (c < (0 : Int)))) then
            some (Sum.inl false)
          else
          some (Sum.inr v)
        else
        bif (!(d.1 == decide (c < (0 : Int)))) then
          some (Sum.inl false)
        else
        some (Sum.inr v)) = some (Sum.inr v) := by
  simp only [e1, e2, e3, obs, nT, cF, cT, lp, hc]
theorem Ag0 {γ : Type} {p q t : RF} (v : γ) (e1 : AM t q = some (p, true)) (e2 : An t = some true) (lp : Ae p p = some true) :
    (((AM t q)).bind fun x26 =>
        ((An t)).bind fun x27 =>
        bif (!x27) then
          (some (Sum.inl false) : Option (Bool ⊕ γ))
        else
        bif x26.2 then
          ((Ae x26.1 p)).bind fun x28 =>
          bif (!x28) then
            some (Sum.inl false)
          else
          some (Sum.inr v)
        else
        some (Sum.inr v)) = some (Sum.inr v) := by
  simp only [e1, e2, obs, nT, cF, cT, lp]
theorem Ag5 {b : List Int} {K : List Int → Option Bool} (hK : K b = some true) (p q : RF) (f : RF × Bool) (lp : Ae p p = some true)
    (h : f.2 = true → AM f.1 q = some (p, true) ∧ An f.1 = some true) :
    (fun (x25 : RF × (RF × (RF × (List Int × Bool)))) =>
    (bif x25.2.2.2.2 then
        ((AM x25.2.2.1 x25.2.1)).bind fun x26 =>
        ((An x25.2.2.1)).bind fun x27 =>
        bif (!x27) then
          some (Sum.inl false)
        else
        bif x26.2 then
          ((Ae x26.1 x25.1)).bind fun x28 =>
          bif (!x28) then
            some (Sum.inl false)
          else
          some (Sum.inr x25.2.2.2.1)
        else
        some (Sum.inr x25.2.2.2.1)
      else
      some (Sum.inr x25.2.2.2.1)).bind fun x29 =>
    Sum.elim
      (fun x30 =>
      some x30)
      (fun x31 => K x31)
      x29) (p, (q, (f.1, (b, f.2)))) = some true := by
  simp only
  cases hf : f.2 with
  | false => exact hK
  | true =>
    obtain ⟨e1, e2⟩ := h hf
    rw [cT, Ag0 b e1 e2 lp]
    exact hK
theorem Ac6 {b : List Int} (hb : Cur 0 (b, 0, 0)) :
    (((Cj b)).bind fun x32 =>
      ((Fl x32.1 x32.2)).bind fun x33 =>
      ((Ea x32.1 x32.2)).bind fun x34 =>
      bif (!(x33.2 == x34.2)) then
        some false
      else
      ((Ae x33.1 x34.1)).bind fun x35 =>
      bif (!x35) then
        some false
      else
      ((BB b)).bind fun x36 =>
      ((BE x36)).bind fun x37 =>
      ((BH x36)).bind fun x38 =>
      bif (x37.2 == x38.2) then
        bif (x37.1 == x38.1) then
          bif (!x33.2) then
            some true
          else
          ((An x33.1)).bind fun x39 =>
          some x39
        else
        some false
      else
      some false) = some true := by
  obtain ⟨n, d, e⟩ : ∃ n d, Cj b = some (n, d) := by
    unfold Cj
    obtain ⟨c0, x, e0, q0, n0⟩ := QC hb (by omega)
    obtain ⟨c1, y, e1, q1, n1⟩ := QC q0 (by omega)
    simp only [e0, e1, obs, peta]
    exact ⟨_, _, rfl⟩
  obtain ⟨a, ea, ha⟩ : ∃ a, BB b = some a ∧ ShF a := by
    obtain ⟨a, ea, ha⟩ := ZT hb
    unfold BB
    rw [ea, obs]
    exact ⟨_, rfl, ha⟩
  have ht : ∃ t, BE a = some t ∧ BH a = some t := by
    cases hg : goodQ (toQ a) with
    | false => exact ⟨_, Qn ha.br hg, Qq ha.br hg⟩
    | true =>
      obtain ⟨q, hq, rfl⟩ := S5 hg
      exact ⟨_, XN hq, Yq hq⟩
  obtain ⟨t, t1, t2⟩ := ht
  have hv : (ratOfV n d).2 = true → An (ratOfV n d).1 = some true := by
    intro h
    unfold ratOfV at h ⊢
    by_cases c : d = 0 ∨ ¬ n.natAbs ≤ 4611686018427387904 ∨ ¬ d.natAbs ≤ 4611686018427387904
    · rw [if_pos c] at h; cases h
    · rw [if_neg c]
      have hs := (Uu (n := n) (d := d) (by omega) (by omega) (by omega)).mono (show 4 ≤ 40 by omega)
      rw [Fk (EA (by omega) hs), EL hs]
  have lv := KK (QN n d)
  have r1 := Ab5 n d
  have r2 := WP n d
  generalize ratOfV n d = v at hv lv r1 r2
  rw [e, obs]
  simp only
  rw [r1, obs, r2, obs, beq_self_eq_true, nT, cF, lv, obs, nT, cF, ea, obs, t1, obs, t2, obs, beq_self_eq_true, cT, beq_self_eq_true, cT]
  cases h : v.2 with
  | false => rfl
  | true => rw [nT, cF, hv h, obs]
theorem ZI {a b : List Int} (ha : Cur 0 (a, 0, 0)) {K : List Int → Option Bool} (hK : K b = some true) :
    (((B2 a)).bind fun x0 =>
  ((A2 x0.1 x0.2)).bind fun x1 =>
  ((Ca x0.1 x0.2)).bind fun x2 =>
  ((A6 x0.1 x0.2)).bind fun x3 =>
  ((B7 x0.1 x0.2)).bind fun x4 =>
  ((AM x0.1 x0.2)).bind fun x5 =>
  ((B6 x0.1 x0.2)).bind fun x6 =>
  ((BI x0.1 x0.2)).bind fun x7 =>
  ((BJ x0.1 x0.2)).bind fun x8 =>
  ((A4 x0.1 x0.2)).bind fun x9 =>
  ((A3 x0.1 x0.2)).bind fun x10 =>
  bif (!(x1.2 == x2.2)) then
    some false
  else
  ((Ae x1.1 x2.1)).bind fun x11 =>
  bif (!x11) then
    some false
  else
  bif (!(x3.2 == x4.2)) then
    some false
  else
  ((Ae x3.1 x4.1)).bind fun x12 =>
  bif (!x12) then
    some false
  else
  bif (!(x5.2 == x6.2)) then
    some false
  else
  ((Ae x5.1 x6.1)).bind fun x13 =>
  bif (!x13) then
    some false
  else
  bif (!(x7.2 == x8.2)) then
    some false
  else
  ((Ae x7.1 x8.1)).bind fun x14 =>
  bif (!x14) then
    some false
  else
  bif (!(x9.2 == x10.2)) then
    some false
  else
  bif (x9.1 != x10.1) then
    some false
  else
  ((An x0.1)).bind fun x15 =>
  ((BC x0.1)).bind fun x16 =>
  bif (!(x15 == x16)) then
    some false
  else
  (bif x1.2 then
      bif x3.2 then
        ((A6 x1.1 x0.2)).bind fun x17 =>
        ((A2 x3.1 x0.2)).bind fun x18 =>
        ((An x1.1)).bind fun x19 =>
        bif (!x19) then
          some (Sum.inl false)
        else
        bif x17.2 then
          ((Ae x17.1 x0.1)).bind fun x20 =>
          bif (!x20) then
            some (Sum.inl false)
          else
          bif x18.2 then
            ((Ae x18.1 x0.1)).bind fun x21 =>
            bif (!x21) then
              some (Sum.inl false)
            else
            bif (!(x3.1.1 == decide (x9.1 < (0 : Int)))) then
              some (Sum.inl false)
            else
            some (Sum.inr (x0.1, (x0.2, (x7.1, (b, x7.2)))))
          else
          bif (!(x3.1.1 == decide (x9.1 < (0 : Int)))) then
            some (Sum.inl false)
          else
          some (Sum.inr (x0.1, (x0.2, (x7.1, (b, x7.2)))))
        else
        bif x18.2 then
          ((Ae x18.1 x0.1)).bind fun x22 =>
          bif (!x22) then
            some (Sum.inl false)
          else
          bif (!(x3.1.1 == decide (x9.1 < (0 : Int)))) then
            some (Sum.inl false)
          else
          some (Sum.inr (x0.1, (x0.2, (x7.1, (b, x7.2)))))
        else
        bif (!(x3.1.1 == decide (x9.1 < (0 : Int)))) then
          some (Sum.inl false)
        else
        some (Sum.inr (x0.1, (x0.2, (x7.1, (b, x7.2)))))
      else
      some (Sum.inr (x0.1, (x0.2, (x7.1, (b, x7.2)))))
    else
    some (Sum.inr (x0.1, (x0.2, (x7.1, (b, x7.2)))))).bind fun x23 =>
  Sum.elim
    (fun x24 =>
    some x24)
    (fun (x25 : RF × (RF × (RF × (List Int × Bool)))) =>
    (bif x25.2.2.2.2 then
        ((AM x25.2.2.1 x25.2.1)).bind fun x26 =>
        ((An x25.2.2.1)).bind fun x27 =>
        bif (!x27) then
          some (Sum.inl false)
        else
        bif x26.2 then
          ((Ae x26.1 x25.1)).bind fun x28 =>
          bif (!x28) then
            some (Sum.inl false)
          else
          some (Sum.inr x25.2.2.2.1)
        else
        some (Sum.inr x25.2.2.2.1)
      else
      some (Sum.inr x25.2.2.2.1)).bind fun x29 =>
    Sum.elim
      (fun x30 =>
      some x30)
      (fun x31 => K x31)
      x29)
    x23) = some true := by
  obtain ⟨p, q, e, hp, hq⟩ : ∃ p q, B2 a = some (p, q) ∧ ShF p ∧ ShF q := by
    obtain ⟨p, q, e, h1, h2⟩ := Xs ha
    refine ⟨p, q, ?_, h1, h2⟩
    unfold B2
    rw [e, obs]
  have lp := KK hp
  have gp := Fk hp.br
  have gp' := GA hp.br
  have all : ∃ f1 f2 f3 f4 : RF × Bool, ∃ c : Int × Bool,
      (A2 p q = some f1 ∧ Ca p q = some f1 ∧ Ae f1.1 f1.1 = some true) ∧ (A6 p q = some f2 ∧ B7 p q = some f2 ∧ Ae f2.1 f2.1 = some true) ∧
      (AM p q = some f3 ∧ B6 p q = some f3 ∧ Ae f3.1 f3.1 = some true) ∧ (BI p q = some f4 ∧ BJ p q = some f4 ∧ Ae f4.1 f4.1 = some true) ∧
      (A4 p q = some c ∧ A3 p q = some c) ∧
      (f1.2 = true → f2.2 = true → A6 f1.1 q = some (p, true) ∧ A2 f2.1 q = some (p, true) ∧ An f1.1 = some true ∧ (f2.1.1 == decide (c.1 < 0)) = true) ∧
      (f4.2 = true → AM f4.1 q = some (p, true) ∧ An f4.1 = some true) := by
    cases hg : goodQ (toQ p) && goodQ (toQ q) with
    | false =>
      exact ⟨(zF, false), (zF, false), (zF, false), (zF, false), (0, false), ⟨S6 hp.br hq.br hg, S9 hp.br hq.br hg, Dg⟩, ⟨Sm hp.br hq.br hg, Sp hp.br hq.br hg, Dg⟩,
        ⟨SN hp.br hq.br hg, SC hp.br hq.br hg, Dg⟩, ⟨SQ hp.br hq.br hg, SX hp.br hq.br hg, Dg⟩, ⟨LA hp.br hq.br hg, Mf hp.br hq.br hg⟩,
        (fun h => by cases h), (fun h => by cases h)⟩
    | true =>
      rw [Bool.and_eq_true] at hg
      obtain ⟨x, hx, ex⟩ := S5 hg.1
      obtain ⟨y, hy, ey⟩ := S5 hg.2
      have sign : ∀ z : Rat, (rqF z).1 = decide (z.num < 0) := fun z => rfl
      have szf : ∀ z : Rat, (fitsQ z).2 = true → Sz 40 z := by
        intro z h
        by_cases hz : Sz 40 z
        · exact hz
        · rw [QO hz] at h; cases h
      have good : ∀ z : Rat, Sz 40 z → An (rqF z) = some true := fun z hz => by rw [Fk (EA (by omega) hz), EL hz]
      have hdiv : ∃ f4 : RF × Bool, BI (rqF x) (rqF y) = some f4 ∧ BJ (rqF x) (rqF y) = some f4 ∧ Ae f4.1 f4.1 = some true ∧ (f4.2 = true → AM f4.1 (rqF y) = some (rqF x, true) ∧ An f4.1 = some true) := by
        have d1 := ZF hx hy
        have d2 := ZM hx hy
        by_cases h0 : y = 0
        · rw [if_pos h0] at d1 d2
          exact ⟨_, d1, d2, Dg, fun h => by cases h⟩
        · rw [if_neg h0] at d1 d2
          refine ⟨_, d1, d2, DE _, fun h => ?_⟩
          have hz := szf _ h
          rw [Eh hz]
          have hm := TL hz hy
          rw [Rat.div_mul_cancel h0, Eh hx] at hm
          exact ⟨hm, good _ hz⟩
      obtain ⟨f4, d1, d2, d3, d4⟩ := hdiv
      rw [ex, ey]
      refine ⟨fitsQ (x + y), fitsQ (x - y), fitsQ (x * y), f4, (cmpQ x y, true), ⟨Tx hx hy, Zw hx hy, DE _⟩, ⟨Tp hx hy, Zm hx hy, DE _⟩,
        ⟨TL hx hy, YY hx hy, DE _⟩, ⟨d1, d2, d3⟩, ⟨Sk hx hy, Tk hx hy⟩, fun h1 h2 => ?_, d4⟩
      have z1 := szf _ h1
      have z2 := szf _ h2
      have m1 := Tp z1 hy
      have m2 := Tx z2 hy
      rw [show x + y - y = x by grind, Eh hx] at m1
      rw [show x - y + y = x by grind, Eh hx] at m2
      rw [Eh z1, Eh z2]
      refine ⟨m1, m2, good _ z1, ?_⟩
      simp only
      rw [sign, beq_iff_eq, decide_eq_decide, Ad9]
      constructor
      · intro h
        have h2 : ¬ 0 ≤ x - y := fun c => by have := Rat.num_nonneg.2 c; omega
        grind
      · intro h
        have h2 : ¬ 0 ≤ (x - y).num := fun c => by have := Rat.num_nonneg.1 c; grind
        omega
  obtain ⟨f1, f2, f3, f4, c, ⟨a1, b1, l1⟩, ⟨a2, b2, l2⟩, ⟨a3, b3, l3⟩, ⟨a4, b4, l4⟩, ⟨a5, b5⟩, inv, div⟩ := all
  rw [e, obs]
  simp only
  rw [a1, obs, b1, obs, a2, obs, b2, obs, a3, obs, b3, obs, a4, obs, b4, obs, a5, obs, b5, obs, beq_self_eq_true, nT, cF, l1, obs, nT, cF, beq_self_eq_true, nT, cF, l2, obs, nT, cF, beq_self_eq_true, nT, cF, l3, obs, nT, cF, beq_self_eq_true, nT, cF, l4, obs, nT, cF,
    beq_self_eq_true, nT, cF, bne_self_eq_false, cF, gp, obs, gp', obs, beq_self_eq_true, nT, cF]
  have fin := Ag5 hK p q f4 lp div
  cases h1 : f1.2 with
  | false => rw [cF, obs]; exact fin
  | true =>
    cases h2 : f2.2 with
    | false => rw [cT, cF, obs]; exact fin
    | true =>
      obtain ⟨m1, m2, m3, m4⟩ := inv h1 h2
      rw [cT, cT, Ag6 _ m1 m2 m3 lp m4, obs]
      exact fin
theorem pureFnFractions {a b : List Int} (ha : ∀ x ∈ a, 0 ≤ x ∧ x ≤ 255) (hb : ∀ x ∈ b, 0 ≤ x ∧ x ≤ 255) (la : a.length ≤ 1000000000000000) (lb : b.length ≤ 1000000000000000) : Cd a b = some true := by
  unfold Cd
  rw [wrapI (by omega) (by omega)]
  by_cases hl : (a.length : Int) + (b.length : Int) > 1048576
  · rw [decide_eq_true hl]; rfl
  rw [decide_eq_false hl, cF]
  have ca : Cur 0 (a, 0, 0) := .start ha (by omega)
  have cb : Cur 0 (b, 0, 0) := .start hb (by omega)
  exact ZI ca (Ac6 cb)
end Go.Proofs.YtgfchmagglhohaaGreatDoor.Ev

end
section
namespace Go.Proofs.YtgfchmagglhohaaGreatDoor.Ev
open Go Go.RowKit Go.ChangeShapes Go.WideShapes Go.ChangeAt
set_option linter.unusedVariables false
set_option maxRecDepth 100000
def shs : List Sh := [.sl 1 (.int .u8), .sl 1 (.int .u8)]
theorem fits : FitsL Tryz.prog [22, 22] shs := by
  exact ⟨.sl (e := 5) (by kernel_rfl) (by kernel_rfl) (by kernel_rfl) (.int (by kernel_rfl)), .sl (e := 5) (by kernel_rfl) (by kernel_rfl) (by kernel_rfl) (.int (by kernel_rfl)), trivial⟩
theorem own : ownKnob Tryz.prog.godebug = none := by kernel_rfl
theorem laid : laidOutB Tryz.prog = true := by kernel_rfl
theorem door_met (os : Os) (args : Array Value) : laidMetH Tryz.prog Rows.fnFractionsRow.laid ((World.laidAll Tryz.prog os Rows.fnFractionsRow.laid).forCall (fun _ _ => 0) ⟨#[], args, []⟩).memory := by
  rw [MakeChecks.laidMetH_plain _ _ _ (by kernel_rfl)]
  exact laidMet_laidAll _ (by kernel_rfl) (by kernel_rfl)
theorem starE : "*" ++ "errors.errorString" = "*errors.errorString" := by decide
def ids : List Nat := [3]
theorem libJ {W : World} (hsh : W.ShapedOpen Tryz.prog) (hL : laidMetH Tryz.prog Rows.fnFractionsRow.laid W) : LibJ (Jof W ids) := by
  rw [MakeChecks.laidMetH_plain _ _ _ (by kernel_rfl)] at hL
  have hP : laidMet Tryz.prog Rows.fnFractionsRow.laid W := hL
  have htab : Lib.TabIs Tryz.prog W "internal/strconv.uint64pow10" .u64 Lib.pow10Tab := Lib.tabIs_of_head (g := 3) (t := 228) (e := 76) (n := 20) (by kernel_rfl) (by kernel_rfl) (by kernel_rfl) (by kernel_rfl) (by kernel_rfl) (by kernel_rfl) (show laidMet Tryz.prog ((_, Lib.tabData .u64 Lib.pow10Tab) :: _) W from Kr 2 hP)
  unfold ids
  exact { tab := jtab (g := 3) (by kernel_rfl) (by simp) htab }
theorem lifted (os : Os) (started : os.Started) (H : Type) (enc : TypeId × Value → H) :
    ReturnsInHanded {} Tryz.checked os 5 .any (fun w args => (Rows.fnFractionsSpec.pre enc Tryz.prog Tryz.f5 [] false w args ∧ laidMetH Tryz.prog Rows.fnFractionsRow.laid w) ∧ sizedMet enc Tryz.prog Tryz.f5 (OpenSpec.ofChange Rows.fnFractionsSpec) false w args)
      (Rows.fnFractionsSpec.post enc Tryz.prog Tryz.f5 false true false false) := by
  refine Iz (C := Tryz.checked) (X := fun w _ => laidMetH Tryz.prog Rows.fnFractionsRow.laid w) (fun _ _ _ hh h => h.of_heap hh) own started (by kernel_rfl) Tryz.func5
    (ChangeSpec.witness_shaped (enc := enc) (C := Tryz.checked) (os := os) (X := fun w _ => laidMetH Tryz.prog Rows.fnFractionsRow.laid w) false (World.laidAll Tryz.prog os Rows.fnFractionsRow.laid) #[.slice none 0 0, .slice none 0 0] 8 (World.laidAll_os _ _ _) (World.shaped_of_ZipB (by kernel_rfl) (by kernel_rfl)) (by kernel_rfl) (by kernel_rfl) (by kernel_rfl) (door_met os _)) ?_
  intro W base args ds gs before hval hW hsz hsh hL
  exact Te (P := Tryz.prog) (J := Jof W ids) (cf := cf0) (ext := ext0) (F := fun x => Cd x.1 x.2) (shs := shs) (by kernel_rfl) (Y4 (libJ hsh hL)) Lp (fun d => by kernel_rfl)
    (fun d hd => pureFnFractions (K1 hd.1).1 (K1 hd.2.1).1 (K1 hd.1).2 (K1 hd.2.1).2) rfl rfl rfl (by kernel_rfl) fits laid
    (fun t ht => by
      have : t = 22 := by simpa using ht
      rcases this with rfl <;> exact ⟨by kernel_rfl, of_decide_eq_true (by kernel_rfl)⟩) rfl
    (fun ds hl => by
      match ds, hl with
      | [_, _], _ => rfl) Zt hval hW hsz
theorem over : Rows.fnFractionsRow.holds Tryz.pinned (OpenSpec.ofChange Rows.fnFractionsSpec) :=
  OpenClaim.holds_of_wide 5 Tryz.f5 rfl rfl rfl rfl rfl rfl rfl ⟨rfl, rfl, rfl, rfl, rfl⟩ rfl rfl rfl rfl rfl (by kernel_rfl) Tryz.func5 (by kernel_rfl)
    (of_decide_eq_true (by kernel_rfl)) (by unfold Func.isWrapper; first | (rw [if_pos (by decide +kernel)]; kernel_rfl) | (rw [if_neg (by decide +kernel)]; exact ⟨rfl, rfl⟩))
    (fun os started H enc _ => lifted os started H enc)
theorem carded : Rows.FnFractionsCardSaid :=
  Claim7.holds_tied_plain_at .later [] [.data, .data, .data] true (true, "13742ff60ebdca116fcfe556ed49df439607de04dc04ac1f6eda776bad92e3f2") true
    over (fun _ h => by cases h) (by kernel_rfl) (fun _ h => by cases h) fnFractions_row_tie rfl ⟨rfl, rfl⟩ (by kernel_rfl) rfl
    (fun f fn hf hfn => by
      obtain rfl : f = 5 := Option.some.inj ((show Tryz.prog.funcNamed "loop.example/g00409/laws.FnFractions" = some 5 by kernel_rfl).symm.trans hf) |>.symm
      obtain rfl : fn = Tryz.f5 := (Option.some.inj (Tryz.func5.symm.trans hfn)).symm
      exact ⟨by kernel_rfl, fun j t ht => by
        rw [show Tryz.f5.params = #[22, 22] from rfl] at ht
        have hm : t ∈ [22, 22] := by simpa using Array.mem_of_getElem? ht
        have hall : ([22, 22].all fun u => !Tryz.prog.wantsStandIn u) = true := by kernel_rfl
        exact (show Tryz.prog.wantsStandIn t = false by simpa using List.all_eq_true.1 hall t hm)⟩)
    (by kernel_rfl)
end Go.Proofs.YtgfchmagglhohaaGreatDoor.Ev
namespace Go.Proofs.YtgfchmagglhohaaGreatDoor
theorem fnFractions_holds : Rows.FnFractionsSaid := Ev.over
theorem fnFractions_card_holds : Rows.FnFractionsCardSaid := Ev.carded
#print axioms fnFractions_card_holds
end Go.Proofs.YtgfchmagglhohaaGreatDoor

end
