/- Whatever comes in, the law of this claim answers true, and nothing that was handed in changes. -/
import Derived.Test.YtgfchmagglhohaaGreatKE
import Derived.Test.YtgfchmagglhohaaGreatRows
import Derived.WalkKit
import Derived.ProofKit
import Derived.OpenShut
import Derived.ShutString
import Derived.ChangeOld
import Derived.Below
import Derived.SizedLaws
import Derived.Test.YtgfchmagglhohaaGreatChecked
section
namespace Go.Proofs.YtgfchmagglhohaaGreat.Ev
open Go
set_option linter.unusedVariables false
set_option linter.unusedSimpArgs false
set_option linter.unusedSectionVars false
abbrev RF := Bool × (List Int × (Bool × List Int))
def rqF (q : Rat) : RF := ((big q.num).1, ((big q.num).2, ((big (q.den : Int)).1, (big (q.den : Int)).2)))
def zF : RF := (false, ([], (false, [])))
theorem rq_n (q : Rat) : ((rqF q).1, (rqF q).2.1) = big q.num := (rfl)
theorem rq_d (q : Rat) : ((rqF q).2.2.1, (rqF q).2.2.2) = big (q.den : Int) := (rfl)
theorem Oj (q : Rat) : (rqF q).2.2 = big (q.den : Int) := (rfl)
theorem rq_e (a : RF) : (a.1, (a.2.1, (a.2.2.1, a.2.2.2))) = a := (rfl)
theorem Zm {x y : Int} {k : Nat} (hy : (y.natAbs : Int) < B k) (h0 : y ≠ 0) : (((Int.gcd x y : Nat) : Int).natAbs : Int) < B k := by
  rw [Int.natAbs_natCast]
  have : Int.gcd x y ≤ y.natAbs := Nat.le_of_dvd (by omega) (Nat.gcd_dvd_right ..)
  omega
theorem Af3 {x y : Int} (h0 : y ≠ 0) : ((Int.gcd x y : Nat) : Int) ≠ 0 := by
  have : 0 < Int.gcd x y := Nat.gcd_pos_of_pos_right _ (by omega)
  omega
theorem EK {x : Int} {k : Nat} (hk : k ≤ 1000000) (h : (x.natAbs : Int) < B k) : Brief (big x).2 := by
  have := Ah.2 h; unfold big Brief; dsimp only; omega
theorem Kr (x : Int) (s : Bool) : (lim (val (big x).2).toNat, s && decide ((val (big x).2).toNat ≠ 0)) = (lim x.natAbs, s && decide (x ≠ 0)) := by
  unfold big
  simp only [Aj, Int.toNat_natCast]
  congr 2
  exact decide_eq_decide.2 (by omega)
theorem TK {x : Int} {k : Nat} (hk : k ≤ 1000000) (h : (x.natAbs : Int) < B k) : DT (big x) = some (big (-x)) := by
  unfold DT
  rw [EW (show LB (big x).2 from Aq _) (EK hk h), Kr]
  simp only [Option.bind_some]
  congr 1
  unfold big
  simp only
  refine Prod.ext ?_ (by simp)
  simp only
  by_cases h0 : x < 0
  · rw [decide_eq_true h0]; simp; omega
  · rw [decide_eq_false h0]; simp only [Bool.not_false, Bool.true_and]; exact decide_eq_decide.2 (by omega)
theorem UI {x : Int} {k : Nat} (hk : k ≤ 1000000) (h : (x.natAbs : Int) < B k) : EL (big x) = some (big (-x)) := by
  unfold EL
  rw [CT (show LB (big x).2 from Aq _) (EK hk h), Kr]
  simp only [Option.bind_some]
  congr 1
  unfold big
  simp only
  refine Prod.ext ?_ (by simp)
  simp only
  by_cases h0 : x < 0
  · rw [decide_eq_true h0]; simp; omega
  · rw [decide_eq_false h0]; simp only [Bool.not_false, Bool.true_and]; exact decide_eq_decide.2 (by omega)
theorem Zp {x : Int} {k : Nat} (hk : k ≤ 1000000) (h : (x.natAbs : Int) < B k) : AP (big x).1 (big x).2 = some ((big x).2, (big x).1) := by
  rw [EW (show LB (big x).2 from Aq _) (EK hk h), Kr]
  congr 1
  unfold big
  simp only
  refine Prod.ext rfl ?_
  simp only
  by_cases h0 : x < 0
  · rw [decide_eq_true h0]; simp; omega
  · rw [decide_eq_false h0]; rfl
theorem Zd {n : Nat} {k : Nat} (hk : k ≤ 1000000) (h : (n : Int) < B k) : AP false (big (n : Int)).2 = some ((big (n : Int)).2, (big (n : Int)).1) := by
  have := Zp (x := (n : Int)) hk (natB h)
  rwa [show (big (n : Int)).1 = false by rw [FI]] at this ⊢
theorem ST {x : Int} {k : Nat} (hk : k ≤ 1000000) (h : (x.natAbs : Int) < B k) : AH (big x).1 (big x).2 = some ((big x).2, (big x).1) := by
  rw [CT (show LB (big x).2 from Aq _) (EK hk h), Kr]
  congr 1
  unfold big
  simp only
  refine Prod.ext rfl ?_
  simp only
  by_cases h0 : x < 0
  · rw [decide_eq_true h0]; simp; omega
  · rw [decide_eq_false h0]; rfl
theorem Ab6 {n : Nat} {k : Nat} (hk : k ≤ 1000000) (h : (n : Int) < B k) : AH false (big (n : Int)).2 = some ((big (n : Int)).2, (big (n : Int)).1) := by
  have := ST (x := (n : Int)) hk (natB h)
  rwa [show (big (n : Int)).1 = false by rw [FI]] at this ⊢
theorem PH {x y : Int} {k : Nat} (hk : k ≤ 90000) (hx : (x.natAbs : Int) < B k) (hy : (y.natAbs : Int) < B k) (h0 : y ≠ 0) : D2 (big x) (big y) = some (rqF (Rat.divInt x y)) := by
  obtain ⟨p1, p2⟩ := Ij (x := x) h0
  have hg := Zm (x := x) hy h0
  have hg0 := Af3 (x := x) h0
  unfold D2
  simp only [peta, S8 hk hx hy, Option.bind_some]
  rw [show (big y).1 = decide (y < 0) from rfl]
  by_cases hn : y < 0
  · rw [if_pos hn] at p1 p2
    rw [decide_eq_true hn]
    simp only [cond_true, TK (show k ≤ 1000000 by omega) hg, Option.bind_some, Sum.elim_inr, Kz hk hx (negB hg) (by omega), Kz hk hy (negB hg) (by omega), p1, p2]
    rfl
  · rw [if_neg hn] at p1 p2
    rw [decide_eq_false hn]
    simp only [cond_false, Option.bind_some, Sum.elim_inr, Kz hk hx hg hg0, Kz hk hy hg hg0, p1, p2]
    rfl
theorem Xp (q : Rat) : (q.den : Int) ≠ 0 := by have := q.den_nz; omega
theorem Iw (p q : Rat) : (p.den : Int) * (q.den : Int) ≠ 0 := fun h => by rcases Int.mul_eq_zero.1 h with h | h <;> exact Xp _ h
theorem Yk {x y : Int} {k : Nat} (hk : k ≤ 1000000) (hx : (x.natAbs : Int) < B k) (hy : (y.natAbs : Int) < B k) : Ez (big x) (big y) = some (cmpZ x y) := by
  have lx := DS hx hk
  have ly := DS hy hk
  have e1 := LR (a := x.natAbs) (b := y.natAbs) (by unfold Brief; omega) (by unfold Brief; omega)
  have e2 := LR (a := y.natAbs) (b := x.natAbs) (by unfold Brief; omega) (by unfold Brief; omega)
  unfold Ez
  rw [show (big x).1 = decide (x < 0) from rfl, show (big y).1 = decide (y < 0) from rfl, show (big x).2 = lim x.natAbs from rfl, show (big y).2 = lim y.natAbs from rfl, e1, e2]
  by_cases h1 : x < 0
  · by_cases h2 : y < 0
    · rw [decide_eq_true h1, decide_eq_true h2]
      simp only [cond_true, cond_false, Bool.not_true, Option.bind_some]
      congr 1
      rcases BI x y with ⟨e, h⟩ | ⟨e, h⟩ | ⟨e, h⟩
      · rw [e]; exact CO (by omega)
      · rw [e]; exact EX (by omega)
      · rw [e, h]; exact Ko _
    · rw [decide_eq_true h1, decide_eq_false h2, CO (show x < y by omega)]; rfl
  · by_cases h2 : y < 0
    · rw [decide_eq_false h1, decide_eq_true h2, EX (show y < x by omega)]; rfl
    · rw [decide_eq_false h1, decide_eq_false h2]
      simp only [cond_true, cond_false, Bool.not_false, Option.bind_some]
      congr 1
      rcases BI x y with ⟨e, h⟩ | ⟨e, h⟩ | ⟨e, h⟩
      · rw [e]; exact CO (by omega)
      · rw [e]; exact EX (by omega)
      · rw [e, h]; exact Ko _
section
variable {p q : Rat} {k : Nat} (hk : k ≤ 20000) (hp : Sz k p) (hq : Sz k q)
include hk hp hq
theorem J9 : Ch (rqF p) (rqF q) = some (rqF (p + q)) := by
  obtain ⟨r1, a1, b1⟩ := B7 (k := k) (by omega) hp.1 (natB hq.2)
  obtain ⟨r2, a2, b2⟩ := B7 (k := k) (by omega) hq.1 (natB hp.2)
  obtain ⟨r3, a3, b3⟩ := B7 (k := k) (by omega) (natB hp.2) (natB hq.2)
  unfold Ch
  simp only [rq_n, rq_d, Oj, a1, a2, a3, b1, b2, b3, Option.bind_some]
  rw [Ab7 (k := k + k) (by omega) (mulB hp.1 (natB hq.2)) (mulB hq.1 (natB hp.2))]
  simp only [Option.bind_some, peta]
  rw [PH (k := k + k + 1) (by omega) (M0 hp hq) (upB (mulB (natB hp.2) (natB hq.2)) (by omega)) (Iw p q), ← Ai8]
  rfl
theorem EM : Bm (rqF p) (rqF q) = some (rqF (p * q)) := by
  obtain ⟨r1, a1, b1⟩ := B7 (k := k) (by omega) hp.1 hq.1
  obtain ⟨r3, a3, b3⟩ := B7 (k := k) (by omega) (natB hp.2) (natB hq.2)
  unfold Bm
  simp only [rq_n, rq_d, Oj, a1, a3, b1, b3, Option.bind_some]
  rw [PH (k := k + k) (by omega) (mulB hp.1 hq.1) (mulB (natB hp.2) (natB hq.2)) (Iw p q), ← Ah2]
  rfl
theorem SN (h0 : q ≠ 0) : D8 (rqF p) (rqF q) = some (rqF (p / q)) := by
  obtain ⟨r1, a1, b1⟩ := B7 (k := k) (by omega) hp.1 (natB hq.2)
  obtain ⟨r3, a3, b3⟩ := B7 (k := k) (by omega) (natB hp.2) hq.1
  unfold D8
  simp only [rq_n, rq_d, Oj, a1, a3, b1, b3, Option.bind_some]
  rw [PH (k := k + k) (by omega) (mulB hp.1 (natB hq.2)) (mulB (natB hp.2) hq.1) (by
    intro h
    rcases Int.mul_eq_zero.1 h with h | h
    · exact Xp _ h
    · exact h0 (Rat.num_eq_zero.1 h)), ← Ag6]
  rfl
theorem HX : BL (rqF p) (rqF q) = some (cmpQ p q) := by
  obtain ⟨r1, a1, b1⟩ := B7 (k := k) (by omega) hp.1 (natB hq.2)
  obtain ⟨r2, a2, b2⟩ := B7 (k := k) (by omega) hq.1 (natB hp.2)
  unfold BL
  simp only [rq_n, rq_d, Oj, a1, a2, b1, b2, Option.bind_some]
  rw [L9 (k := k + k) (by omega) (mulB hp.1 (natB hq.2)) (mulB hq.1 (natB hp.2)), Zf]
  rfl
theorem Lq : Ct (rqF p) (rqF q) = some (decide (p < q)) := by
  unfold Ct
  simp only [rq_e, HX hk hp hq, Option.bind_some]
  congr 1
  exact decide_eq_decide.2 LY
theorem H0 : CI (rqF p) (rqF q) = some (cmpQ p q) := by
  unfold CI
  simp only [rq_n, rq_d, Oj, FN (k := k) (by omega) hp.1 (natB hq.2), FN (k := k) (by omega) hq.1 (natB hp.2), Option.bind_some, peta]
  rw [Yk (k := k + k) (by omega) (mulB hp.1 (natB hq.2)) (mulB hq.1 (natB hp.2)), Zf]
  rfl
end
theorem Z9 {q : Rat} {k : Nat} (hk : k ≤ 1000000) (hq : Sz k q) : Fn (rqF q) = some (rqF (-q)) := by
  unfold Fn
  simp only [rq_n, TK hk hq.1, Option.bind_some]
  rw [show (rqF q).2.2.2 = (big (q.den : Int)).2 from rfl, Zd hk hq.2]
  rfl
theorem Kl {p q : Rat} {k : Nat} (hk : k ≤ 20000) (hp : Sz k p) (hq : Sz k q) : Cl (rqF p) (rqF q) = some (rqF (p - q)) := by
  unfold Cl
  simp only [rq_e, Z9 (k := k) (by omega) hq, Option.bind_some, J9 hk hp (Ye hq)]
  rw [Rat.sub_eq_add_neg]
theorem BigOf1 : BS (1 : Int) = some (big 1) := LN (by omega) (by omega)
theorem Al6 : Dl (1 : Int) = some (big 1) := PA (by omega) (by omega)
theorem YU {n : Int} (h1 : -9223372036854775808 ≤ n) (h2 : n ≤ 9223372036854775807) : B5 n = some (rqF (n : Rat)) := by
  unfold B5
  simp only [LN h1 h2, BigOf1, Option.bind_some]
  rfl
theorem YY {n : Int} (h1 : -9223372036854775808 ≤ n) (h2 : n ≤ 9223372036854775807) : Cg n = some (rqF (n : Rat)) := by
  unfold Cg
  simp only [PA h1 h2, Al6, Option.bind_some]
  rfl
theorem Aq8 {k : Nat} (hk : 1 ≤ k) : (((1 : Int).natAbs : Nat) : Int) < B k := by
  have := Hc hk
  rw [B1] at this
  omega
def BrF (a : RF) : Prop := Brief a.2.1 ∧ Brief a.2.2.2
def toQ (a : RF) : (Bool × List Int) × (Bool × List Int) := ((a.1, a.2.1), (a.2.2.1, a.2.2.2))
theorem Gb {q : Rat} {k : Nat} (hk : k ≤ 1000000) (h : Sz k q) : BrF (rqF q) := ⟨EK hk h.1, EK hk (natB h.2)⟩
theorem Ap3 {y : Int} : (!(big y).1 && !(big y).2.isEmpty) = decide (0 < y) := by
  unfold big
  simp only
  have := Hl y.natAbs
  rw [this]
  by_cases h : 0 < y
  · rw [decide_eq_true h, decide_eq_false (by omega), decide_eq_true (by omega)]; rfl
  · rw [decide_eq_false h]
    by_cases h0 : y = 0
    · subst h0; rfl
    · rw [decide_eq_true (show y < 0 by omega)]; rfl
theorem TW {x y : Int} (hx : (x.natAbs : Int) < B 40) (hy : (y.natAbs : Int) < B 40) : goodQ (big x, big y) = (decide (0 < y) && decide (Int.gcd x y = 1)) := by
  unfold goodQ
  simp only [Kb hx, Kb hy, Bool.true_and, Ap3]
  unfold big
  simp only [Aj, Int.toNat_natCast]
  rfl
theorem P2 {g : Nat} : (cmpZ (g : Int) 1 == 0) = decide (g = 1) := by
  rcases BI (g : Int) 1 with ⟨e, h⟩ | ⟨e, h⟩ | ⟨e, h⟩
  · rw [e, decide_eq_false (by omega)]; rfl
  · rw [e, decide_eq_false (by omega)]; rfl
  · rw [e, decide_eq_true (by omega)]; rfl
theorem Mc (y : Int) : ((((big y).2.length : Nat) : Int) == (0 : Int)) = decide (y = 0) := by
  rw [Bool.eq_iff_iff]
  simp only [beq_iff_eq, decide_eq_true_eq]
  unfold big
  constructor
  · intro h
    have := FH.1 (List.eq_nil_of_length_eq_zero (show (lim y.natAbs).length = 0 by simpa using h))
    omega
  · rintro rfl
    rw [show (0 : Int).natAbs = 0 from rfl, A7]; rfl
theorem SW {a : RF} (h : BrF a) : D9 a = some (goodQ (toQ a)) := by
  obtain ⟨n, nl, d, dl⟩ := a
  unfold D9 toQ
  simp only
  have hl : EE [(n, nl), (d, dl)] = some (goodB (n, nl) && goodB (d, dl)) := by
    rw [Aj9 (by simp) (by intro b hb; simp at hb; rcases hb with rfl | rfl; exact h.1; exact h.2)]
    simp
  rw [hl]
  simp only [Option.bind_some]
  cases hg : goodB (n, nl) && goodB (d, dl) with
  | false => unfold goodQ; simp only [hg, Bool.false_and, cond_false]
  | true =>
    rw [Bool.and_eq_true] at hg
    obtain ⟨x, hx, e1⟩ := Dc.1 hg.1
    obtain ⟨y, hy, e2⟩ := Dc.1 hg.2
    simp only [e1, e2, cond_true, XV, Option.bind_some, TW hx hy]
    rcases BI y 0 with ⟨e, g⟩ | ⟨e, g⟩ | ⟨e, g⟩
    · rw [e, decide_eq_false (show ¬ 0 < y by omega)]; rfl
    · rw [e, decide_eq_true (show 0 < y by omega)]
      simp only [show decide ((1 : Int) > 0) = true from rfl, cond_true, S8 (k := 40) (by omega) hx hy, BigOf1, Option.bind_some, peta, Bool.true_and]
      rw [L9 (k := 40) (by omega) (Zm hy (by omega)) (Aq8 (by omega))]
      simp only [Option.bind_some, P2]
    · rw [e, decide_eq_false (show ¬ 0 < y by omega)]; rfl
theorem Kq {a : RF} (h : BrF a) : Cr a = some (goodQ (toQ a)) := by
  obtain ⟨n, nl, d, dl⟩ := a
  unfold Cr toQ
  simp only
  rw [Kp h.1]
  simp only [Option.bind_some]
  cases h1 : goodB (n, nl) with
  | false => unfold goodQ; simp only [h1, Bool.false_and, Bool.not_false, cond_true]
  | true =>
    simp only [Bool.not_true, cond_false]
    rw [Kp h.2]
    simp only [Option.bind_some]
    cases h2 : goodB (d, dl) with
    | false => unfold goodQ; simp only [h1, h2, Bool.and_false, Bool.false_and, Bool.not_false, cond_true]
    | true =>
      obtain ⟨x, hx, e1⟩ := Dc.1 h1
      obtain ⟨y, hy, e2⟩ := Dc.1 h2
      have f1 : nl = (big x).2 := congrArg Prod.snd e1
      have f2 : dl = (big y).2 := congrArg Prod.snd e2
      have f3 : d = (big y).1 := congrArg Prod.fst e2
      simp only [Bool.not_true, cond_false]
      rw [e1, e2, TW hx hy, f3, show (big y).1 = decide (y < 0) from rfl]
      by_cases hy0 : y < 0
      · rw [decide_eq_true hy0, decide_eq_false (show ¬ 0 < y by omega)]; rfl
      · rw [decide_eq_false hy0]
        simp only [cond_false]
        rw [f2, Mc]
        by_cases h0 : y = 0
        · rw [decide_eq_true h0, decide_eq_false (show ¬ 0 < y by omega)]; rfl
        · rw [decide_eq_false h0, decide_eq_true (show 0 < y by omega)]
          simp only [cond_false]
          rw [f1, YX (k := 40) (by omega) hx hy]
          simp only [Option.bind_some]
          have hl1 : ([1] : List Int) = lim 1 := by rw [P6 (by omega), A7]; rfl
          have hgb := Ah.2 (show ((Int.gcd x y : Nat) : Int) < B 40 by have := Zm (x := x) hy h0; rwa [Int.natAbs_natCast] at this)
          rw [hl1, LR (by unfold Brief; omega) (by rw [← hl1]; unfold Brief; simp)]
          simp only [Option.bind_some, P2, Bool.true_and]
          exact congrArg some P2
theorem F3 {q : Rat} (h : Sz 40 q) : goodQ (toQ (rqF q)) = true := Af5 h
theorem Px {a : RF} (h : goodQ (toQ a) = true) : ∃ q, Sz 40 q ∧ a = rqF q := by
  obtain ⟨q, h1, h2⟩ := S6.1 h
  refine ⟨q, h1, ?_⟩
  have e1 := congrArg Prod.fst h2
  have e2 := congrArg Prod.snd h2
  obtain ⟨n, nl, d, dl⟩ := a
  unfold toQ rq at e1 e2
  simp only at e1 e2
  unfold rqF
  rw [← e1, ← e2]
theorem Nr {l : List ((Bool × List Int) × (Bool × List Int))} (hl : l.length ≤ 1000) (hb : ∀ a ∈ l, Brief a.1.2 ∧ Brief a.2.2) : BB l = some (l.all goodQ) := by
  unfold BB
  obtain ⟨h1, h2⟩ := Ai6 (l := l) (body := fun (s : (List ((Bool × (List Int)) × (Bool × (List Int)))) × (Int × Int)) => E5 s.1 s.2.1 s.2.2)
    (st := fun k (_ : Unit) => (l, ((l.length : Int), (k : Int)))) (step := fun _ a => if goodQ a then .inr () else .inl (.inr false)) (fin := fun _ => .inl ()) (I := fun _ _ => True)
    (by
      rintro k b a hk _
      have hkl := getL hk
      unfold E5
      have ha := hb a (List.mem_of_getElem? hk)
      simp only [decide_eq_true (show (k : Int) < (l.length : Int) by omega), cond_true, Am, hk, Option.bind_some]
      rw [SW (a := (a.1.1, (a.1.2, (a.2.1, a.2.2)))) ha]
      simp only [Option.bind_some, toQ, peta]
      cases hg : goodQ a with
      | true => left; exact ⟨(), by simp, by simp only [Bool.not_true, cond_false]; rw [wrapI (by omega) (by omega)]; rfl, trivial⟩
      | false => right; exact ⟨.inr false, by simp, by simp only [Bool.not_false, cond_true]⟩)
    (by
      rintro b _
      unfold E5
      simp) () trivial
  rw [show ((0 : Nat) : Int) = 0 from rfl] at h1
  rw [h1]
  have key : ∀ (m : List ((Bool × List Int) × (Bool × List Int))), foldX (ρ := Unit ⊕ Bool) (fun (_ : Unit) a => if goodQ a then .inr () else .inl (.inr false)) () m = if m.all goodQ then .inr () else .inl (.inr false) := by
    intro m
    induction m with
    | nil => rfl
    | cons a m ih =>
      unfold foldX
      rw [List.all_cons]
      cases hg : goodQ a with
      | true => simp only [if_true, Bool.true_and]; exact ih
      | false => simp
  rw [key]
  cases l.all goodQ <;> rfl
def fitsQ (q : Rat) : RF × Bool := if Sz 40 q then (rqF q, true) else (zF, false)
theorem M1 {q : Rat} {n : Nat} : Bu (rqF q) (n : Int) = some (decide (Sz n q)) := by
  unfold Bu
  have e1 : ((((rqF q).2.1.length : Nat) : Int) ≤ (n : Int)) ↔ ((q.num.natAbs : Int) < B n) := by rw [← Ah]; exact Int.ofNat_le
  have e2 : ((((rqF q).2.2.2.length : Nat) : Int) ≤ (n : Int)) ↔ ((q.den : Int) < B n) := by
    have : (rqF q).2.2.2 = lim q.den := by show (big (q.den : Int)).2 = _; rw [FI]
    rw [this, ← Ah]; exact Int.ofNat_le
  unfold Sz
  by_cases h1 : (q.num.natAbs : Int) < B n
  · rw [decide_eq_true (e1.2 h1)]
    simp only [cond_true, decide_eq_decide.2 e2, h1, true_and]
  · rw [decide_eq_false (fun h => h1 (e1.1 h))]
    simp [h1]
theorem FK (q : Rat) : Br (rqF q) = some (fitsQ q) := by
  unfold Br fitsQ
  simp only [rq_e]
  rw [show (40 : Int) = ((40 : Nat) : Int) from rfl, M1]
  by_cases h : Sz 40 q
  · simp [h]
  · simp [h]; rfl
end Go.Proofs.YtgfchmagglhohaaGreat.Ev

end
section
namespace Go.Proofs.YtgfchmagglhohaaGreat.Ev
open Go
set_option linter.unusedVariables false
set_option linter.unusedSimpArgs false
set_option linter.unusedSectionVars false
theorem Ao9 {x y : Int} {k : Nat} (hk : k ≤ 1000000) (hx : (x.natAbs : Int) < B k) (hy : (y.natAbs : Int) < B k) : HF (big x) (big y) = some (big (x + y)) := by
  have lx := DS hx hk
  have ly := DS hy hk
  unfold HF big
  simp only
  by_cases hs : decide (x < 0) = decide (y < 0)
  · rw [hs, beq_self_eq_true]
    obtain ⟨r, e1, e2, e3, e4, _⟩ := Uc (Aq x.natAbs) (Aq y.natAbs) (by omega) (by omega)
    rw [Aj, Aj] at e3
    simp only [cond_true, e1, Option.bind_some]
    rw [CT e2 (by unfold Brief; omega)]
    simp only [Option.bind_some]
    have hv : (val r).toNat = (x + y).natAbs := by
      by_cases h1 : x < 0
      · have : y < 0 := by simpa [h1] using hs
        omega
      · have : ¬ y < 0 := by simpa [h1] using hs
        omega
    rw [hv]
    congr 2
    by_cases h2 : y < 0
    · have h1 : x < 0 := by simpa [h2] using hs
      rw [decide_eq_true h2, decide_eq_true (show x + y < 0 by omega), decide_eq_true (show (x + y).natAbs ≠ 0 by omega)]; rfl
    · have h1 : ¬ x < 0 := by simpa [h2] using hs
      rw [decide_eq_false h2, decide_eq_false (show ¬ x + y < 0 by omega)]; rfl
  · have hb : (decide (x < 0) == decide (y < 0)) = false := by simpa using hs
    rw [hb]
    simp only [cond_false]
    rw [LR (by unfold Brief; omega) (by unfold Brief; omega)]
    simp only [Option.bind_some]
    have hxy : (x < 0 ∧ ¬ y < 0) ∨ (¬ x < 0 ∧ y < 0) := by
      by_cases h1 : x < 0 <;> by_cases h2 : y < 0 <;> simp [h1, h2] at hs ⊢
    rcases Nat.lt_or_ge x.natAbs y.natAbs with hlt | hge
    · rw [CO (by omega), decide_eq_false (by omega)]
      simp only [cond_false]
      have hl : (lim x.natAbs).length ≤ (lim y.natAbs).length := Ah.2 (by have := Ah.1 (Nat.le_refl (lim y.natAbs).length); omega)
      rw [Lw (Aq _) (Aq _) hl (by omega) (by rw [Aj, Aj]; omega)]
      simp only [Option.bind_some, Aj]
      have e : ((y.natAbs : Int) - (x.natAbs : Int)).toNat = (x + y).natAbs := by omega
      rw [e, CT (Aq _) (by
        have : (lim (x + y).natAbs).length ≤ (lim y.natAbs).length := Ah.2 (by have := Ah.1 (Nat.le_refl (lim y.natAbs).length); omega)
        unfold Brief; omega)]
      simp only [Option.bind_some, Aj, Int.toNat_natCast]
      congr 2
      by_cases h2 : y < 0
      · rw [decide_eq_true h2, decide_eq_true (show x + y < 0 by omega), decide_eq_true (show (x + y).natAbs ≠ 0 by omega)]; rfl
      · rw [decide_eq_false h2, decide_eq_false (show ¬ x + y < 0 by omega)]; rfl
    · have hc : cmpZ (x.natAbs : Int) (y.natAbs : Int) ≥ 0 := by unfold cmpZ; rw [if_neg (by omega)]; split <;> omega
      rw [decide_eq_true hc]
      simp only [cond_true]
      have hl : (lim y.natAbs).length ≤ (lim x.natAbs).length := Ah.2 (by have := Ah.1 (Nat.le_refl (lim x.natAbs).length); omega)
      rw [Lw (Aq _) (Aq _) hl (by omega) (by rw [Aj, Aj]; omega)]
      simp only [Option.bind_some, Aj]
      have e : ((x.natAbs : Int) - (y.natAbs : Int)).toNat = (x + y).natAbs := by omega
      rw [e, CT (Aq _) (by
        have : (lim (x + y).natAbs).length ≤ (lim x.natAbs).length := Ah.2 (by have := Ah.1 (Nat.le_refl (lim x.natAbs).length); omega)
        unfold Brief; omega)]
      simp only [Option.bind_some, Aj, Int.toNat_natCast]
      congr 2
      by_cases h2 : x < 0
      · rw [decide_eq_true h2]
        by_cases h3 : x + y < 0
        · rw [decide_eq_true h3, decide_eq_true (show (x + y).natAbs ≠ 0 by omega)]; rfl
        · rw [decide_eq_false h3, decide_eq_false (show ¬ (x + y).natAbs ≠ 0 by omega)]; rfl
      · rw [decide_eq_false h2, decide_eq_false (show ¬ x + y < 0 by omega)]; rfl
theorem I1 {x y : Int} {k : Nat} (hk : k ≤ 90000) (hx : (x.natAbs : Int) < B k) (hy : (y.natAbs : Int) < B k) (h0 : y ≠ 0) : Cw (big x) (big y) = some (rqF (Rat.divInt x y)) := by
  obtain ⟨p1, p2⟩ := Ij (x := x) h0
  have hg := Zm (x := x) hy h0
  have hg0 := Af3 (x := x) h0
  have hl : (lim (Int.gcd x y)).length ≤ k := Ah.2 (by rwa [Int.natAbs_natCast] at hg)
  unfold Cw
  rw [YX hk hx hy]
  simp only [Option.bind_some]
  rw [CT (Aq _) (by unfold Brief; omega), Aj, Int.toNat_natCast]
  simp only [Option.bind_some, Bool.false_and]
  rw [← FI]
  simp only [peta, Y4 hk hx hg hg0, Y4 hk hy hg hg0, Option.bind_some]
  have t1 := PC x (Int.gcd x y : Nat)
  have t2 := PC y (Int.gcd x y : Nat)
  obtain ⟨c, hc⟩ : ((Int.gcd x y : Nat) : Int) ∣ y := Int.gcd_dvd_right ..
  have e2 : y.tdiv (Int.gcd x y : Nat) = c := by conv => lhs; lhs; rw [hc]
                                                 exact Int.mul_tdiv_cancel_left _ hg0
  have hsg : (y < 0) ↔ c < 0 := by
    have hp : (0 : Int) < (Int.gcd x y : Nat) := by omega
    generalize ((Int.gcd x y : Nat) : Int) = g at *
    constructor
    · intro h
      rcases Int.lt_or_le c 0 with e | e
      · exact e
      · have := Int.mul_nonneg (Int.le_of_lt hp) e; omega
    · intro h; have := Int.mul_neg_of_pos_of_neg hp h; omega
  rw [show (big (y.tdiv (Int.gcd x y : Nat))).1 = decide (y.tdiv (Int.gcd x y : Nat) < 0) from rfl]
  by_cases hn : y < 0
  · rw [if_pos hn, Int.tdiv_neg] at p1 p2
    rw [decide_eq_true (by rw [e2]; exact hsg.1 hn)]
    simp only [cond_true]
    rw [UI (show k ≤ 1000000 by omega) (by omega), UI (show k ≤ 1000000 by omega) (by omega)]
    simp only [Option.bind_some, p1, p2]
    rfl
  · rw [if_neg hn] at p1 p2
    rw [decide_eq_false (by rw [e2]; exact fun h => hn (hsg.2 h))]
    simp only [cond_false, p1, p2]
    rfl
theorem Aq2 {q : Rat} {k : Nat} (hk : k ≤ 1000000) (hq : Sz k q) : Hq (rqF q) = some (rqF (-q)) := by
  unfold Hq
  simp only [rq_n, UI hk hq.1, Option.bind_some]
  rfl
section
variable {p q : Rat} {k : Nat} (hk : k ≤ 20000) (hp : Sz k p) (hq : Sz k q)
include hk hp hq
theorem UE : ET (rqF p) (rqF q) = some (rqF (p + q)) := by
  unfold ET
  simp only [rq_n, rq_d, Oj, FN (k := k) (by omega) hp.1 (natB hq.2), FN (k := k) (by omega) hq.1 (natB hp.2), FN (k := k) (by omega) (natB hp.2) (natB hq.2), Option.bind_some, peta]
  rw [Ao9 (k := k + k) (by omega) (mulB hp.1 (natB hq.2)) (mulB hq.1 (natB hp.2))]
  simp only [Option.bind_some, peta]
  rw [I1 (k := k + k + 1) (by omega) (M0 hp hq) (upB (mulB (natB hp.2) (natB hq.2)) (by omega)) (Iw p q), ← Ai8]
  rfl
theorem Ky : CG (rqF p) (rqF q) = some (rqF (p * q)) := by
  unfold CG
  simp only [rq_n, rq_d, Oj, FN (k := k) (by omega) hp.1 hq.1, FN (k := k) (by omega) (natB hp.2) (natB hq.2), Option.bind_some, peta]
  rw [I1 (k := k + k) (by omega) (mulB hp.1 hq.1) (mulB (natB hp.2) (natB hq.2)) (Iw p q), ← Ah2]
  rfl
theorem Y8 (h0 : q ≠ 0) : FU (rqF p) (rqF q) = some (rqF (p / q)) := by
  unfold FU
  simp only [rq_n, rq_d, Oj, FN (k := k) (by omega) hp.1 (natB hq.2), FN (k := k) (by omega) (natB hp.2) hq.1, Option.bind_some, peta]
  rw [I1 (k := k + k) (by omega) (mulB hp.1 (natB hq.2)) (mulB (natB hp.2) hq.1) (by
    intro h
    rcases Int.mul_eq_zero.1 h with h | h
    · exact Xp _ h
    · exact h0 (Rat.num_eq_zero.1 h)), ← Ag6]
  rfl
end
theorem Uq {p q : Rat} {k : Nat} (hk : k ≤ 20000) (hp : Sz k p) (hq : Sz k q) : EU (rqF p) (rqF q) = some (rqF (p - q)) := by
  unfold EU
  simp only [rq_e, Aq2 (k := k) (by omega) hq, Option.bind_some, UE hk hp (Ye hq)]
  rw [Rat.sub_eq_add_neg]
theorem PV {q : Rat} {k : Nat} (hk : k ≤ 1000000) (hq : Sz k q) : DR (rqF q) = some (fitsQ q) := by
  unfold DR fitsQ
  have e1 : ((((rqF q).2.1.length : Nat) : Int) > 40) ↔ ¬ ((q.num.natAbs : Int) < B 40) := by
    rw [← Ah]
    show ((((lim q.num.natAbs).length : Nat) : Int) > 40) ↔ _
    omega
  have e2 : ((((rqF q).2.2.2.length : Nat) : Int) > 40) ↔ ¬ ((q.den : Int) < B 40) := by
    rw [← Ah]
    have : (rqF q).2.2.2 = lim q.den := by show (big (q.den : Int)).2 = _; rw [FI]
    rw [this]
    omega
  by_cases h1 : (q.num.natAbs : Int) < B 40
  · rw [decide_eq_false (fun h => e1.1 h h1)]
    by_cases h2 : (q.den : Int) < B 40
    · rw [decide_eq_false (fun h => e2.1 h h2), if_pos ⟨h1, h2⟩]
      simp only [cond_false]
      rw [show (rqF q).1 = (big q.num).1 from rfl, show (rqF q).2.1 = (big q.num).2 from rfl, show (rqF q).2.2.2 = (big (q.den : Int)).2 from rfl, ST (k := 40) (by omega) h1, Ab6 (k := 40) (by omega) h2]
      rfl
    · rw [decide_eq_true (e2.2 h2), if_neg (fun h => h2 h.2)]; rfl
  · rw [decide_eq_true (e1.2 h1), if_neg (fun h => h1 h.1)]; rfl
theorem EI {q : Rat} (h : Sz 40 q) : fitsQ q = (rqF q, true) := if_pos h
theorem FQ {q : Rat} (h : ¬ Sz 40 q) : fitsQ q = (zF, false) := if_neg h
theorem As8 {a b : RF} (ha : BrF a) (hb : BrF b) : BB [((a.1, a.2.1), (a.2.2.1, a.2.2.2)), ((b.1, b.2.1), (b.2.2.1, b.2.2.2))] = some (goodQ (toQ a) && goodQ (toQ b)) := by
  rw [Nr (by simp) (by intro x hx; simp at hx; rcases hx with rfl | rfl; exact ha; exact hb)]
  simp [toQ]
theorem V6 {a b : RF} (ha : BrF a) (hb : BrF b) : EJ a b = some (goodQ (toQ a) && goodQ (toQ b)) := by
  unfold EJ
  simp only [rq_e, Kq ha, Kq hb, Option.bind_some]
  cases goodQ (toQ a) <;> rfl
section
variable {p q : Rat} (hp : Sz 40 p) (hq : Sz 40 q)
include hp hq
theorem UX : BB [(((rqF p).1, (rqF p).2.1), ((rqF p).2.2.1, (rqF p).2.2.2)), (((rqF q).1, (rqF q).2.1), ((rqF q).2.2.1, (rqF q).2.2.2))] = some true := by
  rw [As8 (Gb (k := 40) (by omega) hp) (Gb (k := 40) (by omega) hq), F3 hp, F3 hq]; rfl
theorem Al3 : FY (rqF p) (rqF q) = some (fitsQ (p + q)) := by
  unfold FY
  rw [UX hp hq]
  simp only [obs, nT, cF, peta, J9 (k := 40) (by omega) hp hq, FK]
theorem Ak9 : F5 (rqF p) (rqF q) = some (fitsQ (p - q)) := by
  unfold F5
  rw [UX hp hq]
  simp only [obs, nT, cF, peta, Kl (k := 40) (by omega) hp hq, FK]
theorem Al0 : Gu (rqF p) (rqF q) = some (fitsQ (p * q)) := by
  unfold Gu
  rw [UX hp hq]
  simp only [obs, nT, cF, peta, EM (k := 40) (by omega) hp hq, FK]
theorem Ao6 : EJ (rqF p) (rqF q) = some true := by
  rw [V6 (Gb (k := 40) (by omega) hp) (Gb (k := 40) (by omega) hq), F3 hp, F3 hq]; rfl
end
section
variable {a b : RF} (ha : BrF a) (hb : BrF b) (h : (goodQ (toQ a) && goodQ (toQ b)) = false)
include ha hb h
end
def ratOfV (n d : Int) : RF × Bool := if d = 0 ∨ ¬ n.natAbs ≤ 4611686018427387904 ∨ ¬ d.natAbs ≤ 4611686018427387904 then (zF, false) else (rqF (Rat.divInt n d), true)
theorem B4 : B 4 = 18446744073709551616 := rfl
theorem Am8 (n d : Int) : FX n d = some (ratOfV n d) := by
  unfold FX ratOfV
  by_cases h0 : d = 0
  · rw [if_pos (.inl h0), h0]; rfl
  · rw [show (d == 0) = false from beq_eq_false_iff_ne.2 h0]
    simp only [cond_false, Nn, Option.bind_some]
    by_cases h1 : n.natAbs ≤ 4611686018427387904
    · rw [show (decide (-4611686018427387904 ≤ n) && decide (n ≤ 4611686018427387904)) = true by simp; omega]
      by_cases h2 : d.natAbs ≤ 4611686018427387904
      · rw [show (decide (-4611686018427387904 ≤ d) && decide (d ≤ 4611686018427387904)) = true by simp; omega, if_neg (by omega)]
        simp only [Bool.not_true, cond_false, LN (n := n) (by omega) (by omega), LN (n := d) (by omega) (by omega), Option.bind_some, peta, PH (k := 4) (by omega) (x := n) (y := d) (by rw [B4]; omega) (by rw [B4]; omega) h0]
      · rw [show (decide (-4611686018427387904 ≤ d) && decide (d ≤ 4611686018427387904)) = false by
          rw [Bool.and_eq_false_iff]; simp only [decide_eq_false_iff_not]; omega, if_pos (.inr (.inr h2))]
        rfl
    · rw [show (decide (-4611686018427387904 ≤ n) && decide (n ≤ 4611686018427387904)) = false by
        rw [Bool.and_eq_false_iff]; simp only [decide_eq_false_iff_not]; omega, if_pos (.inr (.inl h1))]
      rfl
theorem Ao5 (n d : Int) : HK n d = some (ratOfV n d) := by
  unfold HK ratOfV
  simp only [Ug, Option.bind_some]
  by_cases h1 : n.natAbs ≤ 4611686018427387904
  · rw [show (decide (-4611686018427387904 ≤ n) && decide (n ≤ 4611686018427387904)) = true by simp; omega]
    by_cases h2 : d.natAbs ≤ 4611686018427387904
    · rw [show (decide (-4611686018427387904 ≤ d) && decide (d ≤ 4611686018427387904)) = true by simp; omega]
      by_cases h0 : d = 0
      · rw [if_pos (.inl h0), h0]; rfl
      · rw [show (d == 0) = false from beq_eq_false_iff_ne.2 h0, if_neg (by omega)]
        simp only [Bool.not_true, cond_false, PA (n := n) (by omega) (by omega), PA (n := d) (by omega) (by omega), Option.bind_some, peta, I1 (k := 4) (by omega) (x := n) (y := d) (by rw [B4]; omega) (by rw [B4]; omega) h0]
    · rw [show (decide (-4611686018427387904 ≤ d) && decide (d ≤ 4611686018427387904)) = false by
        rw [Bool.and_eq_false_iff]; simp only [decide_eq_false_iff_not]; omega, if_pos (.inr (.inr h2))]
      rfl
  · rw [show (decide (-4611686018427387904 ≤ n) && decide (n ≤ 4611686018427387904)) = false by
      rw [Bool.and_eq_false_iff]; simp only [decide_eq_false_iff_not]; omega, if_pos (.inr (.inl h1))]
    rfl
theorem Yx {n d : Int} (h0 : d ≠ 0) (h1 : n.natAbs ≤ 4611686018427387904) (h2 : d.natAbs ≤ 4611686018427387904) : ratOfV n d = (rqF (Rat.divInt n d), true) := by
  unfold ratOfV; rw [if_neg (by omega)]
theorem WI {n d : Int} (h0 : d ≠ 0) (h1 : n.natAbs ≤ 4611686018427387904) (h2 : d.natAbs ≤ 4611686018427387904) : Sz 4 (Rat.divInt n d) := Hx (by rw [B4]; omega) (by rw [B4]; omega) h0
theorem MI {a : RF} (h1 : a.2.1.length ≤ 1000000) (h2 : a.2.2.2.length ≤ 1000000) : Bc a a = some true := by
  unfold Bc
  rw [Tf (a := (a.1, a.2.1)) h1, Tf (a := (a.2.2.1, a.2.2.2)) h2]
  rfl
theorem UJ {q : Rat} {k : Nat} (hk : k ≤ 1000000) (h : Sz k q) : Bc (rqF q) (rqF q) = some true :=
  MI (Nat.le_trans (Ah.2 h.1) hk) (Nat.le_trans (Ah.2 (natB h.2)) hk)
theorem OQ : Bc zF zF = some true := MI (by simp [zF]) (by simp [zF])
theorem Qb (q : Rat) : Bc (fitsQ q).1 (fitsQ q).1 = some true := by
  by_cases h : Sz 40 q
  · rw [EI h]; exact UJ (k := 40) (by omega) h
  · rw [FQ h]; exact OQ
end Go.Proofs.YtgfchmagglhohaaGreat.Ev

end
section
namespace Go.Proofs.YtgfchmagglhohaaGreat.Ev
open Go
set_option linter.unusedVariables false
set_option linter.unusedSimpArgs false
set_option linter.unusedSectionVars false
def ShF (a : RF) : Prop := a.2.1.length ≤ 100 ∧ a.2.2.2.length ≤ 100
theorem ShF.br {a : RF} (h : ShF a) : BrF a := by unfold ShF at h; unfold BrF Brief; omega
theorem SJ {q : Rat} {k : Nat} (hk : k ≤ 100) (h : Sz k q) : ShF (rqF q) := ⟨Nat.le_trans (Ah.2 h.1) hk, Nat.le_trans (Ah.2 (natB h.2)) hk⟩
theorem Al5 : ShF zF := by unfold ShF zF; simp
theorem Ac3 (n d : Int) : ShF (ratOfV n d).1 := by
  unfold ratOfV
  split
  · exact Al5
  · exact SJ (k := 4) (by omega) (WI (by omega) (by omega) (by omega))
theorem Ly {a : RF} (h : ShF a) : Bc a a = some true := MI (by unfold ShF at h; omega) (by unfold ShF at h; omega)
theorem Aj2 {B' : Nat} {c : List Int × Int × Int} (h : Cur B' c) (hB : B' ≤ 900000000) : ∃ c' a, CM c = some (c', a) ∧ Cur (B' + 700) c' ∧ ShF a := by
  unfold CM
  obtain ⟨c0, v0, e0, q0⟩ := QA h (by omega) 12
  simp only [e0, obs, peta]
  cases v0
  · obtain ⟨c1, v1, e1, q1, a1, b1⟩ := HP q0 (by omega) 41
    obtain ⟨c2, v2, e2, q2, a2, b2⟩ := HP q1 (by omega) 12
    simp only [cF, e1, e2, obs, Ao5, peta]
    exact ⟨_, _, rfl, q2.mono (by omega), Ac3 _ _⟩
  · obtain ⟨c1, x, e1, q1, l1⟩ := Ae2 q0 (by omega)
    obtain ⟨c2, y, e2, q2, l2⟩ := Ae2 q1 (by omega)
    simp only [cT, e1, e2, obs, peta, Kp (show Brief x.2 by unfold Brief; omega), Kp (show Brief y.2 by unfold Brief; omega)]
    have fin : ∃ c' a, (some ((c2, (x.1, (x.2, y))) : (List Int × Int × Int) × RF)) = some (c', a) ∧ Cur (B' + 700) c' ∧ ShF a := ⟨_, _, rfl, q2.mono (by omega), l1, l2⟩
    cases hx : goodB x with
    | false => simp only [cF]; exact fin
    | true =>
      simp only [cT]
      cases hy : goodB y with
      | false => simp only [cF]; exact fin
      | true =>
        simp only [cT]
        obtain ⟨u, hu, rfl⟩ := Dc.1 hx
        obtain ⟨v, hv, rfl⟩ := Dc.1 hy
        have hz := Mc v
        by_cases h0 : v = 0
        · subst h0
          have : decide ((((big 0).2.length : Nat) : Int) > 0) = false := by simp [big, A7]
          rw [this]
          simp only [cF]
          exact fin
        · rw [decide_eq_false h0] at hz
          have : decide ((((big v).2.length : Nat) : Int) > 0) = true := by
            rw [beq_eq_false_iff_ne] at hz
            exact decide_eq_true (by omega)
          rw [this]
          simp only [cT, I1 (k := 40) (by omega) hu hv h0, obs]
          exact ⟨_, _, rfl, q2.mono (by omega), SJ (k := 40) (by omega) (Hx hu hv h0)⟩
end Go.Proofs.YtgfchmagglhohaaGreat.Ev

end
section
namespace Go.Proofs.YtgfchmagglhohaaGreat.Ev
open Go
set_option linter.unusedVariables false
set_option linter.unusedSimpArgs false
set_option linter.unusedSectionVars false
theorem Au9 (r : Rat) : 1 / r = Rat.divInt (r.den : Int) r.num := by rw [Ag6]; simp
theorem Ae4 {r : Rat} {k : Nat} (h : Sz k r) (h0 : r ≠ 0) : Sz k (1 / r) := by
  rw [Au9]
  exact Hx (natB h.2) h.1 (fun e => h0 (Rat.num_eq_zero.1 e))
theorem U6 {k : Nat} (hk : 1 ≤ k) : Sz k (1 : Rat) := Ak4 (z := 1) (Aq8 hk) hk
theorem Ai1 : B5 (1 : Int) = some (rqF 1) := YU (by omega) (by omega)
theorem Aj4 : Cg (1 : Int) = some (rqF 1) := YY (by omega) (by omega)
end Go.Proofs.YtgfchmagglhohaaGreat.Ev

end
section
namespace Go.Proofs.YtgfchmagglhohaaGreat.Ev
open Go
set_option linter.unusedVariables false
set_option linter.unusedSimpArgs false
set_option linter.unusedSectionVars false
abbrev SF := Bool × (List Int × (Bool × (List Int × (Bool × (List Int × (Bool × List Int))))))
abbrev RQ := (Bool × List Int) × (Bool × List Int)
def sF (a b : RF) : SF := (a.1, (a.2.1, (a.2.2.1, (a.2.2.2, b))))
def zS : SF := sF zF zF
theorem CW (a b : RF) : ((sF a b).1, ((sF a b).2.1, ((sF a b).2.2.1, (sF a b).2.2.2.1))) = a := (rfl)
theorem Cc (a b : RF) : (sF a b).2.2.2.2 = b := (rfl)
theorem sF_q (a b : RF) : (((sF a b).1, (sF a b).2.1), ((sF a b).2.2.1, (sF a b).2.2.2.1)) = toQ a := (rfl)
theorem KE (a : RF) : ((a.1, a.2.1), a.2.2) = toQ a := (rfl)
theorem JM (q : Rat) : toQ (rqF q) = rq q := (rfl)
theorem Ag9 (a b : RF) : (a.1, (a.2.1, (a.2.2.1, (a.2.2.2, b)))) = sF a b := (rfl)
def GS (s : SF) (g : Bool) : Prop := As s = some g ∧ AI s = some g
theorem Aq5 {p q : Rat} (hp : Sz 40 p) (hq : Sz 40 q) : GS (sF (rqF p) (rqF q)) (decide (p ≤ q)) := by
  have hle : ∀ (x y : Rat), (cmpQ x y ≤ 0) ↔ x ≤ y := fun x y => by rw [← Rat.not_lt, ← GW]; omega
  constructor
  · unfold As
    simp only [peta, CW, Cc, sF_q, KE]
    rw [Nr (by simp) (by intro x hx; simp at hx; rcases hx with rfl | rfl; exact Gb (k := 40) (by omega) hp; exact Gb (k := 40) (by omega) hq)]
    simp only [List.all_cons, List.all_nil, F3 hp, F3 hq, Bool.true_and, Bool.and_true, obs, cT, Lq (k := 40) (by omega) hq hp]
    congr 1
    by_cases h : p ≤ q
    · rw [decide_eq_true h, decide_eq_false (Rat.not_lt.2 h)]; rfl
    · rw [decide_eq_false h, decide_eq_true (Rat.not_le.1 h)]; rfl
  · unfold AI
    simp only [peta, CW, Cc, Ao6 hp hq, obs, cT, H0 (k := 40) (by omega) hp hq]
    congr 1
    exact decide_eq_decide.2 (hle p q)
theorem As1 {a b : RF} (ha : BrF a) (hb : BrF b) (h : (goodQ (toQ a) && goodQ (toQ b)) = false) : GS (sF a b) false := by
  constructor
  · unfold As
    simp only [peta, CW, Cc, sF_q, KE]
    rw [Nr (by simp) (by intro x hx; simp at hx; rcases hx with rfl | rfl; exact ha; exact hb)]
    simp only [List.all_cons, List.all_nil, Bool.and_true, h, obs, cF]
  · unfold AI
    simp only [peta, CW, Cc, V6 ha hb, h, obs, cF]
def SpK (s : SF) : Prop := ∃ g, GS s g ∧ (g = true → ∃ p q : Rat, Sz 40 p ∧ Sz 40 q ∧ p ≤ q ∧ s = sF (rqF p) (rqF q))
theorem spK {a b : RF} (ha : BrF a) (hb : BrF b) : SpK (sF a b) := by
  cases h : (goodQ (toQ a) && goodQ (toQ b)) with
  | false => exact ⟨false, As1 ha hb h, fun e => by cases e⟩
  | true =>
    rw [Bool.and_eq_true] at h
    obtain ⟨p, hp, rfl⟩ := Px h.1
    obtain ⟨q, hq, rfl⟩ := Px h.2
    exact ⟨_, Aq5 hp hq, fun e => ⟨p, q, hp, hq, of_decide_eq_true e, rfl⟩⟩
def sQ (s : SF) : RQ × RQ := (((s.1, s.2.1), (s.2.2.1, s.2.2.2.1)), ((s.2.2.2.2.1, s.2.2.2.2.2.1), (s.2.2.2.2.2.2.1, s.2.2.2.2.2.2.2)))
theorem sQ_f (s : SF) : ((sQ s).1.1.1, ((sQ s).1.1.2, ((sQ s).1.2.1, ((sQ s).1.2.2, ((sQ s).2.1.1, ((sQ s).2.1.2, ((sQ s).2.2.1, (sQ s).2.2.2))))))) = s := (rfl)
theorem Gq {s t : SF} {g h : Bool} (hs : As s = some g) (ht : As t = some h) : BA [sQ s, sQ t] = some (g && h) := by
  have key : ∀ (l : List SF) (k : Nat) (L : List (RQ × RQ)) (gs : SF → Bool), (∀ x ∈ l, As x = some (gs x)) → L.length ≤ 1000 → k + l.length = L.length → L.drop k = l.map sQ →
      ∃ r, loopM (fun (s : ((List (RQ × RQ)) × (Int × Int))) => Ai s.1 s.2.1 s.2.2) (L, ((L.length : Int), (k : Int))) = some r ∧ (r = .inl () ∧ l.all gs = true ∨ ∃ n : Nat, r = .inr (n : Int) ∧ l.all gs = false) := by
    intro l
    induction l with
    | nil =>
      intro k L gs _ hL hk hd
      refine ⟨.inl (), AF (show Ai L (L.length : Int) (k : Int) = _ from ?_), .inl ⟨rfl, rfl⟩⟩
      unfold Ai
      rw [decide_eq_false (by simp at hk; omega)]
      rfl
    | cons x l ih =>
      intro k L gs hg hL hk hd
      simp only [List.length_cons] at hk
      have hx : L[k]? = some (sQ x) := by
        have := congrArg (fun l => l[0]?) hd
        simpa using this
      have hd' : L.drop (k + 1) = l.map sQ := by
        have := congrArg (List.drop 1) hd
        simpa [List.drop_drop, Nat.add_comm] using this
      have hgx := hg x (by simp)
      have step : Ai L (L.length : Int) (k : Int) = if gs x then some (.inl (L, ((L.length : Int), ((k + 1 : Nat) : Int)))) else some (.inr (.inr (k : Int))) := by
        unfold Ai Eu
        rw [decide_eq_true (by omega)]
        simp only [cT, Am, hx, obs, sQ_f, wrap1 (show k < 4611686018427387904 by omega)]
        have e : As (x.1, (x.2.1, (x.2.2.1, (x.2.2.2.1, (x.2.2.2.2.1, (x.2.2.2.2.2.1, (x.2.2.2.2.2.2.1, x.2.2.2.2.2.2.2))))))) = some (gs x) := hgx
        rw [e]
        cases gs x <;> rfl
      cases hgs : gs x with
      | true =>
        rw [hgs, if_pos rfl] at step
        obtain ⟨r, h1, h2⟩ := ih (k + 1) L gs (fun y hy => hg y (List.mem_cons_of_mem _ hy)) hL (by omega) hd'
        refine ⟨r, (BP (f := fun (s : ((List (RQ × RQ)) × (Int × Int))) => Ai s.1 s.2.1 s.2.2) (s := (L, ((L.length : Int), (k : Int)))) step).trans h1, ?_⟩
        simpa [hgs] using h2
      | false =>
        rw [hgs, if_neg (by simp)] at step
        exact ⟨_, AF (f := fun (s : ((List (RQ × RQ)) × (Int × Int))) => Ai s.1 s.2.1 s.2.2) (s := (L, ((L.length : Int), (k : Int)))) step, .inr ⟨k, rfl, by simp [hgs]⟩⟩
  have hgf : ∃ gs : SF → Bool, (∀ x ∈ [s, t], As x = some (gs x)) ∧ [s, t].all gs = (g && h) := by
    refine ⟨fun x => (As x).getD false, ?_, ?_⟩
    · intro x hx
      simp at hx
      rcases hx with rfl | rfl
      · simp [hs]
      · simp [ht]
    · simp [hs, ht]
  obtain ⟨gs, g1, g2⟩ := hgf
  obtain ⟨r, h1, h2⟩ := key [s, t] 0 [sQ s, sQ t] gs g1 (by simp) (by simp) (by simp)
  unfold BA Ax AN
  have h1' : loopM (fun (s : ((List (RQ × RQ)) × (Int × Int))) => Ai s.1 s.2.1 s.2.2) ([sQ s, sQ t], ((([sQ s, sQ t].length : Nat) : Int), (0 : Int))) = some r := h1
  rw [h1']
  rcases h2 with ⟨rfl, h2⟩ | ⟨n, rfl, h2⟩
  · rw [← g2, h2]; rfl
  · rw [← g2, h2]
    simp only [obs, Sum.elim_inr]
    rw [decide_eq_true (by omega)]
    rfl
theorem Jt {s t : SF} {g h : Bool} (hs : AI s = some g) (ht : AI t = some h) : Cz s t = some (g && h) := by
  unfold Cz
  have e1 : AI (s.1, (s.2.1, (s.2.2.1, (s.2.2.2.1, (s.2.2.2.2.1, (s.2.2.2.2.2.1, (s.2.2.2.2.2.2.1, s.2.2.2.2.2.2.2))))))) = some g := hs
  have e2 : AI (t.1, (t.2.1, (t.2.2.1, (t.2.2.2.1, (t.2.2.2.2.1, (t.2.2.2.2.2.1, (t.2.2.2.2.2.2.1, t.2.2.2.2.2.2.2))))))) = some h := ht
  rw [e1, e2]
  cases g <;> rfl
def fitsS (p q : Rat) : SF × Bool := if Sz 40 p ∧ Sz 40 q then (sF (rqF p) (rqF q), true) else (zS, false)
theorem VU {q : Rat} {k : Nat} (hk : k ≤ 1000000) (h : Sz k q) : EC (rqF q) = some (rqF q) := by
  unfold EC
  rw [show (rqF q).1 = (big q.num).1 from rfl, show (rqF q).2.1 = (big q.num).2 from rfl, show (rqF q).2.2.2 = (big (q.den : Int)).2 from rfl, Zp hk h.1, Zd hk h.2]
  rfl
theorem E6 (p q : Rat) : Bb (rqF p) (rqF q) = some (fitsS p q) := by
  unfold Bb fitsS
  simp only [rq_e]
  rw [show (40 : Int) = ((40 : Nat) : Int) from rfl, M1, M1]
  by_cases h1 : Sz 40 p
  · by_cases h2 : Sz 40 q
    · rw [decide_eq_true h1, decide_eq_true h2, if_pos ⟨h1, h2⟩]
      simp only [obs, nT, cF, VU (k := 40) (by omega) h1, VU (k := 40) (by omega) h2]
      rfl
    · rw [decide_eq_true h1, decide_eq_false h2, if_neg (fun h => h2 h.2)]; rfl
  · rw [decide_eq_false h1, if_neg (fun h => h1 h.1)]; rfl
theorem HB {p q : Rat} {k : Nat} (hk : k ≤ 1000000) (hp : Sz k p) (hq : Sz k q) : BX (sF (rqF p) (rqF q)) = some (fitsS p q) := by
  unfold BX fitsS
  simp only [peta, CW, Cc, PV hk hp, PV hk hq, obs]
  by_cases h1 : Sz 40 p
  · by_cases h2 : Sz 40 q
    · rw [EI h1, EI h2, if_pos ⟨h1, h2⟩]; rfl
    · rw [EI h1, FQ h2, if_neg (fun h => h2 h.2)]; rfl
  · rw [FQ h1, if_neg (fun h => h1 h.1)]; rfl
theorem EQ {p q : Rat} (h : (fitsS p q).2 = true) : Sz 40 p ∧ Sz 40 q ∧ fitsS p q = (sF (rqF p) (rqF q), true) := by
  unfold fitsS at h ⊢
  split at h
  · rename_i hc; exact ⟨hc.1, hc.2, if_pos hc⟩
  · cases h
theorem K5 {a b : RF} (ha : ShF a) (hb : ShF b) : Au (sF a b) (sF a b) = some true := by
  unfold Au
  simp only [peta, CW, Cc, Ly ha, Ly hb, obs, cT]
theorem FM : Au zS zS = some true := K5 Al5 Al5
theorem Fo (p q : Rat) : Au (fitsS p q).1 (fitsS p q).1 = some true := by
  unfold fitsS
  split
  · rename_i h; exact K5 (SJ (k := 40) (by omega) h.1) (SJ (k := 40) (by omega) h.2)
  · exact FM
def mnQ (l : List Rat) (a : Rat) : Rat := l.foldl (fun m x => if x < m then x else m) a
def mxQ (l : List Rat) (a : Rat) : Rat := l.foldl (fun m x => if m < x then x else m) a
theorem Yy : ∀ (l : List Rat) (a : Rat), mnQ l a ≤ a ∧ ∀ x ∈ l, mnQ l a ≤ x
  | [], a => ⟨Rat.le_refl, by simp⟩
  | x :: l, a => by
    obtain ⟨h1, h2⟩ := Yy l (if x < a then x else a)
    have e : mnQ (x :: l) a = mnQ l (if x < a then x else a) := rfl
    rw [e]
    have c : (if x < a then x else a) ≤ a ∧ (if x < a then x else a) ≤ x := by
      split
      · exact ⟨Rat.le_of_lt ‹_›, Rat.le_refl⟩
      · exact ⟨Rat.le_refl, Rat.not_lt.1 ‹_›⟩
    refine ⟨Rat.le_trans h1 c.1, fun y hy => ?_⟩
    rcases List.mem_cons.1 hy with rfl | hy
    · exact Rat.le_trans h1 c.2
    · exact h2 y hy
theorem X2 : ∀ (l : List Rat) (a : Rat), a ≤ mxQ l a ∧ ∀ x ∈ l, x ≤ mxQ l a
  | [], a => ⟨Rat.le_refl, by simp⟩
  | x :: l, a => by
    obtain ⟨h1, h2⟩ := X2 l (if a < x then x else a)
    have e : mxQ (x :: l) a = mxQ l (if a < x then x else a) := rfl
    rw [e]
    have c : a ≤ (if a < x then x else a) ∧ x ≤ (if a < x then x else a) := by
      split
      · exact ⟨Rat.le_of_lt ‹_›, Rat.le_refl⟩
      · exact ⟨Rat.le_refl, Rat.not_lt.1 ‹_›⟩
    refine ⟨Rat.le_trans c.1 h1, fun y hy => ?_⟩
    rcases List.mem_cons.1 hy with rfl | hy
    · exact Rat.le_trans c.2 h1
    · exact h2 y hy
theorem Vd : ∀ (l : List Rat) (a : Rat), mnQ l a = a ∨ mnQ l a ∈ l
  | [], a => .inl rfl
  | x :: l, a => by
    have e : mnQ (x :: l) a = mnQ l (if x < a then x else a) := rfl
    rw [e]
    rcases Vd l (if x < a then x else a) with h | h
    · rw [h]; split
      · exact .inr (by simp)
      · exact .inl rfl
    · exact .inr (List.mem_cons_of_mem _ h)
theorem YZ : ∀ (l : List Rat) (a : Rat), mxQ l a = a ∨ mxQ l a ∈ l
  | [], a => .inl rfl
  | x :: l, a => by
    have e : mxQ (x :: l) a = mxQ l (if a < x then x else a) := rfl
    rw [e]
    rcases YZ l (if a < x then x else a) with h | h
    · rw [h]; split
      · exact .inr (by simp)
      · exact .inl rfl
    · exact .inr (List.mem_cons_of_mem _ h)
theorem Yv {k : Nat} {l : List Rat} {a : Rat} (ha : Sz k a) (hl : ∀ x ∈ l, Sz k x) : Sz k (mnQ l a) := by
  rcases Vd l a with h | h
  · rw [h]; exact ha
  · exact hl _ h
theorem X9 {k : Nat} {l : List Rat} {a : Rat} (ha : Sz k a) (hl : ∀ x ∈ l, Sz k x) : Sz k (mxQ l a) := by
  rcases YZ l a with h | h
  · rw [h]; exact ha
  · exact hl _ h
theorem rq_f (q : Rat) : ((rq q).1.1, ((rq q).1.2, (rq q).2)) = rqF q := (rfl)
section
variable {k : Nat} {l : List Rat} {a : Rat} (hk : k ≤ 20000) (ha : Sz k a) (hl : ∀ x ∈ l, Sz k x) (hn : l.length ≤ 1000)
include hk ha hl hn
theorem Ab9 : AA ((a :: l).map rq) = some (rqF (mnQ l a)) := by
  have hlen : ((a :: l).map rq).length = l.length + 1 := by simp
  obtain ⟨h1, h2⟩ := FR (l := l) (body := fun (s : (RF × (RF × ((List RQ) × Int)))) => Ap s.1 s.2.1 s.2.2.1 s.2.2.2)
    (st := fun j (m : Rat) => (zF, (rqF m, ((a :: l).map rq, ((j + 1 : Nat) : Int))))) (step := fun m x => if x < m then x else m) (fin := fun m => (zF, rqF m)) (I := fun _ m => Sz k m)
    (by
      rintro j m x hj hm
      have hjl := getL hj
      have hx := hl x (List.mem_of_getElem? hj)
      have he : ((a :: l).map rq)[j + 1]? = some (rq x) := by rw [List.getElem?_map, List.getElem?_cons_succ, hj]; rfl
      refine ⟨?_, by split; exact hx; exact hm⟩
      have key : ∀ w : RF, Ap w (rqF m) ((a :: l).map rq) ((j + 1 : Nat) : Int) = some (.inl (w, (rqF (if x < m then x else m), ((a :: l).map rq, ((j + 1 + 1 : Nat) : Int))))) := by
        intro w
        unfold Ap
        rw [decide_eq_true (show ((j + 1 : Nat) : Int) < (((a :: l).map rq).length : Int) by rw [hlen]; omega)]
        simp only [cT, Am, he, obs, peta, rq_f, rq_e, HX hk hx hm, wrap1 (show j + 1 < 4611686018427387904 by omega)]
        by_cases h : x < m
        · rw [decide_eq_true (LY.2 h), if_pos h]; rfl
        · rw [decide_eq_false (fun g => h (LY.1 g)), if_neg h]; rfl
      exact key zF)
    (by
      rintro m hm
      show Ap zF (rqF m) ((a :: l).map rq) ((l.length + 1 : Nat) : Int) = _
      unfold Ap
      rw [hlen, decide_eq_false (by omega)]
      simp only [cF, peta]) a ha
  unfold AA
  rw [hlen, decide_eq_false (by omega)]
  have h0 : getI ((a :: l).map rq) 0 = some (rq a) := by rw [show (0 : Int) = ((0 : Nat) : Int) from rfl, Am]; rfl
  simp only [cF, h0, obs, peta, rq_f]
  have h1' : loopM (fun (s : (RF × (RF × ((List RQ) × Int)))) => Ap s.1 s.2.1 s.2.2.1 s.2.2.2) ((false, (([] : List Int), (false, ([] : List Int)))), (rqF a, ((a :: l).map rq, (1 : Int)))) = _ := h1
  rw [h1']
  rfl
theorem ZF : AD ((a :: l).map rq) = some (rqF (mxQ l a)) := by
  have hlen : ((a :: l).map rq).length = l.length + 1 := by simp
  obtain ⟨h1, h2⟩ := FR (l := l) (body := fun (s : (RF × (RF × ((List RQ) × Int)))) => Ao s.1 s.2.1 s.2.2.1 s.2.2.2)
    (st := fun j (m : Rat) => (zF, (rqF m, ((a :: l).map rq, ((j + 1 : Nat) : Int))))) (step := fun m x => if m < x then x else m) (fin := fun m => (zF, rqF m)) (I := fun _ m => Sz k m)
    (by
      rintro j m x hj hm
      have hjl := getL hj
      have hx := hl x (List.mem_of_getElem? hj)
      have he : ((a :: l).map rq)[j + 1]? = some (rq x) := by rw [List.getElem?_map, List.getElem?_cons_succ, hj]; rfl
      refine ⟨?_, by split; exact hx; exact hm⟩
      have key : ∀ w : RF, Ao w (rqF m) ((a :: l).map rq) ((j + 1 : Nat) : Int) = some (.inl (w, (rqF (if m < x then x else m), ((a :: l).map rq, ((j + 1 + 1 : Nat) : Int))))) := by
        intro w
        unfold Ao
        rw [decide_eq_true (show ((j + 1 : Nat) : Int) < (((a :: l).map rq).length : Int) by rw [hlen]; omega)]
        simp only [cT, Am, he, obs, peta, rq_f, rq_e, HX hk hx hm, wrap1 (show j + 1 < 4611686018427387904 by omega)]
        by_cases h : m < x
        · rw [decide_eq_true (GW.2 h), if_pos h]; rfl
        · rw [decide_eq_false (fun g => h (GW.1 g)), if_neg h]; rfl
      exact key zF)
    (by
      rintro m hm
      show Ao zF (rqF m) ((a :: l).map rq) ((l.length + 1 : Nat) : Int) = _
      unfold Ao
      rw [hlen, decide_eq_false (by omega)]
      simp only [cF, peta]) a ha
  unfold AD
  rw [hlen, decide_eq_false (by omega)]
  have h0 : getI ((a :: l).map rq) 0 = some (rq a) := by rw [show (0 : Int) = ((0 : Nat) : Int) from rfl, Am]; rfl
  simp only [cF, h0, obs, peta, rq_f]
  have h1' : loopM (fun (s : (RF × (RF × ((List RQ) × Int)))) => Ao s.1 s.2.1 s.2.2.1 s.2.2.2) ((false, (([] : List Int), (false, ([] : List Int)))), (rqF a, ((a :: l).map rq, (1 : Int)))) = _ := h1
  rw [h1']
  rfl
theorem Rs : Bt ((a :: l).map rq) = some (fitsS (mnQ l a) (mxQ l a)) := by
  unfold Bt
  rw [Ab9 hk ha hl hn, ZF hk ha hl hn]
  simp only [obs, peta, E6]
theorem Xl : C4 ((a :: l).map rq) = some (sF (rqF (mnQ l a)) (rqF (mxQ l a))) := by
  have hlen : ((a :: l).map rq).length = l.length + 1 := by simp
  obtain ⟨h1, h2⟩ := FR (l := a :: l) (body := fun (s : (SF × (SF × ((List RQ) × (Int × Int))))) => DG s.1 s.2.1 s.2.2.1 s.2.2.2.1 s.2.2.2.2)
    (st := fun j (m : Rat × Rat) => (zS, (sF (rqF m.1) (rqF m.2), ((a :: l).map rq, ((((a :: l).map rq).length : Int), (j : Int)))))) (step := fun m x => (if x < m.1 then x else m.1, if m.2 < x then x else m.2)) (fin := fun m => (zS, sF (rqF m.1) (rqF m.2))) (I := fun _ m => Sz k m.1 ∧ Sz k m.2)
    (by
      rintro j ⟨m, n⟩ x hj ⟨hm, hn'⟩
      have hjl := getL hj
      have hx : Sz k x := by
        rcases List.mem_cons.1 (List.mem_of_getElem? hj) with rfl | h
        · exact ha
        · exact hl x h
      have he : ((a :: l).map rq)[j]? = some (rq x) := by rw [List.getElem?_map, hj]; rfl
      refine ⟨?_, by simp only; split; exact hx; exact hm, by simp only; split; exact hx; exact hn'⟩
      have key : ∀ w : SF, DG w (sF (rqF m) (rqF n)) ((a :: l).map rq) (((a :: l).map rq).length : Int) (j : Int) = some (.inl (w, (sF (rqF (if x < m then x else m)) (rqF (if n < x then x else n)), ((a :: l).map rq, ((((a :: l).map rq).length : Int), ((j + 1 : Nat) : Int)))))) := by
        intro w
        unfold DG
        rw [decide_eq_true (show (j : Int) < (((a :: l).map rq).length : Int) by rw [List.length_map]; omega)]
        simp only [cT, Am, he, obs, peta, rq_f, CW, Cc, H0 hk hx hm, wrap1 (show j < 4611686018427387904 by simp at hjl; omega)]
        have e2 : ∀ (u : RF) (b : RF), (u.1, (u.2.1, (u.2.2.1, (u.2.2.2, b)))) = sF u b := fun _ _ => rfl
        have e3 : ∀ (q : Rat) (b : RF), ((rq q).1.1, ((rq q).1.2, ((rq q).2.1, ((rq q).2.2, b)))) = sF (rqF q) b := fun _ _ => rfl
        by_cases h : x < m
        · rw [decide_eq_true (LY.2 h), if_pos h]
          simp only [cT, obs, Sum.elim_inr, peta, e3, Cc, H0 hk hx hn', rq_e, CW, wrap1 (show j < 4611686018427387904 by simp at hjl; omega)]
          by_cases h' : n < x
          · rw [decide_eq_true (GW.2 h'), if_pos h']; rfl
          · rw [decide_eq_false (fun g => h' (GW.1 g)), if_neg h']; rfl
        · rw [decide_eq_false (fun g => h (LY.1 g)), if_neg h]
          simp only [cF, obs, Sum.elim_inr, peta, e3, Cc, H0 hk hx hn', rq_e, CW, wrap1 (show j < 4611686018427387904 by simp at hjl; omega)]
          by_cases h' : n < x
          · rw [decide_eq_true (GW.2 h'), if_pos h']; rfl
          · rw [decide_eq_false (fun g => h' (GW.1 g)), if_neg h']; rfl
      exact key zS)
    (by
      rintro ⟨m, n⟩ _
      show DG zS (sF (rqF m) (rqF n)) ((a :: l).map rq) (((a :: l).map rq).length : Int) (((a :: l).length : Nat) : Int) = _
      unfold DG
      rw [List.length_map, decide_eq_false (by omega)]
      simp only [cF, peta]) (a, a) ⟨ha, ha⟩
  have hfold : (a :: l).foldl (fun (m : Rat × Rat) x => (if x < m.1 then x else m.1, if m.2 < x then x else m.2)) (a, a) = (mnQ l a, mxQ l a) := by
    have g : ∀ (l : List Rat) (u v : Rat), l.foldl (fun (m : Rat × Rat) x => (if x < m.1 then x else m.1, if m.2 < x then x else m.2)) (u, v) = (mnQ l u, mxQ l v) := by
      intro l
      induction l with
      | nil => intro u v; rfl
      | cons x l ih => intro u v; rw [List.foldl_cons, ih]; rfl
    rw [g]
    unfold mnQ mxQ
    simp only [List.foldl_cons, if_neg (Rat.lt_irrefl (a := a))]
  unfold C4
  have h0 : getI ((a :: l).map rq) 0 = some (rq a) := by rw [show (0 : Int) = ((0 : Nat) : Int) from rfl, Am]; rfl
  simp only [h0, obs]
  rw [hfold] at h1
  have h1' : loopM (fun (s : (SF × (SF × ((List RQ) × (Int × Int))))) => DG s.1 s.2.1 s.2.2.1 s.2.2.2.1 s.2.2.2.2) ((false, (([] : List Int), (false, (([] : List Int), (false, (([] : List Int), (false, ([] : List Int)))))))), (((rq a).1.1, ((rq a).1.2, ((rq a).2.1, ((rq a).2.2, ((rq a).1.1, ((rq a).1.2, ((rq a).2.1, (rq a).2.2))))))), ((a :: l).map rq, ((((a :: l).map rq).length : Int), (0 : Int))))) = _ := h1
  rw [h1']
  rfl
end
end Go.Proofs.YtgfchmagglhohaaGreat.Ev

end
section
namespace Go.Proofs.YtgfchmagglhohaaGreat.Ev
open Go
set_option linter.unusedVariables false
set_option linter.unusedSimpArgs false
set_option linter.unusedSectionVars false
theorem sF_e (a b : RF) : ((sF a b).1, ((sF a b).2.1, ((sF a b).2.2.1, ((sF a b).2.2.2.1, b)))) = sF a b := (rfl)
theorem sQ_e (s : SF) : (((s.1, s.2.1), (s.2.2.1, s.2.2.2.1)), ((s.2.2.2.2.1, s.2.2.2.2.2.1), s.2.2.2.2.2.2)) = sQ s := (rfl)
theorem S0 {k : Nat} (hk : 1 ≤ k) : Sz k ((0 : Int) : Rat) := Ak4 (by have := DY k; simpa using this) hk
theorem V0 : B5 (0 : Int) = some (rqF 0) := by rw [YU (by omega) (by omega)]; rfl
theorem Wr : Cg (0 : Int) = some (rqF 0) := by rw [YY (by omega) (by omega)]; rfl
theorem S0' {k : Nat} (hk : 1 ≤ k) : Sz k (0 : Rat) := S0 hk
theorem Vg {x y : Rat} : (cmpQ x y ≤ 0) ↔ x ≤ y := by rw [← Rat.not_lt, ← GW]; omega
section
variable {s t : SF} {g h : Bool} (hs : GS s g) (ht : GS t h)
include hs ht
theorem Ss (hb : (g && h) = false) : C2 s t = some (zS, false) := by
  unfold C2; simp only [peta, sQ_e]; rw [Gq hs.1 ht.1, hb]; rfl
theorem Su (hb : (g && h) = false) : CR s t = some (zS, false) := by
  unfold CR; simp only [peta, sQ_e]; rw [Gq hs.1 ht.1, hb]; rfl
theorem So (hb : (g && h) = false) : CV s t = some (zS, false) := by
  unfold CV; simp only [peta, sQ_e]; rw [Gq hs.1 ht.1, hb]; rfl
theorem Qg (hb : (g && h) = false) : Cx s t = some (zS, false) := by
  unfold Cx; simp only [peta, sQ_e]; rw [Gq hs.1 ht.1, hb]; rfl
theorem Sl (hb : (g && h) = false) : C0 s t = some (zS, false) := by
  unfold C0; simp only [peta]; rw [Jt hs.2 ht.2, hb]; rfl
theorem Sg (hb : (g && h) = false) : CZ s t = some (zS, false) := by
  unfold CZ; simp only [peta]; rw [Jt hs.2 ht.2, hb]; rfl
theorem R8 (hb : (g && h) = false) : C6 s t = some (zS, false) := by
  unfold C6; simp only [peta]; rw [Jt hs.2 ht.2, hb]; rfl
theorem Q5 (hb : (g && h) = false) : Cs s t = some (zS, false) := by
  unfold Cs; simp only [peta]; rw [Jt hs.2 ht.2, hb]; rfl
end
section
variable {s : SF} (hs : GS s false)
include hs
theorem Nf : Bp s = some (zS, false) := by unfold Bp; simp only [peta]; rw [hs.1]; rfl
theorem NN : Bo s = some (zS, false) := by unfold Bo; simp only [peta]; rw [hs.2]; rfl
theorem Ns : AX s = some (zS, false) := by unfold AX; simp only [peta]; rw [hs.1]; rfl
theorem M6 : Bn s = some (zS, false) := by unfold Bn; simp only [peta]; rw [hs.2]; rfl
theorem SD : Cp s = some (zF, false) := by unfold Cp; simp only [peta]; rw [hs.1]; rfl
theorem Si : Ck s = some (zF, false) := by unfold Ck; simp only [peta]; rw [hs.2]; rfl
end
section
variable {p q : Rat} (hp : Sz 40 p) (hq : Sz 40 q) (hpq : p ≤ q)
include hp hq hpq
theorem Em : GS (sF (rqF p) (rqF q)) true := by have := Aq5 hp hq; rwa [decide_eq_true hpq] at this
theorem K8 {x : Rat} (hx : Sz 40 x) : Cy (sF (rqF p) (rqF q)) (rqF x) = some (decide (p ≤ x ∧ x ≤ q)) := by
  unfold Cy
  simp only [peta, CW, Cc, sF_e, Lq (k := 40) (by omega) hx hp, Lq (k := 40) (by omega) hq hx, obs]
  by_cases h1 : p ≤ x
  · rw [decide_eq_false (Rat.not_lt.2 h1)]
    simp only [nF, cT]
    congr 1
    by_cases h2 : x ≤ q
    · rw [decide_eq_false (Rat.not_lt.2 h2), decide_eq_true ⟨h1, h2⟩]; rfl
    · rw [decide_eq_true (Rat.not_le.1 h2), decide_eq_false (fun h => h2 h.2)]; rfl
  · rw [decide_eq_true (Rat.not_le.1 h1), decide_eq_false (show ¬ (p ≤ x ∧ x ≤ q) from fun h => h1 h.1)]; rfl
theorem Ae1 {x : Rat} (hx : Sz 40 x) : HE (sF (rqF p) (rqF q)) (rqF x) = some (decide (p ≤ x ∧ x ≤ q)) := by
  unfold HE
  simp only [peta, CW, Cc, sF_e, H0 (k := 40) (by omega) hp hx, H0 (k := 40) (by omega) hx hq, obs]
  by_cases h1 : p ≤ x
  · rw [decide_eq_true (Vg.2 h1)]
    simp only [cT]
    congr 1
    exact decide_eq_decide.2 (by rw [Vg]; simp [h1])
  · rw [decide_eq_false (fun h => h1 (Vg.1 h)), decide_eq_false (show ¬ (p ≤ x ∧ x ≤ q) from fun h => h1 h.1)]; rfl
theorem Gk {x : Rat} (hx : Sz 40 x) : Ak (sF (rqF p) (rqF q)) (rqF x) = some (decide (p ≤ x ∧ x ≤ q)) := by
  unfold Ak HM
  simp only [peta, (Em hp hq hpq).1, SW (Gb (k := 40) (by omega) hx), F3 hx, K8 hp hq hpq hx, obs, nT, cF, cT]
theorem ZT : Cp (sF (rqF p) (rqF q)) = some (fitsQ (q - p)) := by
  unfold Cp
  simp only [peta, (Em hp hq hpq).1, obs, nT, cF, CW, Cc, sF_e, Kl (k := 40) (by omega) hq hp, FK]
theorem Aa6 : Ck (sF (rqF p) (rqF q)) = some (fitsQ (q - p)) := by
  unfold Ck
  simp only [peta, (Em hp hq hpq).2, obs, nT, cF, CW, Cc, sF_e, Uq (k := 40) (by omega) hq hp, PV (k := 81) (by omega) ((X8 hq hp).mono (by omega))]
def invV (p q : Rat) : SF × Bool := if p ≤ 0 ∧ 0 ≤ q then (zS, false) else fitsS (1 / q) (1 / p)
theorem Ma : AX (sF (rqF p) (rqF q)) = some (invV p q) := by
  unfold AX invV
  simp only [peta, (Em hp hq hpq).1, obs, nT, cF, V0, K8 hp hq hpq (S0' (by omega))]
  by_cases h : p ≤ 0 ∧ 0 ≤ q
  · rw [decide_eq_true h, if_pos h]; rfl
  · rw [decide_eq_false h, if_neg h]
    have h1 : p ≠ 0 := fun e => h ⟨by rw [e]; exact Rat.le_refl, by rw [← e]; exact hpq⟩
    have h2 : q ≠ 0 := fun e => h ⟨by rw [← e]; exact hpq, by rw [e]; exact Rat.le_refl⟩
    simp only [cF, Ai1, obs, CW, Cc, sF_e, SN (k := 40) (by omega) (U6 (by omega)) hq h2, SN (k := 40) (by omega) (U6 (by omega)) hp h1, peta, E6]
theorem Ux : Bn (sF (rqF p) (rqF q)) = some (invV p q) := by
  unfold Bn invV
  simp only [peta, (Em hp hq hpq).2, obs, nT, cF, Wr, Ae1 hp hq hpq (S0' (by omega))]
  by_cases h : p ≤ 0 ∧ 0 ≤ q
  · rw [decide_eq_true h, if_pos h]; rfl
  · rw [decide_eq_false h, if_neg h]
    have h1 : p ≠ 0 := fun e => h ⟨by rw [e]; exact Rat.le_refl, by rw [← e]; exact hpq⟩
    have h2 : q ≠ 0 := fun e => h ⟨by rw [← e]; exact hpq, by rw [e]; exact Rat.le_refl⟩
    simp only [cF, Aj4, obs, CW, Cc, sF_e, Y8 (k := 40) (by omega) (U6 (by omega)) hq h2, Y8 (k := 40) (by omega) (U6 (by omega)) hp h1, peta]
    rw [Ag9, HB (k := 40) (by omega) (Ae4 hq h2) (Ae4 hp h1)]
    rfl
def sqL (p q : Rat) : List Rat := if p ≤ 0 ∧ 0 ≤ q then [q * q, 0] else [q * q]
theorem Yf : (∀ x ∈ sqL p q, Sz 80 x) ∧ (sqL p q).length ≤ 1000 ∧ Sz 80 (p * p) := by
  have h1 : Sz 80 (p * p) := (NH hp hp).mono (by omega)
  have h2 : Sz 80 (q * q) := (NH hq hq).mono (by omega)
  unfold sqL
  split
  · exact ⟨by intro x hx; simp at hx; rcases hx with rfl | rfl; exact h2; exact S0' (by omega), by simp, h1⟩
  · exact ⟨by intro x hx; simp at hx; subst hx; exact h2, by simp, h1⟩
theorem appQ {l : List RQ} {x : RQ} (h : l.length ≤ 100000) : appL 64 4 l [x] = some (l ++ [x]) := YH (by simp [maxBytes]; omega) (by simp [maxBytes]; omega)
theorem Un : Bp (sF (rqF p) (rqF q)) = some (fitsS (mnQ (sqL p q) (p * p)) (mxQ (sqL p q) (p * p))) := by
  obtain ⟨l1, l2, l3⟩ := Yf hp hq hpq
  have ha := Rs (k := 80) (by omega) l3 l1 l2
  unfold Bp
  simp only [peta, (Em hp hq hpq).1, obs, nT, cF, CW, Cc, sF_e, EM (k := 40) (by omega) hp hp, EM (k := 40) (by omega) hq hq, V0, K8 hp hq hpq (S0' (by omega)), KE, JM]
  unfold sqL at ha ⊢
  by_cases h : p ≤ 0 ∧ 0 ≤ q
  · rw [if_pos h] at ha ⊢
    rw [decide_eq_true h]
    simp only [cT]
    rw [appQ hp hq hpq (by simp)]
    simp only [obs]
    have ha' : Bt ([rq (p * p), rq (q * q)] ++ [rq 0]) = _ := ha
    rw [ha']
    simp only [obs, peta]
  · rw [if_neg h] at ha ⊢
    rw [decide_eq_false h]
    simp only [cF]
    have ha' : Bt [rq (p * p), rq (q * q)] = _ := ha
    rw [ha']
    simp only [obs, peta]
theorem Ue : Bo (sF (rqF p) (rqF q)) = some (fitsS (mnQ (sqL p q) (p * p)) (mxQ (sqL p q) (p * p))) := by
  obtain ⟨l1, l2, l3⟩ := Yf hp hq hpq
  have ha := Xl (k := 80) (by omega) l3 l1 l2
  have hf := HB (k := 80) (by omega) (Yv l3 l1) (X9 l3 l1)
  unfold Bo
  simp only [peta, (Em hp hq hpq).2, obs, nT, cF, CW, Cc, sF_e, Ky (k := 40) (by omega) hp hp, Ky (k := 40) (by omega) hq hq, Wr, Ae1 hp hq hpq (S0' (by omega)), KE, JM]
  unfold sqL at ha hf ⊢
  by_cases h : p ≤ 0 ∧ 0 ≤ q
  · rw [if_pos h] at ha hf ⊢
    rw [decide_eq_true h]
    simp only [cT]
    rw [appQ hp hq hpq (by simp)]
    simp only [obs, Sum.elim_inr]
    have ha' : C4 ([rq (p * p), rq (q * q)] ++ [rq 0]) = _ := ha
    rw [ha']
    simp only [obs, peta, hf]
  · rw [if_neg h] at ha hf ⊢
    rw [decide_eq_false h]
    simp only [cF, obs, Sum.elim_inr]
    have ha' : C4 [rq (p * p), rq (q * q)] = _ := ha
    rw [ha']
    simp only [obs, peta, hf]
end
section
variable {p q r t : Rat} (hp : Sz 40 p) (hq : Sz 40 q) (hpq : p ≤ q) (hr : Sz 40 r) (ht : Sz 40 t) (hrt : r ≤ t)
include hp hq hpq hr ht hrt
theorem PE : BA [sQ (sF (rqF p) (rqF q)), sQ (sF (rqF r) (rqF t))] = some true := Gq (Em hp hq hpq).1 (Em hr ht hrt).1
theorem PB : Cz (sF (rqF p) (rqF q)) (sF (rqF r) (rqF t)) = some true := Jt (Em hp hq hpq).2 (Em hr ht hrt).2
theorem Zu : C2 (sF (rqF p) (rqF q)) (sF (rqF r) (rqF t)) = some (fitsS (p + r) (q + t)) := by
  unfold C2
  simp only [peta, sQ_e]
  rw [PE hp hq hpq hr ht hrt]
  simp only [peta, obs, nT, cF, CW, Cc, sF_e, J9 (k := 40) (by omega) hp hr, J9 (k := 40) (by omega) hq ht, E6]
theorem ZV : C0 (sF (rqF p) (rqF q)) (sF (rqF r) (rqF t)) = some (fitsS (p + r) (q + t)) := by
  unfold C0
  simp only [peta, PB hp hq hpq hr ht hrt, obs, nT, cF, CW, Cc, sF_e, UE (k := 40) (by omega) hp hr, UE (k := 40) (by omega) hq ht]
  rw [Ag9, HB (k := 81) (by omega) ((XT hp hr).mono (by omega)) ((XT hq ht).mono (by omega))]
  simp only [obs, peta]
theorem ZU : CR (sF (rqF p) (rqF q)) (sF (rqF r) (rqF t)) = some (fitsS (p - t) (q - r)) := by
  unfold CR
  simp only [peta, sQ_e]
  rw [PE hp hq hpq hr ht hrt]
  simp only [peta, obs, nT, cF, CW, Cc, sF_e, Kl (k := 40) (by omega) hp ht, Kl (k := 40) (by omega) hq hr, E6]
theorem ZX : CZ (sF (rqF p) (rqF q)) (sF (rqF r) (rqF t)) = some (fitsS (p - t) (q - r)) := by
  unfold CZ
  simp only [peta, PB hp hq hpq hr ht hrt, obs, nT, cF, CW, Cc, sF_e, Uq (k := 40) (by omega) hp ht, Uq (k := 40) (by omega) hq hr]
  rw [Ag9, HB (k := 81) (by omega) ((X8 hp ht).mono (by omega)) ((X8 hq hr).mono (by omega))]
  simp only [obs, peta]
theorem Zc : (∀ x ∈ [p * t, q * r, q * t], Sz 80 x) ∧ Sz 80 (p * r) :=
  ⟨by intro x hx; simp at hx; rcases hx with rfl | rfl | rfl; exact (NH hp ht).mono (by omega); exact (NH hq hr).mono (by omega); exact (NH hq ht).mono (by omega), (NH hp hr).mono (by omega)⟩
theorem Ac1 : CV (sF (rqF p) (rqF q)) (sF (rqF r) (rqF t)) = some (fitsS (mnQ [p * t, q * r, q * t] (p * r)) (mxQ [p * t, q * r, q * t] (p * r))) := by
  obtain ⟨l1, l3⟩ := Zc hp hq hpq hr ht hrt
  have ha := Rs (k := 80) (by omega) l3 l1 (by simp)
  unfold CV
  simp only [peta, sQ_e]
  rw [PE hp hq hpq hr ht hrt]
  simp only [peta, obs, nT, cF, CW, Cc, sF_e, EM (k := 40) (by omega) hp hr, EM (k := 40) (by omega) hp ht, EM (k := 40) (by omega) hq hr, EM (k := 40) (by omega) hq ht, KE, JM]
  have ha' : Bt [rq (p * r), rq (p * t), rq (q * r), rq (q * t)] = _ := ha
  rw [ha']
  simp only [obs, peta]
theorem Zs : C6 (sF (rqF p) (rqF q)) (sF (rqF r) (rqF t)) = some (fitsS (mnQ [p * t, q * r, q * t] (p * r)) (mxQ [p * t, q * r, q * t] (p * r))) := by
  obtain ⟨l1, l3⟩ := Zc hp hq hpq hr ht hrt
  have ha := Xl (k := 80) (by omega) l3 l1 (by simp)
  have hf := HB (k := 80) (by omega) (Yv l3 l1) (X9 l3 l1)
  unfold C6
  simp only [peta, PB hp hq hpq hr ht hrt, obs, nT, cF, CW, Cc, sF_e, Ky (k := 40) (by omega) hp hr, Ky (k := 40) (by omega) hp ht, Ky (k := 40) (by omega) hq hr, Ky (k := 40) (by omega) hq ht, KE, JM]
  have ha' : C4 [rq (p * r), rq (p * t), rq (q * r), rq (q * t)] = _ := ha
  rw [ha']
  simp only [obs, peta, hf]
theorem Yc : Cx (sF (rqF p) (rqF q)) (sF (rqF r) (rqF t)) = some (fitsS (mnQ [q, r, t] p) (mxQ [q, r, t] p)) := by
  have ha := Rs (k := 40) (l := [q, r, t]) (by omega) hp (by intro x hx; simp at hx; rcases hx with rfl | rfl | rfl; exact hq; exact hr; exact ht) (by simp)
  unfold Cx
  simp only [peta, sQ_e]
  rw [PE hp hq hpq hr ht hrt]
  simp only [peta, obs, nT, cF, sF_q, Cc, sF_e, KE, JM]
  have ha' : Bt [rq p, rq q, rq r, rq t] = _ := ha
  rw [ha']
  simp only [obs, peta]
theorem X5 : Cs (sF (rqF p) (rqF q)) (sF (rqF r) (rqF t)) = some (fitsS (mnQ [q, r, t] p) (mxQ [q, r, t] p)) := by
  have hl : ∀ x ∈ [q, r, t], Sz 40 x := by intro x hx; simp at hx; rcases hx with rfl | rfl | rfl; exact hq; exact hr; exact ht
  have ha := Xl (k := 40) (l := [q, r, t]) (by omega) hp hl (by simp)
  have hf := HB (k := 40) (by omega) (Yv hp hl) (X9 hp hl)
  unfold Cs
  simp only [peta, PB hp hq hpq hr ht hrt, obs, nT, cF, sF_q, Cc, sF_e, KE, JM]
  have ha' : C4 [rq p, rq q, rq r, rq t] = _ := ha
  rw [ha']
  simp only [obs, peta, hf]
end
end Go.Proofs.YtgfchmagglhohaaGreat.Ev

end
section
namespace Go.Proofs.YtgfchmagglhohaaGreat.Ev
open Go
set_option linter.unusedVariables false
set_option linter.unusedSimpArgs false
set_option linter.unusedSectionVars false
theorem sEl {α β γ : Type} (f : α → γ) (g : β → γ) (x : α) : Sum.elim f g (.inl x) = f x := (rfl)
theorem sEr {α β γ : Type} (f : α → γ) (g : β → γ) (x : β) : Sum.elim f g (.inr x) = g x := (rfl)
theorem QT {p q x y : Rat} (h1 : p ≤ x) (h2 : x ≤ q) : (p * y ≤ x * y ∨ q * y ≤ x * y) ∧ (x * y ≤ p * y ∨ x * y ≤ q * y) := by
  rcases Rat.le_total (a := 0) (b := y) with h | h
  · exact ⟨.inl (Rat.mul_le_mul_of_nonneg_right h1 h), .inr (Rat.mul_le_mul_of_nonneg_right h2 h)⟩
  · have hn : 0 ≤ -y := by grind
    have a1 := Rat.mul_le_mul_of_nonneg_right h1 hn
    have a2 := Rat.mul_le_mul_of_nonneg_right h2 hn
    rw [Rat.mul_neg, Rat.mul_neg] at a1 a2
    exact ⟨.inr (Rat.neg_le_neg_iff.1 a2), .inl (Rat.neg_le_neg_iff.1 a1)⟩
theorem At6 {p q r t x y : Rat} (h1 : p ≤ x) (h2 : x ≤ q) (h3 : r ≤ y) (h4 : y ≤ t) : mnQ [p * t, q * r, q * t] (p * r) ≤ x * y ∧ x * y ≤ mxQ [p * t, q * r, q * t] (p * r) := by
  obtain ⟨m0, m1⟩ := Yy [p * t, q * r, q * t] (p * r)
  obtain ⟨x0, x1⟩ := X2 [p * t, q * r, q * t] (p * r)
  have a1 := m1 (p * t) (by simp); have a2 := m1 (q * r) (by simp); have a3 := m1 (q * t) (by simp)
  have b1 := x1 (p * t) (by simp); have b2 := x1 (q * r) (by simp); have b3 := x1 (q * t) (by simp)
  obtain ⟨s1, s2⟩ := QT (y := y) h1 h2
  obtain ⟨u1, u2⟩ := QT (y := p) h3 h4
  obtain ⟨v1, v2⟩ := QT (y := q) h3 h4
  rw [Rat.mul_comm r p, Rat.mul_comm t p, Rat.mul_comm y p] at u1 u2
  rw [Rat.mul_comm r q, Rat.mul_comm t q, Rat.mul_comm y q] at v1 v2
  generalize mnQ [p * t, q * r, q * t] (p * r) = m at *
  generalize mxQ [p * t, q * r, q * t] (p * r) = M at *
  generalize p * r = c1 at *
  generalize p * t = c2 at *
  generalize q * r = c3 at *
  generalize q * t = c4 at *
  generalize p * y = c5 at *
  generalize q * y = c6 at *
  generalize x * y = c7 at *
  constructor
  · rcases s1 with s1 | s1
    · rcases u1 with u1 | u1 <;> grind
    · rcases v1 with v1 | v1 <;> grind
  · rcases s2 with s2 | s2
    · rcases u2 with u2 | u2 <;> grind
    · rcases v2 with v2 | v2 <;> grind
section
variable {p q r t : Rat} (hp : Sz 40 p) (hq : Sz 40 q) (hpq : p ≤ q) (hr : Sz 40 r) (ht : Sz 40 t) (hrt : r ≤ t)
variable {ml mh jl jh : Rat} (hml : ml = mnQ [p * t, q * r, q * t] (p * r)) (hmh : mh = mxQ [p * t, q * r, q * t] (p * r)) (hjl : jl = mnQ [q, r, t] p) (hjh : jh = mxQ [q, r, t] p)
variable (a1 : Sz 40 (p + r)) (a2 : Sz 40 (q + t)) (d1 : Sz 40 (p - t)) (d2 : Sz 40 (q - r)) (m1 : Sz 40 ml) (m2 : Sz 40 mh) (j1 : Sz 40 jl) (j2 : Sz 40 jh)
include hp hq hpq hr ht hrt hml hmh hjl hjh a1 a2 d1 d2 m1 m2 j1 j2
theorem Xw {x y : Rat} (hx : Sz 40 x) (hy : Sz 40 y) {L : List RQ} {k : Nat} (hL : L.length ≤ 1000) (hk : L[k]? = some (rq y)) (s6 : RF) (s8 : List RQ) (m : List Int) (n1 n2 : Int) :
    BV (sF (rqF p) (rqF q)) (sF (rqF r) (rqF t)) (sF (rqF (p + r)) (rqF (q + t))) (sF (rqF (p - t)) (rqF (q - r))) (sF (rqF ml) (rqF mh)) (sF (rqF jl) (rqF jh)) s6 (rqF x) s8 L m n1 n2 (L.length : Int) (k : Int) =
      some (.inl (sF (rqF p) (rqF q), (sF (rqF r) (rqF t), (sF (rqF (p + r)) (rqF (q + t)), (sF (rqF (p - t)) (rqF (q - r)), (sF (rqF ml) (rqF mh), (sF (rqF jl) (rqF jh), (s6, (rqF x, (s8, (L, (m, (n1, (n2, ((L.length : Int), ((k + 1 : Nat) : Int)))))))))))))))) := by
  have hkl := getL hk
  obtain ⟨g1, g2⟩ := Yy [q, r, t] p
  obtain ⟨g3, g4⟩ := X2 [q, r, t] p
  unfold BV
  rw [decide_eq_true (show (k : Int) < (L.length : Int) by omega)]
  simp only [cT, AL hkl, obs, show getN L k = some (rq y) from hk, peta, Gk hp hq hpq hx, rq_f, wrap1 (show k < 4611686018427387904 by omega)]
  by_cases c1 : p ≤ x ∧ x ≤ q
  · rw [decide_eq_true c1]
    simp only [nT, cF, Gk hr ht hrt hy, obs]
    by_cases c2 : r ≤ y ∧ y ≤ t
    · rw [decide_eq_true c2]
      obtain ⟨x1, x2⟩ := c1
      obtain ⟨y1, y2⟩ := c2
      obtain ⟨u1, u2⟩ := At6 x1 x2 y1 y2
      rw [← hml] at u1
      rw [← hmh] at u2
      have w2 : Sz 40 (x + y) → Ak (sF (rqF (p + r)) (rqF (q + t))) (rqF (x + y)) = some true := fun h => by
        rw [Gk a1 a2 (by grind) h, decide_eq_true (by constructor <;> grind)]
      have w3 : Sz 40 (x - y) → Ak (sF (rqF (p - t)) (rqF (q - r))) (rqF (x - y)) = some true := fun h => by
        rw [Gk d1 d2 (by grind) h, decide_eq_true (by constructor <;> grind)]
      have w4 : Sz 40 (x * y) → Ak (sF (rqF ml) (rqF mh)) (rqF (x * y)) = some true := fun h => by
        rw [Gk m1 m2 (Rat.le_trans u1 u2) h, decide_eq_true ⟨u1, u2⟩]
      have hj : jl ≤ p ∧ p ≤ jh ∧ jl ≤ q ∧ q ≤ jh ∧ jl ≤ r ∧ r ≤ jh ∧ jl ≤ t ∧ t ≤ jh := by
        rw [hjl, hjh]
        exact ⟨g1, g3, g2 q (by simp), g4 q (by simp), g2 r (by simp), g4 r (by simp), g2 t (by simp), g4 t (by simp)⟩
      have w5 : Ak (sF (rqF jl) (rqF jh)) (rqF x) = some true := by
        rw [Gk j1 j2 (by grind) hx, decide_eq_true (by constructor <;> grind)]
      have w6 : Ak (sF (rqF jl) (rqF jh)) (rqF y) = some true := by
        rw [Gk j1 j2 (by grind) hy, decide_eq_true (by constructor <;> grind)]
      simp only [nT, cF, Al3 hx hy, Ak9 hx hy, Al0 hx hy, obs]
      by_cases f1 : Sz 40 (x + y) <;> by_cases f2 : Sz 40 (x - y) <;> by_cases f3 : Sz 40 (x * y)
      all_goals (first | rw [EI f1] | rw [FQ f1])
      all_goals (first | rw [EI f2] | rw [FQ f2])
      all_goals (first | rw [EI f3] | rw [FQ f3])
      all_goals (try simp only [w2 f1])
      all_goals (try simp only [w3 f2])
      all_goals (try simp only [w4 f3])
      all_goals simp only [w5, w6, cT, cF, obs, nT]
    · rw [decide_eq_false c2]
      simp only [nF, cT]
  · rw [decide_eq_false c1]
    simp only [nF, cT]
theorem Vq {x h : Rat} (hx : Sz 40 x) (hh : Sz 40 h) (s8 : List RQ) (m : List Int) (n1 n2 : Int) :
    loopM (fun (s : (SF × (SF × (SF × (SF × (SF × (SF × (RF × (RF × ((List RQ) × ((List RQ) × ((List Int) × (Int × (Int × (Int × Int))))))))))))))) => BV s.1 s.2.1 s.2.2.1 s.2.2.2.1 s.2.2.2.2.1 s.2.2.2.2.2.1 s.2.2.2.2.2.2.1 s.2.2.2.2.2.2.2.1 s.2.2.2.2.2.2.2.2.1 s.2.2.2.2.2.2.2.2.2.1 s.2.2.2.2.2.2.2.2.2.2.1 s.2.2.2.2.2.2.2.2.2.2.2.1 s.2.2.2.2.2.2.2.2.2.2.2.2.1 s.2.2.2.2.2.2.2.2.2.2.2.2.2.1 s.2.2.2.2.2.2.2.2.2.2.2.2.2.2) (sF (rqF p) (rqF q), (sF (rqF r) (rqF t), (sF (rqF (p + r)) (rqF (q + t)), (sF (rqF (p - t)) (rqF (q - r)), (sF (rqF ml) (rqF mh), (sF (rqF jl) (rqF jh), (rqF h, (rqF x, (s8, ([rq r, rq t, rq h], (m, (n1, (n2, (3, (0 : Int))))))))))))))) =
      some (.inl (sF (rqF p) (rqF q), (sF (rqF r) (rqF t), (sF (rqF (p + r)) (rqF (q + t)), (sF (rqF (p - t)) (rqF (q - r)), (sF (rqF ml) (rqF mh), (sF (rqF jl) (rqF jh), (rqF h, (s8, (m, (n1, n2))))))))))) := by
  obtain ⟨h1, h2⟩ := FR (l := [r, t, h]) (body := fun (s : (SF × (SF × (SF × (SF × (SF × (SF × (RF × (RF × ((List RQ) × ((List RQ) × ((List Int) × (Int × (Int × (Int × Int))))))))))))))) => BV s.1 s.2.1 s.2.2.1 s.2.2.2.1 s.2.2.2.2.1 s.2.2.2.2.2.1 s.2.2.2.2.2.2.1 s.2.2.2.2.2.2.2.1 s.2.2.2.2.2.2.2.2.1 s.2.2.2.2.2.2.2.2.2.1 s.2.2.2.2.2.2.2.2.2.2.1 s.2.2.2.2.2.2.2.2.2.2.2.1 s.2.2.2.2.2.2.2.2.2.2.2.2.1 s.2.2.2.2.2.2.2.2.2.2.2.2.2.1 s.2.2.2.2.2.2.2.2.2.2.2.2.2.2)
    (st := fun k (_ : Unit) => (sF (rqF p) (rqF q), (sF (rqF r) (rqF t), (sF (rqF (p + r)) (rqF (q + t)), (sF (rqF (p - t)) (rqF (q - r)), (sF (rqF ml) (rqF mh), (sF (rqF jl) (rqF jh), (rqF h, (rqF x, (s8, ([rq r, rq t, rq h], (m, (n1, (n2, (3, (k : Int)))))))))))))))) (step := fun _ _ => ()) (fin := fun _ => .inl (sF (rqF p) (rqF q), (sF (rqF r) (rqF t), (sF (rqF (p + r)) (rqF (q + t)), (sF (rqF (p - t)) (rqF (q - r)), (sF (rqF ml) (rqF mh), (sF (rqF jl) (rqF jh), (rqF h, (s8, (m, (n1, n2))))))))))) (I := fun _ _ => True)
    (by
      rintro k _ y hk _
      have hy : Sz 40 y := by
        have := List.mem_of_getElem? hk
        simp at this
        rcases this with rfl | rfl | rfl
        · exact hr
        · exact ht
        · exact hh
      have hL : ([rq r, rq t, rq h] : List RQ)[k]? = some (rq y) := by
        have : ([r, t, h].map rq)[k]? = some (rq y) := by rw [List.getElem?_map, hk]; rfl
        exact this
      exact ⟨Xw hp hq hpq hr ht hrt hml hmh hjl hjh a1 a2 d1 d2 m1 m2 j1 j2 hx hy (L := [rq r, rq t, rq h]) (by simp) hL (rqF h) s8 m n1 n2, trivial⟩)
    (by
      rintro _ _
      show BV (sF (rqF p) (rqF q)) (sF (rqF r) (rqF t)) (sF (rqF (p + r)) (rqF (q + t))) (sF (rqF (p - t)) (rqF (q - r))) (sF (rqF ml) (rqF mh)) (sF (rqF jl) (rqF jh)) (rqF h) (rqF x) s8 [rq r, rq t, rq h] m n1 n2 3 3 = _
      unfold BV
      rw [decide_eq_false (by omega)]
      simp only [cF, peta]) () trivial
  exact h1
theorem VK {h : Rat} (hh : Sz 40 h) (m : List Int) :
    loopM (fun (s : (SF × (SF × (SF × (SF × (SF × (SF × (RF × ((List RQ) × ((List Int) × (Int × Int))))))))))) => BW s.1 s.2.1 s.2.2.1 s.2.2.2.1 s.2.2.2.2.1 s.2.2.2.2.2.1 s.2.2.2.2.2.2.1 s.2.2.2.2.2.2.2.1 s.2.2.2.2.2.2.2.2.1 s.2.2.2.2.2.2.2.2.2.1 s.2.2.2.2.2.2.2.2.2.2) (sF (rqF p) (rqF q), (sF (rqF r) (rqF t), (sF (rqF (p + r)) (rqF (q + t)), (sF (rqF (p - t)) (rqF (q - r)), (sF (rqF ml) (rqF mh), (sF (rqF jl) (rqF jh), (rqF h, ([rq p, rq q, rq h], (m, (3, (0 : Int))))))))))) = some (.inl m) := by
  obtain ⟨h1, h2⟩ := FR (l := [p, q, h]) (body := fun (s : (SF × (SF × (SF × (SF × (SF × (SF × (RF × ((List RQ) × ((List Int) × (Int × Int))))))))))) => BW s.1 s.2.1 s.2.2.1 s.2.2.2.1 s.2.2.2.2.1 s.2.2.2.2.2.1 s.2.2.2.2.2.2.1 s.2.2.2.2.2.2.2.1 s.2.2.2.2.2.2.2.2.1 s.2.2.2.2.2.2.2.2.2.1 s.2.2.2.2.2.2.2.2.2.2)
    (st := fun k (_ : Unit) => (sF (rqF p) (rqF q), (sF (rqF r) (rqF t), (sF (rqF (p + r)) (rqF (q + t)), (sF (rqF (p - t)) (rqF (q - r)), (sF (rqF ml) (rqF mh), (sF (rqF jl) (rqF jh), (rqF h, ([rq p, rq q, rq h], (m, (3, (k : Int)))))))))))) (step := fun _ _ => ()) (fin := fun _ => .inl m) (I := fun _ _ => True)
    (by
      rintro k _ x hk _
      have hkl : k < 3 := getL hk
      have hx : Sz 40 x := by
        have := List.mem_of_getElem? hk
        simp at this
        rcases this with rfl | rfl | rfl
        · exact hp
        · exact hq
        · exact hh
      have hL : getN ([rq p, rq q, rq h] : List RQ) k = some (rq x) := by
        have : ([p, q, h].map rq)[k]? = some (rq x) := by rw [List.getElem?_map, hk]; rfl
        exact this
      have hi := Vq hp hq hpq hr ht hrt hml hmh hjl hjh a1 a2 d1 d2 m1 m2 j1 j2 hx hh [rq p, rq q, rq h] m 3 (k : Int)
      refine ⟨?_, trivial⟩
      show BW (sF (rqF p) (rqF q)) (sF (rqF r) (rqF t)) (sF (rqF (p + r)) (rqF (q + t))) (sF (rqF (p - t)) (rqF (q - r))) (sF (rqF ml) (rqF mh)) (sF (rqF jl) (rqF jh)) (rqF h) [rq p, rq q, rq h] m 3 (k : Int) = _
      unfold BW
      rw [decide_eq_true (show (k : Int) < 3 by omega)]
      have hlen : ([rq p, rq q, rq h] : List RQ).length = 3 := rfl
      simp only [cT, hlen, AL hkl, obs, hL, sF_q, Cc, KE, JM, peta, rq_f, sF_e]
      have hlen2 : ((([rq r, rq t, rq h] : List RQ).length : Nat) : Int) = 3 := rfl
      rw [hlen2, hi]
      simp only [obs, sEl, wrap1 (show k < 4611686018427387904 by omega)])
    (by
      rintro _ _
      show BW (sF (rqF p) (rqF q)) (sF (rqF r) (rqF t)) (sF (rqF (p + r)) (rqF (q + t))) (sF (rqF (p - t)) (rqF (q - r))) (sF (rqF ml) (rqF mh)) (sF (rqF jl) (rqF jh)) (rqF h) [rq p, rq q, rq h] m 3 3 = _
      unfold BW
      rw [decide_eq_false (by omega)]
      rfl) () trivial
  exact h1
end
theorem Zx {p q : Rat} (hpq : p ≤ q) (h : ¬ (p ≤ 0 ∧ 0 ≤ q)) : p ≠ 0 ∧ q ≠ 0 ∧ 1 / q ≤ 1 / p ∧ ¬ (1 / q ≤ 0 ∧ 0 ≤ 1 / p) := by
  have h1 : p ≠ 0 := fun e => h ⟨by rw [e]; exact Rat.le_refl, by rw [← e]; exact hpq⟩
  have h2 : q ≠ 0 := fun e => h ⟨by rw [← e]; exact hpq, by rw [e]; exact Rat.le_refl⟩
  have hpos : 0 < p * q := by
    by_cases c : 0 < p
    · exact Rat.mul_pos c (by grind)
    · have c1 : 0 < -p := by grind
      have c2 : 0 < -q := by grind
      have := Rat.mul_pos c1 c2
      rw [Rat.mul_neg, Rat.neg_mul, Rat.neg_neg] at this
      exact this
  have e1 : 1 / q * (p * q) = p := by
    rw [Rat.div_def, Rat.one_mul, Rat.mul_comm p q, ← Rat.mul_assoc, Rat.inv_mul_cancel q h2, Rat.one_mul]
  have e2 : 1 / p * (p * q) = q := by
    rw [Rat.div_def, Rat.one_mul, ← Rat.mul_assoc, Rat.inv_mul_cancel p h1, Rat.one_mul]
  refine ⟨h1, h2, Rat.le_of_mul_le_mul_right (c := p * q) (by rw [e1, e2]; exact hpq) hpos, ?_⟩
  rintro ⟨g1, g2⟩
  have k1 := Rat.mul_le_mul_of_nonneg_right g1 (Rat.le_of_lt hpos)
  have k2 := Rat.mul_le_mul_of_nonneg_right g2 (Rat.le_of_lt hpos)
  rw [e1, Rat.zero_mul] at k1
  rw [e2, Rat.zero_mul] at k2
  exact h ⟨k1, k2⟩
theorem Nv (x : Rat) : 0 ≤ x * x := by
  rcases Rat.le_total (a := 0) (b := x) with h | h
  · exact Rat.mul_nonneg h h
  · have hn : 0 ≤ -x := by grind
    have := Rat.mul_nonneg hn hn
    rwa [Rat.mul_neg, Rat.neg_mul, Rat.neg_neg] at this
theorem Uf {B' : Nat} {c : List Int × Int × Int} (h : Cur B' c) (hB : B' ≤ 800000000) : ∃ c' a b, BN c = some (c', sF a b) ∧ Cur (B' + 1500) c' ∧ ShF a ∧ ShF b := by
  unfold BN
  obtain ⟨c0, a, e0, q0, s0⟩ := Aj2 h (by omega)
  obtain ⟨c1, b, e1, q1, s1⟩ := Aj2 q0 (by omega)
  simp only [e0, e1, obs, peta, Kq s0.br, Kq s1.br]
  have fin : ∃ c' u v, (some (c1, (a.1, (a.2.1, (a.2.2.1, (a.2.2.2, b))))) : Option ((List Int × Int × Int) × SF)) = some (c', sF u v) ∧ Cur (B' + 1500) c' ∧ ShF u ∧ ShF v := ⟨c1, a, b, rfl, q1.mono (by omega), s0, s1⟩
  cases g1 : goodQ (toQ a) with
  | false => simp only [cF]; exact fin
  | true =>
    cases g2 : goodQ (toQ b) with
    | false => simp only [cT, cF]; exact fin
    | true =>
      obtain ⟨p, hp, rfl⟩ := Px g1
      obtain ⟨q, hq, rfl⟩ := Px g2
      simp only [cT, H0 (k := 40) (by omega) hp hq, obs]
      by_cases hc : cmpQ p q > 0
      · obtain ⟨c2, v2, e2, q2⟩ := QA q1 (by omega) 12
        rw [decide_eq_true hc]
        simp only [cT, e2, obs]
        cases v2
        · exact ⟨c2, rqF q, rqF p, rfl, q2.mono (by omega), s1, s0⟩
        · exact ⟨c2, rqF p, rqF q, rfl, q2.mono (by omega), s0, s1⟩
      · rw [decide_eq_false hc]
        exact fin
theorem ZC {l : List Int} (h : Cur 0 (l, 0, 0)) : ∃ a b, Cf l = some (sF a b) ∧ ShF a ∧ ShF b := by
  unfold Cf
  obtain ⟨c, a, b, e, q, s1, s2⟩ := Uf h (by omega)
  simp only [e, obs, peta]
  exact ⟨a, b, rfl, s1, s2⟩
theorem XL {l : List Int} (h : Cur 0 (l, 0, 0)) : ∃ a b c d, CC l = some (sF a b, sF c d) ∧ ShF a ∧ ShF b ∧ ShF c ∧ ShF d := by
  unfold CC DC
  obtain ⟨c0, a, b, e, q, s1, s2⟩ := Uf h (by omega)
  obtain ⟨c1, c, d, e', q', s3, s4⟩ := Uf q (by omega)
  simp only [e, e', obs, peta]
  exact ⟨a, b, c, d, rfl, s1, s2, s3, s4⟩
theorem Aa8 (p q : Rat) : Au (invV p q).1 (invV p q).1 = some true := by
  unfold invV
  split
  · exact FM
  · exact Fo _ _
theorem At0 (m : Rat) (b : RF) : (sF (rqF m) b).1 = decide (m.num < 0) := (rfl)
theorem Xr {b : List Int} (hb : Cur 0 (b, 0, 0)) :
    ((Bh b)).bind (fun x22 =>
    ((Bp x22)).bind fun x23 =>
    ((Bo x22)).bind fun x24 =>
    ((AX x22)).bind fun x25 =>
    ((Bn x22)).bind fun x26 =>
    ((Cp x22)).bind fun x27 =>
    ((Ck x22)).bind fun x28 =>
    bif (!(x23.2 == x24.2)) then
      some false
    else
    ((Au x23.1 x24.1)).bind fun x29 =>
    bif (!x29) then
      some false
    else
    bif (!(x25.2 == x26.2)) then
      some false
    else
    ((Au x25.1 x26.1)).bind fun x30 =>
    bif (!x30) then
      some false
    else
    bif (!(x27.2 == x28.2)) then
      some false
    else
    ((Bc x27.1 x28.1)).bind fun x31 =>
    bif (!x31) then
      some false
    else
    (bif x25.2 then
        ((AX x25.1)).bind fun x32 =>
        bif (!x32.2) then
          some (Sum.inl false)
        else
        ((Au x32.1 x22)).bind fun x33 =>
        bif (!x33) then
          some (Sum.inl false)
        else
        some (Sum.inr x23)
      else
      some (Sum.inr x23)).bind fun x34 =>
    Sum.elim
      (fun x35 =>
      some x35)
      (fun x36 =>
      bif (!x36.2) then
        some true
      else
      some (!x36.1.1))
      x34) = some true := by
  obtain ⟨a, c, e, sa, sc⟩ := ZC hb
  have hdraw : Bh b = some (sF a c) := by unfold Bh; rw [e]; rfl
  obtain ⟨g, hg, hk⟩ := spK sa.br sc.br
  simp only [hdraw, obs]
  cases g with
  | false =>
    simp only [Nf hg, NN hg, Ns hg, M6 hg, SD hg, Si hg, obs, beq_self_eq_true, nT, cF, FM, OQ, sEr, nF, cT]
  | true =>
    obtain ⟨p, q, hp, hq, hpq, e2⟩ := hk rfl
    rw [e2]
    simp only [Un hp hq hpq, Ue hp hq hpq, Ma hp hq hpq, Ux hp hq hpq, ZT hp hq hpq, Aa6 hp hq hpq, obs, beq_self_eq_true, nT, cF, Fo, Aa8, Qb]
    obtain ⟨l1, l2, l3⟩ := Yf hp hq hpq
    have hlo : 0 ≤ mnQ (sqL p q) (p * p) := by
      rcases Vd (sqL p q) (p * p) with h | h
      · rw [h]; exact Nv p
      · unfold sqL at h
        split at h
        · rename_i hc
          have : sqL p q = [q * q, 0] := by unfold sqL; rw [if_pos hc]
          rw [this]
          simp at h
          rcases h with h | h
          · rw [h]; exact Nv q
          · rw [h]; exact Rat.le_refl
        · rename_i hc
          have : sqL p q = [q * q] := by unfold sqL; rw [if_neg hc]
          rw [this]
          simp at h
          rw [h]; exact Nv q
    generalize hX : fitsS (mnQ (sqL p q) (p * p)) (mxQ (sqL p q) (p * p)) = X
    have fin : (bif (!X.2) then some true else some (!X.1.1)) = some true := by
      cases hf : X.2 with
      | false => rfl
      | true =>
        rw [← hX] at hf
        obtain ⟨f1, f2, f3⟩ := EQ hf
        rw [← hX, f3]
        simp only [nT, cF]
        rw [At0, decide_eq_false (by have := Rat.num_nonneg.2 hlo; omega)]
        rfl
    generalize hV : invV p q = V
    cases hi : V.2 with
    | false => simp only [cF, obs, sEr]; exact fin
    | true =>
      obtain ⟨f1, f2, n1, n2, n3, n4, f3⟩ : Sz 40 (1 / q) ∧ Sz 40 (1 / p) ∧ p ≠ 0 ∧ q ≠ 0 ∧ 1 / q ≤ 1 / p ∧ ¬ (1 / q ≤ 0 ∧ 0 ≤ 1 / p) ∧ V = (sF (rqF (1 / q)) (rqF (1 / p)), true) := by
        have hc : ¬ (p ≤ 0 ∧ 0 ≤ q) := by
          intro h
          rw [← hV] at hi
          unfold invV at hi
          rw [if_pos h] at hi
          cases hi
        have hv : invV p q = fitsS (1 / q) (1 / p) := by unfold invV; rw [if_neg hc]
        rw [← hV, hv] at hi
        obtain ⟨f1, f2, f3⟩ := EQ hi
        obtain ⟨n1, n2, n3, n4⟩ := Zx hpq hc
        exact ⟨f1, f2, n1, n2, n3, n4, by rw [← hV, hv, f3]⟩
      have hv2 : invV (1 / q) (1 / p) = (sF (rqF p) (rqF q), true) := by
        unfold invV
        rw [if_neg n4, WR n1, WR n2]
        unfold fitsS
        rw [if_pos ⟨hp, hq⟩]
      rw [f3]
      simp only [cT, Ma f1 f2 n3, obs, hv2, nT, cF, K5 (SJ (k := 40) (by omega) hp) (SJ (k := 40) (by omega) hq), sEr]
      exact fin
theorem An3 : ∃ h : Rat, Sz 40 h ∧ FX (1 : Int) (2 : Int) = some (rqF h, true) := by
  refine ⟨Rat.divInt 1 2, (WI (by omega) (by omega) (by omega)).mono (by omega), ?_⟩
  rw [Am8, Yx (by omega) (by omega) (by omega)]
theorem pureFnSpans {a b : List Int} (ha : ∀ x ∈ a, 0 ≤ x ∧ x ≤ 255) (hb : ∀ x ∈ b, 0 ≤ x ∧ x ≤ 255) (la : a.length ≤ 1000000000000000) (lb : b.length ≤ 1000000000000000) : E9 a b = some true := by
  unfold E9
  rw [wrapI (by omega) (by omega)]
  by_cases hl : (a.length : Int) + (b.length : Int) > 1048576
  · rw [decide_eq_true hl]; rfl
  rw [decide_eq_false hl]
  have ca : Cur 0 (a, 0, 0) := .start ha (by omega)
  have cb : Cur 0 (b, 0, 0) := .start hb (by omega)
  have last := Xr cb
  obtain ⟨u, v, w, z, e1, s1, s2, s3, s4⟩ := XL ca
  obtain ⟨g, hg, hk⟩ := spK s1.br s2.br
  obtain ⟨g', hg', hk'⟩ := spK s3.br s4.br
  simp only [cF, e1, obs, peta]
  cases hgg : (g && g') with
  | false =>
    simp only [Ss hg hg' hgg, Sl hg hg' hgg, Su hg hg' hgg, Sg hg hg' hgg, So hg hg' hgg, R8 hg hg' hgg, Qg hg hg' hgg, Q5 hg hg' hgg, hg.1, hg.2, obs, beq_self_eq_true, nT, cF, FM, sEr]
    exact last
  | true =>
    rw [Bool.and_eq_true] at hgg
    obtain ⟨p, q, hp, hq, hpq, f1⟩ := hk hgg.1
    obtain ⟨r, t, hr, ht, hrt, f2⟩ := hk' hgg.2
    rw [f1] at hg ⊢
    rw [f2]
    obtain ⟨h, hh, eh⟩ := An3
    simp only [Zu hp hq hpq hr ht hrt, ZV hp hq hpq hr ht hrt, ZU hp hq hpq hr ht hrt, ZX hp hq hpq hr ht hrt, Ac1 hp hq hpq hr ht hrt, Zs hp hq hpq hr ht hrt, Yc hp hq hpq hr ht hrt, X5 hp hq hpq hr ht hrt, hg.1, hg.2, obs, beq_self_eq_true, nT, cF, Fo]
    cases c1 : (fitsS (p + r) (q + t)).2 with
    | false => simp only [cF, obs, sEr]; exact last
    | true =>
      cases c2 : (fitsS (p - t) (q - r)).2 with
      | false => simp only [cT, cF, obs, sEr]; exact last
      | true =>
        cases c3 : (fitsS (mnQ [p * t, q * r, q * t] (p * r)) (mxQ [p * t, q * r, q * t] (p * r))).2 with
        | false => simp only [cT, cF, obs, sEr]; exact last
        | true =>
          cases c4 : (fitsS (mnQ [q, r, t] p) (mxQ [q, r, t] p)).2 with
          | false => simp only [cT, cF, obs, sEr]; exact last
          | true =>
            obtain ⟨a1, a2, ea⟩ := EQ c1
            obtain ⟨d1, d2, ed⟩ := EQ c2
            obtain ⟨m1, m2, em⟩ := EQ c3
            obtain ⟨j1, j2, ej⟩ := EQ c4
            have ho := VK hp hq hpq hr ht hrt rfl rfl rfl rfl a1 a2 d1 d2 m1 m2 j1 j2 hh b
            simp only [cT, eh, obs, ea, ed, em, ej, sF_q, Cc, sF_e, KE, JM]
            have hlen : ((([rq p, rq q, rq h] : List RQ).length : Nat) : Int) = 3 := rfl
            rw [hlen, ho]
            simp only [obs, sEl, sEr]
            exact last
end Go.Proofs.YtgfchmagglhohaaGreat.Ev

end
section
namespace Go.Proofs.YtgfchmagglhohaaGreat.Ev
open Go Go.RowKit Go.ChangeShapes Go.WideShapes Go.ChangeAt
set_option linter.unusedVariables false
def shs : List Sh := [.sl 1 (.int .u8), .sl 1 (.int .u8)]
theorem fits : FitsL Tryz.prog [22, 22] shs := by
  have h : Fits Tryz.prog 22 (.sl 1 (.int .u8)) := .sl Tryz.underlying22 (by kernel_rfl) (by kernel_rfl) (.int Tryz.underlying5)
  exact ⟨h, h, trivial⟩
theorem bytes_wf {l : List Int} (h : WFC (.sl 1 (.int .u8)) l) : (∀ x ∈ l, 0 ≤ x ∧ x ≤ 255) ∧ l.length ≤ 1000000000000000 := by
  have h1 : ∀ x ∈ l, (Lit.int .u8 x).wf = true := h.1
  have h2 : l.length * 1 ≤ maxBytes := h.2
  refine ⟨fun x hx => ?_, by unfold maxBytes at h2; omega⟩
  have := h1 x hx
  simp [Lit.wf, IntKind.min, IntKind.max, IntKind.bits, IntKind.signed] at this
  omega
theorem own : ownKnob Tryz.prog.godebug = none := by kernel_rfl
theorem laid : laidOutB Tryz.prog = true := by kernel_rfl
set_option maxRecDepth 100000 in
theorem lifted (os : Os) (started : os.Started) (H : Type) (enc : TypeId × Value → H) :
    ReturnsInHanded {} Tryz.checked os 4 .any (Rows.fnSpansSpec.pre6 enc Tryz.prog Tryz.f4 Rows.fnSpansRow.domain false) (Rows.fnSpansSpec.post enc Tryz.prog Tryz.f4 false true false false) := by
  refine returnsInHanded_of_change_sized (C := Tryz.checked) own started (by kernel_rfl) Tryz.func4 (ChangeSpec.witness6 (enc := enc) (C := Tryz.checked) false ⟨#[], #[.slice none 0 0, .slice none 0 0], []⟩ 8 (by kernel_rfl) (by kernel_rfl) (by kernel_rfl) (by kernel_rfl)) ?_
  intro W base args ds gs before hval hW hcnd hsz _
  exact UY (P := Tryz.prog) (J := []) (cf := cf0) (ext := ext0) (F := fun x => E9 x.1 x.2) (shs := shs) (by kernel_rfl) Al1 T7 (fun d => by kernel_rfl)
    (fun d hd => pureFnSpans (bytes_wf hd.1).1 (bytes_wf hd.2.1).1 (bytes_wf hd.1).2 (bytes_wf hd.2.1).2) rfl rfl rfl (by kernel_rfl) fits laid
    (fun t ht => by
      have : t = 22 := by simpa using ht
      subst this
      exact ⟨by kernel_rfl, of_decide_eq_true (by kernel_rfl)⟩) rfl
    (fun ds hl => by
      match ds, hl with
      | [_, _], _ => rfl) (fun x hx => absurd hx (List.not_mem_nil)) hval hW hsz
theorem over : Rows.fnSpansRow.holds Tryz.pinned (OpenSpec.ofChange Rows.fnSpansSpec) :=
  OpenClaim.holds_of_wide 4 Tryz.f4 rfl rfl rfl rfl rfl rfl rfl ⟨rfl, rfl, rfl, rfl, rfl⟩ rfl rfl rfl rfl rfl (by kernel_rfl) Tryz.func4 (by kernel_rfl)
    (of_decide_eq_true (by kernel_rfl)) (by unfold Func.isWrapper; first | (rw [if_pos (by decide +kernel)]; kernel_rfl) | (rw [if_neg (by decide +kernel)]; exact ⟨rfl, rfl⟩))
    (fun os started H enc _ => lifted os started H enc)
end Go.Proofs.YtgfchmagglhohaaGreat.Ev
namespace Go.Proofs.YtgfchmagglhohaaGreat
theorem fnSpans_holds : Rows.FnSpansSaid := Ev.over
#print axioms fnSpans_holds
end Go.Proofs.YtgfchmagglhohaaGreat

end
