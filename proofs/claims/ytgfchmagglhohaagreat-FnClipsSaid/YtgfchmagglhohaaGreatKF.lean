/- Whatever comes in, the law of this claim answers true, and nothing that was handed in changes. -/
import Derived.Test.YtgfchmagglhohaaGreatKE
import Derived.KernelRfl
import Derived.Test.YtgfchmagglhohaaGreatRows
import Derived.WalkKit
import Derived.ProofKit
import Derived.OpenShut
import Derived.ShutString
import Derived.ChangeOld
import Derived.Below
import Derived.SizedLaws
import Derived.Test.YtgfchmagglhohaaGreatChecked
set_option linter.unusedVariables false
set_option linter.unusedSimpArgs false
set_option linter.unusedSectionVars false
section
namespace Go.Proofs.YtgfchmagglhohaaGreat.Ev
open Go
abbrev RF := Bool × (List Int × (Bool × List Int))
def rqF (q : Rat) : RF := ((big q.num).1, ((big q.num).2, ((big (q.den : Int)).1, (big (q.den : Int)).2)))
def zF : RF := (false, ([], (false, [])))
theorem rq_n (q : Rat) : ((rqF q).1, (rqF q).2.1) = big q.num := (rfl)
theorem rq_d (q : Rat) : ((rqF q).2.2.1, (rqF q).2.2.2) = big (q.den : Int) := (rfl)
theorem Qh (q : Rat) : (rqF q).2.2 = big (q.den : Int) := (rfl)
theorem rq_e (a : RF) : (a.1, (a.2.1, (a.2.2.1, a.2.2.2))) = a := (rfl)
theorem Af9 {x y : Int} {k : Nat} (hy : (y.natAbs : Int) < B k) (h0 : y ≠ 0) : (((Int.gcd x y : Nat) : Int).natAbs : Int) < B k := by
 rw [Int.natAbs_natCast]
 have : Int.gcd x y ≤ y.natAbs := Nat.le_of_dvd (by omega) (Nat.gcd_dvd_right ..)
 omega
theorem Au2 {x y : Int} (h0 : y ≠ 0) : ((Int.gcd x y : Nat) : Int) ≠ 0 := by
 have : 0 < Int.gcd x y := Nat.gcd_pos_of_pos_right _ (by omega)
 omega
theorem EW {x : Int} {k : Nat} (hk : k ≤ 1000000) (h : (x.natAbs : Int) < B k) : Brief (big x).2 := by
 have := Ag.2 h; unfold big Brief; dsimp only; omega
theorem KX (x : Int) (s : Bool) : (lim (val (big x).2).toNat, s && decide ((val (big x).2).toNat ≠ 0)) = (lim x.natAbs, s && decide (x ≠ 0)) := by
 unfold big
 simp only [Aj, Int.toNat_natCast]
 congr 2
 exact decide_eq_decide.2 (by omega)
theorem Vg {x : Int} {k : Nat} (hk : k ≤ 1000000) (h : (x.natAbs : Int) < B k) : D8 (big x) = some (big (-x)) := by
 unfold D8
 rw [Fj (show LB (big x).2 from Aq _) (EW hk h), KX]
 simp only [Option.bind_some]
 congr 1
 unfold big
 simp only
 refine Prod.ext ?_ (by simp)
 simp only
 by_cases h0 : x < 0
 ·rw [decide_eq_true h0]; simp; omega
 ·rw [decide_eq_false h0]; simp only [Bool.not_false, Bool.true_and]; exact decide_eq_decide.2 (by omega)
theorem Ws {x : Int} {k : Nat} (hk : k ≤ 1000000) (h : (x.natAbs : Int) < B k) : EU (big x) = some (big (-x)) := by
 unfold EU
 rw [C1 (show LB (big x).2 from Aq _) (EW hk h), KX]
 simp only [Option.bind_some]
 congr 1
 unfold big
 simp only
 refine Prod.ext ?_ (by simp)
 simp only
 by_cases h0 : x < 0
 ·rw [decide_eq_true h0]; simp; omega
 ·rw [decide_eq_false h0]; simp only [Bool.not_false, Bool.true_and]; exact decide_eq_decide.2 (by omega)
theorem Ad1 {x : Int} {k : Nat} (hk : k ≤ 1000000) (h : (x.natAbs : Int) < B k) : AO (big x).1 (big x).2 = some ((big x).2, (big x).1) := by
 rw [Fj (show LB (big x).2 from Aq _) (EW hk h), KX]
 congr 1
 unfold big
 simp only
 refine Prod.ext rfl ?_
 simp only
 by_cases h0 : x < 0
 ·rw [decide_eq_true h0]; simp; omega
 ·rw [decide_eq_false h0]; rfl
theorem Ad9 {n : Nat} {k : Nat} (hk : k ≤ 1000000) (h : (n : Int) < B k) : AO false (big (n : Int)).2 = some ((big (n : Int)).2, (big (n : Int)).1) := by
 have := Ad1 (x := (n : Int)) hk (natB h)
 rwa [show (big (n : Int)).1 = false by rw [Fm]] at this ⊢
theorem Uv {x : Int} {k : Nat} (hk : k ≤ 1000000) (h : (x.natAbs : Int) < B k) : AF (big x).1 (big x).2 = some ((big x).2, (big x).1) := by
 rw [C1 (show LB (big x).2 from Aq _) (EW hk h), KX]
 congr 1
 unfold big
 simp only
 refine Prod.ext rfl ?_
 simp only
 by_cases h0 : x < 0
 ·rw [decide_eq_true h0]; simp; omega
 ·rw [decide_eq_false h0]; rfl
theorem Ai6 {n : Nat} {k : Nat} (hk : k ≤ 1000000) (h : (n : Int) < B k) : AF false (big (n : Int)).2 = some ((big (n : Int)).2, (big (n : Int)).1) := by
 have := Uv (x := (n : Int)) hk (natB h)
 rwa [show (big (n : Int)).1 = false by rw [Fm]] at this ⊢
theorem Wx {x y : Int} {k : Nat} (hk : k ≤ 90000) (hx : (x.natAbs : Int) < B k) (hy : (y.natAbs : Int) < B k) (h0 : y ≠ 0) : E4 (big x) (big y) = some (rqF (Rat.divInt x y)) := by
 obtain ⟨p1, p2⟩ := H2 (x := x) h0
 have hg := Af9 (x := x) hy h0
 have hg0 := Au2 (x := x) h0
 unfold E4
 simp only [peta, UM hk hx hy, Option.bind_some]
 rw [show (big y).1 = decide (y < 0) from rfl]
 by_cases hn : y < 0
 ·rw [if_pos hn] at p1 p2
  rw [decide_eq_true hn]
  simp only [cond_true, Vg (show k ≤ 1000000 by omega) hg, Option.bind_some, Sum.elim_inr, KI hk hx (negB hg) (by omega), KI hk hy (negB hg) (by omega), p1, p2]
  rfl
 ·rw [if_neg hn] at p1 p2
  rw [decide_eq_false hn]
  simp only [cond_false, Option.bind_some, Sum.elim_inr, KI hk hx hg hg0, KI hk hy hg hg0, p1, p2]
  rfl
theorem ZK (q : Rat) : (q.den : Int) ≠ 0 := by have := q.den_nz; omega
theorem Iz (p q : Rat) : (p.den : Int) * (q.den : Int) ≠ 0 := fun h => by rcases Int.mul_eq_zero.1 h with h | h <;> exact ZK _ h
theorem Y1 {x y : Int} {k : Nat} (hk : k ≤ 1000000) (hx : (x.natAbs : Int) < B k) (hy : (y.natAbs : Int) < B k) : EH (big x) (big y) = some (cmpZ x y) := by
 have lx := Ef hx hk
 have ly := Ef hy hk
 have e1 := Ms (a := x.natAbs) (b := y.natAbs) (by unfold Brief; omega) (by unfold Brief; omega)
 have e2 := Ms (a := y.natAbs) (b := x.natAbs) (by unfold Brief; omega) (by unfold Brief; omega)
 unfold EH
 rw [show (big x).1 = decide (x < 0) from rfl, show (big y).1 = decide (y < 0) from rfl, show (big x).2 = lim x.natAbs from rfl, show (big y).2 = lim y.natAbs from rfl, e1, e2]
 by_cases h1 : x < 0
 ·by_cases h2 : y < 0
  ·rw [decide_eq_true h1, decide_eq_true h2]
   simp only [cond_true, cond_false, Bool.not_true, Option.bind_some]
   congr 1
   rcases BU x y with ⟨e, h⟩ | ⟨e, h⟩ | ⟨e, h⟩
   ·rw [e]; exact CV (by omega)
   ·rw [e]; exact Ff (by omega)
   ·rw [e, h]; exact K5 _
  ·rw [decide_eq_true h1, decide_eq_false h2, CV (show x < y by omega)]; rfl
 ·by_cases h2 : y < 0
  ·rw [decide_eq_false h1, decide_eq_true h2, Ff (show y < x by omega)]; rfl
  ·rw [decide_eq_false h1, decide_eq_false h2]
   simp only [cond_true, cond_false, Bool.not_false, Option.bind_some]
   congr 1
   rcases BU x y with ⟨e, h⟩ | ⟨e, h⟩ | ⟨e, h⟩
   ·rw [e]; exact CV (by omega)
   ·rw [e]; exact Ff (by omega)
   ·rw [e, h]; exact K5 _
section
variable {p q : Rat} {k : Nat} (hk : k ≤ 20000) (hp : Sz k p) (hq : Sz k q)
include hk hp hq
theorem HS : B0 (rqF p) (rqF q) = some (rqF (p + q)) := by
 obtain ⟨r1, a1, b1⟩ := Cg (k := k) (by omega) hp.1 (natB hq.2)
 obtain ⟨r2, a2, b2⟩ := Cg (k := k) (by omega) hq.1 (natB hp.2)
 obtain ⟨r3, a3, b3⟩ := Cg (k := k) (by omega) (natB hp.2) (natB hq.2)
 unfold B0
 simp only [rq_n, rq_d, Qh, a1, a2, a3, b1, b2, b3, Option.bind_some]
 rw [Ao8 (k := k + k) (by omega) (mulB hp.1 (natB hq.2)) (mulB hq.1 (natB hp.2))]
 simp only [Option.bind_some, peta]
 rw [Wx (k := k + k + 1) (by omega) (Oh hp hq) (upB (mulB (natB hp.2) (natB hq.2)) (by omega)) (Iz p q), ← Az3]
 rfl
theorem F8 : BG (rqF p) (rqF q) = some (rqF (p * q)) := by
 obtain ⟨r1, a1, b1⟩ := Cg (k := k) (by omega) hp.1 hq.1
 obtain ⟨r3, a3, b3⟩ := Cg (k := k) (by omega) (natB hp.2) (natB hq.2)
 unfold BG
 simp only [rq_n, rq_d, Qh, a1, a3, b1, b3, Option.bind_some]
 rw [Wx (k := k + k) (by omega) (mulB hp.1 hq.1) (mulB (natB hp.2) (natB hq.2)) (Iz p q), ← As7]
 rfl
theorem Uy (h0 : q ≠ 0) : C7 (rqF p) (rqF q) = some (rqF (p / q)) := by
 obtain ⟨r1, a1, b1⟩ := Cg (k := k) (by omega) hp.1 (natB hq.2)
 obtain ⟨r3, a3, b3⟩ := Cg (k := k) (by omega) (natB hp.2) hq.1
 unfold C7
 simp only [rq_n, rq_d, Qh, a1, a3, b1, b3, Option.bind_some]
 rw [Wx (k := k + k) (by omega) (mulB hp.1 (natB hq.2)) (mulB (natB hp.2) hq.1) (by
  intro h
  rcases Int.mul_eq_zero.1 h with h | h
  ·exact ZK _ h
  ·exact h0 (Rat.num_eq_zero.1 h)), ← Ar3]
 rfl
theorem Nj : Cq (rqF p) (rqF q) = some (cmpQ p q) := by
 obtain ⟨r1, a1, b1⟩ := Cg (k := k) (by omega) hp.1 (natB hq.2)
 obtain ⟨r2, a2, b2⟩ := Cg (k := k) (by omega) hq.1 (natB hp.2)
 unfold Cq
 simp only [rq_n, rq_d, Qh, a1, a2, b1, b2, Option.bind_some]
 rw [NC (k := k + k) (by omega) (mulB hp.1 (natB hq.2)) (mulB hq.1 (natB hp.2)), Ad5]
 rfl
theorem RO : Db (rqF p) (rqF q) = some (decide (p < q)) := by
 unfold Db
 simp only [rq_e, Nj hk hp hq, Option.bind_some]
 congr 1
 exact decide_eq_decide.2 Af8
theorem AD8 : HV (rqF p) (rqF q) = some (cmpQ p q) := by
 unfold HV
 simp only [rq_n, rq_d, Qh, FT (k := k) (by omega) hp.1 (natB hq.2), FT (k := k) (by omega) hq.1 (natB hp.2), Option.bind_some, peta]
 rw [Y1 (k := k + k) (by omega) (mulB hp.1 (natB hq.2)) (mulB hq.1 (natB hp.2)), Ad5]
 rfl
end
theorem Ao6 {q : Rat} {k : Nat} (hk : k ≤ 1000000) (hq : Sz k q) : FB (rqF q) = some (rqF (-q)) := by
 unfold FB
 simp only [rq_n, Vg hk hq.1, Option.bind_some]
 rw [show (rqF q).2.2.2 = (big (q.den : Int)).2 from rfl, Ad9 hk hq.2]
 rfl
theorem K1 {p q : Rat} {k : Nat} (hk : k ≤ 20000) (hp : Sz k p) (hq : Sz k q) : Ct (rqF p) (rqF q) = some (rqF (p - q)) := by
 unfold Ct
 simp only [rq_e, Ao6 (k := k) (by omega) hq, Option.bind_some, HS hk hp (ZL hq)]
 rw [Rat.sub_eq_add_neg]
theorem BigOf1 : CL (1 : Int) = some (big 1) := V6 (by omega) (by omega)
theorem Aw9 : Dg (1 : Int) = some (big 1) := QK (by omega) (by omega)
theorem WT {n : Int} (h1 : -9223372036854775808 ≤ n) (h2 : n ≤ 9223372036854775807) : CN n = some (rqF (n : Rat)) := by
 unfold CN
 simp only [V6 h1 h2, BigOf1, Option.bind_some]
 rfl
theorem QH {n : Int} (h1 : -9223372036854775808 ≤ n) (h2 : n ≤ 9223372036854775807) : CP n = some (rqF (n : Rat)) := by
 unfold CP
 simp only [QK h1 h2, Aw9, Option.bind_some]
 rfl
theorem AE7 {k : Nat} (hk : 1 ≤ k) : (((1 : Int).natAbs : Nat) : Int) < B k := by
 have := GJ hk
 rw [B1] at this
 omega
def BrF (a : RF) : Prop := Brief a.2.1 ∧ Brief a.2.2.2
def toQ (a : RF) : (Bool × List Int) × (Bool × List Int) := ((a.1, a.2.1), (a.2.2.1, a.2.2.2))
theorem GG {q : Rat} {k : Nat} (hk : k ≤ 1000000) (h : Sz k q) : BrF (rqF q) := ⟨EW hk h.1, EW hk (natB h.2)⟩
theorem AA8 {y : Int} : (!(big y).1 && !(big y).2.isEmpty) = decide (0 < y) := by
 unfold big
 simp only
 have := HZ y.natAbs
 rw [this]
 by_cases h : 0 < y
 ·rw [decide_eq_true h, decide_eq_false (by omega), decide_eq_true (by omega)]; rfl
 ·rw [decide_eq_false h]
  by_cases h0 : y = 0
  ·subst h0; rfl
  ·rw [decide_eq_true (show y < 0 by omega)]; rfl
theorem UZ {x y : Int} (hx : (x.natAbs : Int) < B 40) (hy : (y.natAbs : Int) < B 40) : goodQ (big x, big y) = (decide (0 < y) && decide (Int.gcd x y = 1)) := by
 unfold goodQ
 simp only [Kz hx, Kz hy, Bool.true_and, AA8]
 unfold big
 simp only [Aj, Int.toNat_natCast]
 rfl
theorem SO {g : Nat} : (cmpZ (g : Int) 1 == 0) = decide (g = 1) := by
 rcases BU (g : Int) 1 with ⟨e, h⟩ | ⟨e, h⟩ | ⟨e, h⟩
 ·rw [e, decide_eq_false (by omega)]; rfl
 ·rw [e, decide_eq_false (by omega)]; rfl
 ·rw [e, decide_eq_true (by omega)]; rfl
theorem Mn (y : Int) : ((((big y).2.length : Nat) : Int) == (0 : Int)) = decide (y = 0) := by
 rw [Bool.eq_iff_iff]
 simp only [beq_iff_eq, decide_eq_true_eq]
 unfold big
 constructor
 ·intro h
  have := Fe.1 (List.eq_nil_of_length_eq_zero (show (lim y.natAbs).length = 0 by simpa using h))
  omega
 ·rintro rfl
  rw [show (0 : Int).natAbs = 0 from rfl, A5]; rfl
theorem Ua {a : RF} (h : BrF a) : Ej a = some (goodQ (toQ a)) := by
 obtain ⟨n, nl, d, dl⟩ := a
 unfold Ej toQ
 simp only
 have hl : ER [(n, nl), (d, dl)] = some (goodB (n, nl) && goodB (d, dl)) := by
  rw [Ay5 (by simp) (by intro b hb; simp at hb; rcases hb with rfl | rfl; exact h.1; exact h.2)]
  simp
 rw [hl]
 simp only [Option.bind_some]
 cases hg : goodB (n, nl) && goodB (d, dl) with
 | false => unfold goodQ; simp only [hg, Bool.false_and, cond_false]
 | true =>
  rw [Bool.and_eq_true] at hg
  obtain ⟨x, hx, e1⟩ := Da.1 hg.1
  obtain ⟨y, hy, e2⟩ := Da.1 hg.2
  simp only [e1, e2, cond_true, YZ, Option.bind_some, UZ hx hy]
  rcases BU y 0 with ⟨e, g⟩ | ⟨e, g⟩ | ⟨e, g⟩
  ·rw [e, decide_eq_false (show ¬ 0 < y by omega)]; rfl
  ·rw [e, decide_eq_true (show 0 < y by omega)]
   simp only [show decide ((1 : Int) > 0) = true from rfl, cond_true, UM (k := 40) (by omega) hx hy, BigOf1, Option.bind_some, peta, Bool.true_and]
   rw [NC (k := 40) (by omega) (Af9 hy (by omega)) (AE7 (by omega))]
   simp only [Option.bind_some, SO]
  ·rw [e, decide_eq_false (show ¬ 0 < y by omega)]; rfl
theorem VA {a : RF} (h : BrF a) : D0 a = some (goodQ (toQ a)) := by
 obtain ⟨n, nl, d, dl⟩ := a
 unfold D0 toQ
 simp only
 rw [KJ h.1]
 simp only [Option.bind_some]
 cases h1 : goodB (n, nl) with
 | false => unfold goodQ; simp only [h1, Bool.false_and, Bool.not_false, cond_true]
 | true =>
  simp only [Bool.not_true, cond_false]
  rw [KJ h.2]
  simp only [Option.bind_some]
  cases h2 : goodB (d, dl) with
  | false => unfold goodQ; simp only [h1, h2, Bool.and_false, Bool.false_and, Bool.not_false, cond_true]
  | true =>
   obtain ⟨x, hx, e1⟩ := Da.1 h1
   obtain ⟨y, hy, e2⟩ := Da.1 h2
   have f1 : nl = (big x).2 := congrArg Prod.snd e1
   have f2 : dl = (big y).2 := congrArg Prod.snd e2
   have f3 : d = (big y).1 := congrArg Prod.fst e2
   simp only [Bool.not_true, cond_false]
   rw [e1, e2, UZ hx hy, f3, show (big y).1 = decide (y < 0) from rfl]
   by_cases hy0 : y < 0
   ·rw [decide_eq_true hy0, decide_eq_false (show ¬ 0 < y by omega)]; rfl
   ·rw [decide_eq_false hy0]
    simp only [cond_false]
    rw [f2, Mn]
    by_cases h0 : y = 0
    ·rw [decide_eq_true h0, decide_eq_false (show ¬ 0 < y by omega)]; rfl
    ·rw [decide_eq_false h0, decide_eq_true (show 0 < y by omega)]
     simp only [cond_false]
     rw [f1, Ae1 (k := 40) (by omega) hx hy]
     simp only [Option.bind_some]
     have hl1 : ([1] : List Int) = lim 1 := by rw [So (by omega), A5]; rfl
     have hgb := Ag.2 (show ((Int.gcd x y : Nat) : Int) < B 40 by have := Af9 (x := x) hy h0; rwa [Int.natAbs_natCast] at this)
     rw [hl1, Ms (by unfold Brief; omega) (by rw [← hl1]; unfold Brief; simp)]
     simp only [Option.bind_some, SO, Bool.true_and]
     exact congrArg some SO
theorem SU {q : Rat} (h : Sz 40 q) : goodQ (toQ (rqF q)) = true := Sp h
theorem AA6 {a : RF} (h : goodQ (toQ a) = true) : ∃ q, Sz 40 q ∧ a = rqF q := by
 obtain ⟨q, h1, h2⟩ := KA.1 h
 refine ⟨q, h1, ?_⟩
 have e1 := congrArg Prod.fst h2
 have e2 := congrArg Prod.snd h2
 obtain ⟨n, nl, d, dl⟩ := a
 unfold toQ rq at e1 e2
 simp only at e1 e2
 unfold rqF
 rw [← e1, ← e2]
theorem UN {l : List ((Bool × List Int) × (Bool × List Int))} (hl : l.length ≤ 1000) (hb : ∀ a ∈ l, Brief a.1.2 ∧ Brief a.2.2) : BF l = some (l.all goodQ) := by
 unfold BF
 obtain ⟨h1, h2⟩ := At7 (l := l) (body := fun (s : (List ((Bool × (List Int)) × (Bool × (List Int)))) × (Int × Int)) => Fk s.1 s.2.1 s.2.2)
  (st := fun k (_ : Unit) => (l, ((l.length : Int), (k : Int)))) (step := fun _ a => if goodQ a then .inr () else .inl (.inr false)) (fin := fun _ => .inl ()) (I := fun _ _ => True)
  (by
   rintro k b a hk _
   have hkl := getL hk
   unfold Fk
   have ha := hb a (List.mem_of_getElem? hk)
   simp only [decide_eq_true (show (k : Int) < (l.length : Int) by omega), cond_true, An, hk, Option.bind_some]
   rw [Ua (a := (a.1.1, (a.1.2, (a.2.1, a.2.2)))) ha]
   simp only [Option.bind_some, toQ, peta]
   cases hg : goodQ a with
   | true => left; exact ⟨(), by simp, by simp only [Bool.not_true, cond_false]; rw [wrapI (by omega) (by omega)]; rfl, trivial⟩
   | false => right; exact ⟨.inr false, by simp, by simp only [Bool.not_false, cond_true]⟩)
  (by
   rintro b _
   unfold Fk
   simp) () trivial
 rw [show ((0 : Nat) : Int) = 0 from rfl] at h1
 rw [h1]
 have key : ∀ (m : List ((Bool × List Int) × (Bool × List Int))), foldX (ρ := Unit ⊕ Bool) (fun (_ : Unit) a => if goodQ a then .inr () else .inl (.inr false)) () m = if m.all goodQ then .inr () else .inl (.inr false) := by
  intro m
  induction m with
  | nil => rfl
  | cons a m ih =>
   unfold foldX
   rw [List.all_cons]
   cases hg : goodQ a with
   | true => simp only [if_true, Bool.true_and]; exact ih
   | false => simp
 rw [key]
 cases l.all goodQ <;> rfl
def fitsQ (q : Rat) : RF × Bool := if Sz 40 q then (rqF q, true) else (zF, false)
theorem Am7 {q : Rat} {n : Nat} : AV (rqF q) (n : Int) = some (decide (Sz n q)) := by
 unfold AV
 have e1 : ((((rqF q).2.1.length : Nat) : Int) ≤ (n : Int)) ↔ ((q.num.natAbs : Int) < B n) := by rw [← Ag]; exact Int.ofNat_le
 have e2 : ((((rqF q).2.2.2.length : Nat) : Int) ≤ (n : Int)) ↔ ((q.den : Int) < B n) := by
  have : (rqF q).2.2.2 = lim q.den := by show (big (q.den : Int)).2 = _; rw [Fm]
  rw [this, ← Ag]; exact Int.ofNat_le
 unfold Sz
 by_cases h1 : (q.num.natAbs : Int) < B n
 ·rw [decide_eq_true (e1.2 h1)]
  simp only [cond_true, decide_eq_decide.2 e2, h1, true_and]
 ·rw [decide_eq_false (fun h => h1 (e1.1 h))]
  simp [h1]
theorem Na (q : Rat) : Cn (rqF q) = some (fitsQ q) := by
 unfold Cn fitsQ
 simp only [rq_e]
 rw [show (40 : Int) = ((40 : Nat) : Int) from rfl, Am7]
 by_cases h : Sz 40 q
 ·simp [h]
 ·simp [h]; rfl
end Go.Proofs.YtgfchmagglhohaaGreat.Ev

end
section
namespace Go.Proofs.YtgfchmagglhohaaGreat.Ev
open Go
theorem AE4 {x y : Int} {k : Nat} (hk : k ≤ 1000000) (hx : (x.natAbs : Int) < B k) (hy : (y.natAbs : Int) < B k) : HE (big x) (big y) = some (big (x + y)) := by
 have lx := Ef hx hk
 have ly := Ef hy hk
 unfold HE big
 simp only
 by_cases hs : decide (x < 0) = decide (y < 0)
 ·rw [hs, beq_self_eq_true]
  obtain ⟨r, e1, e2, e3, e4, _⟩ := WA (Aq x.natAbs) (Aq y.natAbs) (by omega) (by omega)
  rw [Aj, Aj] at e3
  simp only [cond_true, e1, Option.bind_some]
  rw [C1 e2 (by unfold Brief; omega)]
  simp only [Option.bind_some]
  have hv : (val r).toNat = (x + y).natAbs := by
   by_cases h1 : x < 0
   ·have : y < 0 := by simpa [h1] using hs
    omega
   ·have : ¬ y < 0 := by simpa [h1] using hs
    omega
  rw [hv]
  congr 2
  by_cases h2 : y < 0
  ·have h1 : x < 0 := by simpa [h2] using hs
   rw [decide_eq_true h2, decide_eq_true (show x + y < 0 by omega), decide_eq_true (show (x + y).natAbs ≠ 0 by omega)]; rfl
  ·have h1 : ¬ x < 0 := by simpa [h2] using hs
   rw [decide_eq_false h2, decide_eq_false (show ¬ x + y < 0 by omega)]; rfl
 ·have hb : (decide (x < 0) == decide (y < 0)) = false := by simpa using hs
  rw [hb]
  simp only [cond_false]
  rw [Ms (by unfold Brief; omega) (by unfold Brief; omega)]
  simp only [Option.bind_some]
  have hxy : (x < 0 ∧ ¬ y < 0) ∨ (¬ x < 0 ∧ y < 0) := by
   by_cases h1 : x < 0 <;> by_cases h2 : y < 0 <;> simp [h1, h2] at hs ⊢
  rcases Nat.lt_or_ge x.natAbs y.natAbs with hlt | hge
  ·rw [CV (by omega), decide_eq_false (by omega)]
   simp only [cond_false]
   have hl : (lim x.natAbs).length ≤ (lim y.natAbs).length := Ag.2 (by have := Ag.1 (Nat.le_refl (lim y.natAbs).length); omega)
   rw [NL (Aq _) (Aq _) hl (by omega) (by rw [Aj, Aj]; omega)]
   simp only [Option.bind_some, Aj]
   have e : ((y.natAbs : Int) - (x.natAbs : Int)).toNat = (x + y).natAbs := by omega
   rw [e, C1 (Aq _) (by
    have : (lim (x + y).natAbs).length ≤ (lim y.natAbs).length := Ag.2 (by have := Ag.1 (Nat.le_refl (lim y.natAbs).length); omega)
    unfold Brief; omega)]
   simp only [Option.bind_some, Aj, Int.toNat_natCast]
   congr 2
   by_cases h2 : y < 0
   ·rw [decide_eq_true h2, decide_eq_true (show x + y < 0 by omega), decide_eq_true (show (x + y).natAbs ≠ 0 by omega)]; rfl
   ·rw [decide_eq_false h2, decide_eq_false (show ¬ x + y < 0 by omega)]; rfl
  ·have hc : cmpZ (x.natAbs : Int) (y.natAbs : Int) ≥ 0 := by unfold cmpZ; rw [if_neg (by omega)]; split <;> omega
   rw [decide_eq_true hc]
   simp only [cond_true]
   have hl : (lim y.natAbs).length ≤ (lim x.natAbs).length := Ag.2 (by have := Ag.1 (Nat.le_refl (lim x.natAbs).length); omega)
   rw [NL (Aq _) (Aq _) hl (by omega) (by rw [Aj, Aj]; omega)]
   simp only [Option.bind_some, Aj]
   have e : ((x.natAbs : Int) - (y.natAbs : Int)).toNat = (x + y).natAbs := by omega
   rw [e, C1 (Aq _) (by
    have : (lim (x + y).natAbs).length ≤ (lim x.natAbs).length := Ag.2 (by have := Ag.1 (Nat.le_refl (lim x.natAbs).length); omega)
    unfold Brief; omega)]
   simp only [Option.bind_some, Aj, Int.toNat_natCast]
   congr 2
   by_cases h2 : x < 0
   ·rw [decide_eq_true h2]
    by_cases h3 : x + y < 0
    ·rw [decide_eq_true h3, decide_eq_true (show (x + y).natAbs ≠ 0 by omega)]; rfl
    ·rw [decide_eq_false h3, decide_eq_false (show ¬ (x + y).natAbs ≠ 0 by omega)]; rfl
   ·rw [decide_eq_false h2, decide_eq_false (show ¬ x + y < 0 by omega)]; rfl
theorem Kb {x y : Int} {k : Nat} (hk : k ≤ 90000) (hx : (x.natAbs : Int) < B k) (hy : (y.natAbs : Int) < B k) (h0 : y ≠ 0) : CF (big x) (big y) = some (rqF (Rat.divInt x y)) := by
  obtain ⟨p1, p2⟩ := H2 (x := x) h0
  have hg := Af9 (x := x) hy h0
  have hg0 := Au2 (x := x) h0
  have hl : (lim (Int.gcd x y)).length ≤ k := Ag.2 (by rwa [Int.natAbs_natCast] at hg)
  unfold CF
  rw [Ae1 hk hx hy]
  simp only [Option.bind_some]
  rw [C1 (Aq _) (by unfold Brief; omega), Aj, Int.toNat_natCast]
  simp only [Option.bind_some, Bool.false_and]
  rw [← Fm]
  simp only [peta, Ac8 hk hx hg hg0, Ac8 hk hy hg hg0, Option.bind_some]
  have t1 := QI x (Int.gcd x y : Nat)
  have t2 := QI y (Int.gcd x y : Nat)
  obtain ⟨c, hc⟩ : ((Int.gcd x y : Nat) : Int) ∣ y := Int.gcd_dvd_right ..
  have e2 : y.tdiv (Int.gcd x y : Nat) = c := by conv => lhs; lhs; rw [hc]
                                                 exact Int.mul_tdiv_cancel_left _ hg0
  have hsg : (y < 0) ↔ c < 0 := by
    have hp : (0 : Int) < (Int.gcd x y : Nat) := by omega
    generalize ((Int.gcd x y : Nat) : Int) = g at *
    constructor
    · intro h
      rcases Int.lt_or_le c 0 with e | e
      · exact e
      · have := Int.mul_nonneg (Int.le_of_lt hp) e; omega
    · intro h; have := Int.mul_neg_of_pos_of_neg hp h; omega
  rw [show (big (y.tdiv (Int.gcd x y : Nat))).1 = decide (y.tdiv (Int.gcd x y : Nat) < 0) from rfl]
  by_cases hn : y < 0
  · rw [if_pos hn, Int.tdiv_neg] at p1 p2
    rw [decide_eq_true (by rw [e2]; exact hsg.1 hn)]
    simp only [cond_true]
    rw [Ws (show k ≤ 1000000 by omega) (by omega), Ws (show k ≤ 1000000 by omega) (by omega)]
    simp only [Option.bind_some, p1, p2]
    rfl
  · rw [if_neg hn] at p1 p2
    rw [decide_eq_false (by rw [e2]; exact fun h => hn (hsg.2 h))]
    simp only [cond_false, p1, p2]
    rfl
theorem Az5 {q : Rat} {k : Nat} (hk : k ≤ 1000000) (hq : Sz k q) : HP (rqF q) = some (rqF (-q)) := by
 unfold HP
 simp only [rq_n, Ws hk hq.1, Option.bind_some]
 rfl
section
variable {p q : Rat} {k : Nat} (hk : k ≤ 20000) (hp : Sz k p) (hq : Sz k q)
include hk hp hq
theorem Wq : E8 (rqF p) (rqF q) = some (rqF (p + q)) := by
 unfold E8
 simp only [rq_n, rq_d, Qh, FT (k := k) (by omega) hp.1 (natB hq.2), FT (k := k) (by omega) hq.1 (natB hp.2), FT (k := k) (by omega) (natB hp.2) (natB hq.2), Option.bind_some, peta]
 rw [AE4 (k := k + k) (by omega) (mulB hp.1 (natB hq.2)) (mulB hq.1 (natB hp.2))]
 simp only [Option.bind_some, peta]
 rw [Kb (k := k + k + 1) (by omega) (Oh hp hq) (upB (mulB (natB hp.2) (natB hq.2)) (by omega)) (Iz p q), ← Az3]
 rfl
theorem Wz : EV (rqF p) (rqF q) = some (rqF (p * q)) := by
 unfold EV
 simp only [rq_n, rq_d, Qh, FT (k := k) (by omega) hp.1 hq.1, FT (k := k) (by omega) (natB hp.2) (natB hq.2), Option.bind_some, peta]
 rw [Kb (k := k + k) (by omega) (mulB hp.1 hq.1) (mulB (natB hp.2) (natB hq.2)) (Iz p q), ← As7]
 rfl
theorem Ae9 (h0 : q ≠ 0) : F1 (rqF p) (rqF q) = some (rqF (p / q)) := by
 unfold F1
 simp only [rq_n, rq_d, Qh, FT (k := k) (by omega) hp.1 (natB hq.2), FT (k := k) (by omega) (natB hp.2) hq.1, Option.bind_some, peta]
 rw [Kb (k := k + k) (by omega) (mulB hp.1 (natB hq.2)) (mulB (natB hp.2) hq.1) (by
  intro h
  rcases Int.mul_eq_zero.1 h with h | h
  ·exact ZK _ h
  ·exact h0 (Rat.num_eq_zero.1 h)), ← Ar3]
 rfl
end
theorem QG {p q : Rat} {k : Nat} (hk : k ≤ 20000) (hp : Sz k p) (hq : Sz k q) : Ed (rqF p) (rqF q) = some (rqF (p - q)) := by
 unfold Ed
 simp only [rq_e, Az5 (k := k) (by omega) hq, Option.bind_some, Wq hk hp (ZL hq)]
 rw [Rat.sub_eq_add_neg]
theorem RA {q : Rat} {k : Nat} (hk : k ≤ 1000000) (hq : Sz k q) : DX (rqF q) = some (fitsQ q) := by
 unfold DX fitsQ
 have e1 : ((((rqF q).2.1.length : Nat) : Int) > 40) ↔ ¬ ((q.num.natAbs : Int) < B 40) := by
  rw [← Ag]
  show ((((lim q.num.natAbs).length : Nat) : Int) > 40) ↔ _
  omega
 have e2 : ((((rqF q).2.2.2.length : Nat) : Int) > 40) ↔ ¬ ((q.den : Int) < B 40) := by
  rw [← Ag]
  have : (rqF q).2.2.2 = lim q.den := by show (big (q.den : Int)).2 = _; rw [Fm]
  rw [this]
  omega
 by_cases h1 : (q.num.natAbs : Int) < B 40
 ·rw [decide_eq_false (fun h => e1.1 h h1)]
  by_cases h2 : (q.den : Int) < B 40
  ·rw [decide_eq_false (fun h => e2.1 h h2), if_pos ⟨h1, h2⟩]
   simp only [cond_false]
   rw [show (rqF q).1 = (big q.num).1 from rfl, show (rqF q).2.1 = (big q.num).2 from rfl, show (rqF q).2.2.2 = (big (q.den : Int)).2 from rfl, Uv (k := 40) (by omega) h1, Ai6 (k := 40) (by omega) h2]
   rfl
  ·rw [decide_eq_true (e2.2 h2), if_neg (fun h => h2 h.2)]; rfl
 ·rw [decide_eq_true (e1.2 h1), if_neg (fun h => h1 h.1)]; rfl
theorem F3 {q : Rat} (h : Sz 40 q) : fitsQ q = (rqF q, true) := if_pos h
theorem Ob {q : Rat} (h : ¬ Sz 40 q) : fitsQ q = (zF, false) := if_neg h
theorem Ay9 {a b : RF} (ha : BrF a) (hb : BrF b) : BF [((a.1, a.2.1), (a.2.2.1, a.2.2.2)), ((b.1, b.2.1), (b.2.2.1, b.2.2.2))] = some (goodQ (toQ a) && goodQ (toQ b)) := by
 rw [UN (by simp) (by intro x hx; simp at hx; rcases hx with rfl | rfl; exact ha; exact hb)]
 simp [toQ]
section
variable {p q : Rat} (hp : Sz 40 p) (hq : Sz 40 q)
include hp hq
theorem Ae2 : BF [(((rqF p).1, (rqF p).2.1), ((rqF p).2.2.1, (rqF p).2.2.2)), (((rqF q).1, (rqF q).2.1), ((rqF q).2.2.1, (rqF q).2.2.2))] = some true := by
 rw [Ay9 (GG (k := 40) (by omega) hp) (GG (k := 40) (by omega) hq), SU hp, SU hq]; rfl
theorem Au3 : Bf (rqF p) (rqF q) = some (fitsQ (p + q)) := by
 unfold Bf
 rw [Ae2 hp hq]
 simp only [obs, nT, cF, peta, HS (k := 40) (by omega) hp hq, Na]
theorem V0 : Cf (rqF p) (rqF q) = some (cmpQ p q, true) := by
 unfold Cf
 rw [Ae2 hp hq]
 simp only [obs, nT, cF, peta, Nj (k := 40) (by omega) hp hq]
end
section
variable {a b : RF} (ha : BrF a) (hb : BrF b) (h : (goodQ (toQ a) && goodQ (toQ b)) = false)
include ha hb h
theorem Mi : Bf a b = some (zF, false) := by unfold Bf; rw [Ay9 ha hb, h]; rfl
end
def ratOfV (n d : Int) : RF × Bool := if d = 0 ∨ ¬ n.natAbs ≤ 4611686018427387904 ∨ ¬ d.natAbs ≤ 4611686018427387904 then (zF, false) else (rqF (Rat.divInt n d), true)
theorem B4 : B 4 = 18446744073709551616 := rfl
theorem QQ (n d : Int) : Ek n d = some (ratOfV n d) := by
 unfold Ek ratOfV
 simp only [KL, Option.bind_some]
 by_cases h1 : n.natAbs ≤ 4611686018427387904
 ·rw [show (decide (-4611686018427387904 ≤ n) && decide (n ≤ 4611686018427387904)) = true by simp; omega]
  by_cases h2 : d.natAbs ≤ 4611686018427387904
  ·rw [show (decide (-4611686018427387904 ≤ d) && decide (d ≤ 4611686018427387904)) = true by simp; omega]
   by_cases h0 : d = 0
   ·rw [if_pos (.inl h0), h0]; rfl
   ·rw [show (d == 0) = false from beq_eq_false_iff_ne.2 h0, if_neg (by omega)]
    simp only [Bool.not_true, cond_false, QK (n := n) (by omega) (by omega), QK (n := d) (by omega) (by omega), Option.bind_some, peta, Kb (k := 4) (by omega) (x := n) (y := d) (by rw [B4]; omega) (by rw [B4]; omega) h0]
  ·rw [show (decide (-4611686018427387904 ≤ d) && decide (d ≤ 4611686018427387904)) = false by
    rw [Bool.and_eq_false_iff]; simp only [decide_eq_false_iff_not]; omega, if_pos (.inr (.inr h2))]
   rfl
 ·rw [show (decide (-4611686018427387904 ≤ n) && decide (n ≤ 4611686018427387904)) = false by
   rw [Bool.and_eq_false_iff]; simp only [decide_eq_false_iff_not]; omega, if_pos (.inr (.inl h1))]
  rfl
theorem Aq7 {n d : Int} (h0 : d ≠ 0) (h1 : n.natAbs ≤ 4611686018427387904) (h2 : d.natAbs ≤ 4611686018427387904) : Sz 4 (Rat.divInt n d) := HW (by rw [B4]; omega) (by rw [B4]; omega) h0
theorem UW {a : RF} (h1 : a.2.1.length ≤ 1000000) (h2 : a.2.2.2.length ≤ 1000000) : AL a a = some true := by
 unfold AL
 rw [UH (a := (a.1, a.2.1)) h1, UH (a := (a.2.2.1, a.2.2.2)) h2]
 rfl
theorem Ie {q : Rat} {k : Nat} (hk : k ≤ 1000000) (h : Sz k q) : AL (rqF q) (rqF q) = some true :=
 UW (Nat.le_trans (Ag.2 h.1) hk) (Nat.le_trans (Ag.2 (natB h.2)) hk)
theorem PE : AL zF zF = some true := UW (by simp [zF]) (by simp [zF])
theorem I5 (q : Rat) : AL (fitsQ q).1 (fitsQ q).1 = some true := by
 by_cases h : Sz 40 q
 ·rw [F3 h]; exact Ie (k := 40) (by omega) h
 ·rw [Ob h]; exact PE
theorem Ai9 (q : Rat) : Cz (rqF q) = some (decide (q = 0)) := by
 unfold Cz
 simp only [rq_n, Am3, Option.bind_some]
 congr 1
 exact decide_eq_decide.2 Rat.num_eq_zero
end Go.Proofs.YtgfchmagglhohaaGreat.Ev

end
section
namespace Go.Proofs.YtgfchmagglhohaaGreat.Ev
open Go
def ShF (a : RF) : Prop := a.2.1.length ≤ 100 ∧ a.2.2.2.length ≤ 100
theorem ShF.br {a : RF} (h : ShF a) : BrF a := by unfold ShF at h; unfold BrF Brief; omega
theorem Xy {q : Rat} {k : Nat} (hk : k ≤ 100) (h : Sz k q) : ShF (rqF q) := ⟨Nat.le_trans (Ag.2 h.1) hk, Nat.le_trans (Ag.2 (natB h.2)) hk⟩
theorem Ag1 : ShF zF := by unfold ShF zF; simp
theorem Ah3 (q : Rat) : ShF (fitsQ q).1 := by
 unfold fitsQ
 split
 ·rename_i h; exact Xy (k := 40) (by omega) h
 ·exact Ag1
theorem KH (n d : Int) : ShF (ratOfV n d).1 := by
 unfold ratOfV
 split
 ·exact Ag1
 ·exact Xy (k := 4) (by omega) (Aq7 (by omega) (by omega) (by omega))
theorem Aw4 {B' : Nat} {c : List Int × Int × Int} (h : Cur B' c) (hB : B' ≤ 900000000) : ∃ c' a, CJ c = some (c', a) ∧ Cur (B' + 700) c' ∧ ShF a := by
 unfold CJ
 obtain ⟨c0, v0, e0, q0⟩ := Hc h (by omega) 12
 simp only [e0, obs, peta]
 cases v0
 ·obtain ⟨c1, v1, e1, q1, a1, b1⟩ := AN q0 (by omega) 41
  obtain ⟨c2, v2, e2, q2, a2, b2⟩ := AN q1 (by omega) 12
  simp only [cF, e1, e2, obs, QQ, peta]
  exact ⟨_, _, rfl, q2.mono (by omega), KH _ _⟩
 ·obtain ⟨c1, x, e1, q1, l1⟩ := Ay6 q0 (by omega)
  obtain ⟨c2, y, e2, q2, l2⟩ := Ay6 q1 (by omega)
  simp only [cT, e1, e2, obs, peta, KJ (show Brief x.2 by unfold Brief; omega), KJ (show Brief y.2 by unfold Brief; omega)]
  have fin : ∃ c' a, (some ((c2, (x.1, (x.2, y))) : (List Int × Int × Int) × RF)) = some (c', a) ∧ Cur (B' + 700) c' ∧ ShF a := ⟨_, _, rfl, q2.mono (by omega), l1, l2⟩
  cases hx : goodB x with
  | false => simp only [cF]; exact fin
  | true =>
   simp only [cT]
   cases hy : goodB y with
   | false => simp only [cF]; exact fin
   | true =>
    simp only [cT]
    obtain ⟨u, hu, rfl⟩ := Da.1 hx
    obtain ⟨v, hv, rfl⟩ := Da.1 hy
    have hz := Mn v
    by_cases h0 : v = 0
    ·subst h0
     have : decide ((((big 0).2.length : Nat) : Int) > 0) = false := by simp [big, A5]
     rw [this]
     simp only [cF]
     exact fin
    ·rw [decide_eq_false h0] at hz
     have : decide ((((big v).2.length : Nat) : Int) > 0) = true := by
      rw [beq_eq_false_iff_ne] at hz
      exact decide_eq_true (by omega)
     rw [this]
     simp only [cT, Kb (k := 40) (by omega) hu hv h0, obs]
     exact ⟨_, _, rfl, q2.mono (by omega), Xy (k := 40) (by omega) (HW hu hv h0)⟩
end Go.Proofs.YtgfchmagglhohaaGreat.Ev

end
section
namespace Go.Proofs.YtgfchmagglhohaaGreat.Ev
open Go
end Go.Proofs.YtgfchmagglhohaaGreat.Ev

end
section
namespace Go.Proofs.YtgfchmagglhohaaGreat.Ev
open Go
abbrev Q2 := Rat × Rat
def crd (b : Bool) (p : Q2) : Rat := if b then p.2 else p.1
def ins (b high : Bool) (s : Rat) (p : Q2) : Bool := if high then decide (s ≤ crd b p) else decide (crd b p ≤ s)
def mixQ (a c : Q2) (t : Rat) : Q2 := (a.1 + t * (c.1 - a.1), a.2 + t * (c.2 - a.2))
def cutQ (b : Bool) (s : Rat) (a c : Q2) : Q2 := mixQ a c ((s - crd b a) / (crd b c - crd b a))
def stepQ (b high : Bool) (s : Rat) (a c : Q2) : List Q2 := (if ins b high s a = ins b high s c then [] else [cutQ b s a c]) ++ (if ins b high s c then [c] else [])
def clipFrom (b high : Bool) (s : Rat) : Q2 → List Q2 → List Q2
 | _, [] => []
 | a, c :: l => stepQ b high s a c ++ clipFrom b high s c l
def lastQ (l : List Q2) : Q2 := l.getLast?.getD (0, 0)
def clipQ (b high : Bool) (s : Rat) (l : List Q2) : List Q2 := clipFrom b high s (lastQ l) l
def crs (p q : Q2) : Rat := p.1 * q.2 - q.1 * p.2
def chn (f : Q2 → Q2 → Rat) : Q2 → List Q2 → Rat
 | _, [] => 0
 | a, c :: l => f a c + chn f c l
def area2 (l : List Q2) : Rat := chn crs (lastQ l) l
def pot (b : Bool) (s : Rat) (p : Q2) : Rat := if b then -(s * p.1) else s * p.2
def gg (b : Bool) (s : Rat) (p q : Q2) : Rat := crs p q - (pot b s q - pot b s p)
theorem Ae6 {b : Bool} {s : Rat} {p q : Q2} (hp : crd b p = s) (hq : crd b q = s) : gg b s p q = 0 := by
 unfold gg crs pot
 unfold crd at hp hq
 cases b <;> simp at hp hq ⊢ <;> rw [hp, hq] <;> grind
theorem Az9 (b : Bool) (s : Rat) (p : Q2) : gg b s p p = 0 := by
 unfold gg crs; grind
theorem AF8 (b : Bool) (s : Rat) (a c : Q2) (t : Rat) : gg b s a (mixQ a c t) + gg b s (mixQ a c t) c = gg b s a c := by
 unfold gg crs mixQ
 generalize pot b s c = x
 generalize pot b s a = y
 generalize pot b s _ = z
 simp only
 grind
theorem Z9 {b : Bool} {s : Rat} {a c : Q2} (h : crd b c ≠ crd b a) : crd b (cutQ b s a c) = s := by
 have hd : crd b c - crd b a ≠ 0 := fun e => h (by grind)
 have hm := Rat.div_mul_cancel hd (a := s - crd b a)
 unfold cutQ mixQ
 cases b with
 | true =>
  unfold crd at *
  simp at *
  rw [hm]; grind
 | false =>
  unfold crd at *
  simp at *
  rw [hm]; grind
theorem QW {b high : Bool} {s : Rat} {a c : Q2} (h : ins b high s a ≠ ins b high s c) : crd b c ≠ crd b a := by
 intro e
 apply h
 unfold ins
 rw [e]
def piece (b high : Bool) (s : Rat) (a c : Q2) : Rat :=
 bif ins b high s a then (bif ins b high s c then gg b s a c else gg b s a (cutQ b s a c)) else (bif ins b high s c then gg b s (cutQ b s a c) c else 0)
theorem tri (x y : Rat) : x < y ∨ x = y ∨ y < x := by
 rcases Rat.le_total (a := x) (b := y) with h | h
 ·by_cases e : x = y
  ·exact .inr (.inl e)
  ·exact .inl (Rat.lt_of_le_of_ne h e)
 ·by_cases e : x = y
  ·exact .inr (.inl e)
  ·exact .inr (.inr (Rat.lt_of_le_of_ne h (fun e' => e e'.symm)))
theorem Y4 {b : Bool} {s : Rat} {p : Q2} : ins b false s p = decide (crd b p ≤ s) := rfl
theorem Ar2 {b : Bool} {s : Rat} {p : Q2} : ins b true s p = decide (s ≤ crd b p) := rfl
theorem Ah9 (b : Bool) (s : Rat) (a c : Q2) : piece b false s a c + piece b true s a c = gg b s a c := by
 have hmix := AF8 b s a c ((s - crd b a) / (crd b c - crd b a))
 have hc : cutQ b s a c = mixQ a c ((s - crd b a) / (crd b c - crd b a)) := rfl
 rw [← hc] at hmix
 have ha : crd b a = s → cutQ b s a c = a := by
  intro h1
  unfold cutQ mixQ
  rw [h1, show s - s = (0 : Rat) by grind, Rat.div_def, Rat.zero_mul, Rat.zero_mul, Rat.zero_mul, Rat.add_zero, Rat.add_zero]
 have hcc : crd b c = s → crd b c ≠ crd b a → cutQ b s a c = c := by
  intro h1 h2
  have hd : crd b c - crd b a ≠ 0 := fun e => h2 (by grind)
  unfold cutQ mixQ
  rw [← h1, Rat.div_def, Rat.mul_inv_cancel _ hd, Rat.one_mul, Rat.one_mul]
  have e1 : a.1 + (c.1 - a.1) = c.1 := by grind
  have e2 : a.2 + (c.2 - a.2) = c.2 := by grind
  rw [e1, e2]
 have hself := Az9 b s
 have hline := @Ae6 b s a c
 have flo : ∀ p : Q2, crd b p < s → ins b false s p = true ∧ ins b true s p = false := fun p h => ⟨decide_eq_true (Rat.le_of_lt h), decide_eq_false (by grind)⟩
 have fon : ∀ p : Q2, crd b p = s → ins b false s p = true ∧ ins b true s p = true := fun p h => ⟨decide_eq_true (by rw [h]; exact Rat.le_refl), decide_eq_true (by rw [h]; exact Rat.le_refl)⟩
 have fhi : ∀ p : Q2, s < crd b p → ins b false s p = false ∧ ins b true s p = true := fun p h => ⟨decide_eq_false (by grind), decide_eq_true (Rat.le_of_lt h)⟩
 unfold piece
 rcases tri (crd b a) s with h1 | h1 | h1
 ·obtain ⟨a1, a2⟩ := flo a h1
  rcases tri (crd b c) s with h2 | h2 | h2
  ·obtain ⟨c1, c2⟩ := flo c h2
   simp only [a1, a2, c1, c2, cond_true, cond_false, Rat.add_zero]
  ·obtain ⟨c1, c2⟩ := fon c h2
   simp only [a1, a2, c1, c2, cond_true, cond_false]
   rw [hcc h2 (by rw [h2]; intro e; rw [e] at h1; exact absurd h1 (Rat.lt_irrefl)), hself, Rat.add_zero]
  ·obtain ⟨c1, c2⟩ := fhi c h2
   simp only [a1, a2, c1, c2, cond_true, cond_false]
   exact hmix
 ·obtain ⟨a1, a2⟩ := fon a h1
  rcases tri (crd b c) s with h2 | h2 | h2
  ·obtain ⟨c1, c2⟩ := flo c h2
   simp only [a1, a2, c1, c2, cond_true, cond_false]
   rw [ha h1, hself, Rat.add_zero]
  ·obtain ⟨c1, c2⟩ := fon c h2
   simp only [a1, a2, c1, c2, cond_true, cond_false]
   rw [hline h1 h2, Rat.add_zero]
  ·obtain ⟨c1, c2⟩ := fhi c h2
   simp only [a1, a2, c1, c2, cond_true, cond_false]
   rw [ha h1, hself, Rat.zero_add]
 ·obtain ⟨a1, a2⟩ := fhi a h1
  rcases tri (crd b c) s with h2 | h2 | h2
  ·obtain ⟨c1, c2⟩ := flo c h2
   simp only [a1, a2, c1, c2, cond_true, cond_false]
   rw [Rat.add_comm]; exact hmix
  ·obtain ⟨c1, c2⟩ := fon c h2
   simp only [a1, a2, c1, c2, cond_true, cond_false]
   rw [hcc h2 (by rw [h2]; intro e; rw [e] at h1; exact absurd h1 (Rat.lt_irrefl)), hself, Rat.zero_add]
  ·obtain ⟨c1, c2⟩ := fhi c h2
   simp only [a1, a2, c1, c2, cond_true, cond_false, Rat.zero_add]
def endQ : Q2 → List Q2 → Q2
 | a, [] => a
 | _, c :: l => endQ c l
theorem Ma (f : Q2 → Q2 → Rat) : ∀ (a : Q2) (l m : List Q2), chn f a (l ++ m) = chn f a l + chn f (endQ a l) m
 | a, [], m => by simp [chn, endQ, Rat.zero_add]
 | a, c :: l, m => by
  rw [List.cons_append, chn, chn, Ma f c l m, endQ, Rat.add_assoc]
theorem J8 : ∀ (a : Q2) (l m : List Q2), endQ a (l ++ m) = endQ (endQ a l) m
 | a, [], m => rfl
 | a, c :: l, m => by rw [List.cons_append, endQ, J8 c l m, endQ]
theorem F5 (a : Q2) : ∀ (l : List Q2), l ≠ [] → endQ a l = lastQ l
 | [], h => absurd rfl h
 | [c], _ => rfl
 | c :: d :: l, _ => by
  rw [endQ, F5 c (d :: l) (by simp)]
  unfold lastQ
  rw [List.getLast?_cons_cons]
theorem Aa9 (b : Bool) (s : Rat) : ∀ (a : Q2) (l : List Q2), chn (gg b s) a l = chn crs a l - (pot b s (endQ a l) - pot b s a)
 | a, [] => by simp only [chn, endQ]; grind
 | a, c :: l => by
  rw [chn, chn, Aa9 b s c l, endQ]
  unfold gg
  generalize pot b s (endQ c l) = x
  generalize pot b s a = y
  generalize pot b s c = z
  grind
def At (b high : Bool) (s : Rat) (a q : Q2) : Prop := if ins b high s a = true then q = a else crd b q = s
theorem AE5 {b high : Bool} {s : Rat} {a c q : Q2} (h : At b high s a q) : chn (gg b s) q (stepQ b high s a c) = piece b high s a c ∧ At b high s c (endQ q (stepQ b high s a c)) := by
 unfold At at h ⊢
 unfold stepQ piece
 have hm : ins b high s a ≠ ins b high s c → crd b (cutQ b s a c) = s := fun h => Z9 (QW h)
 cases h1 : ins b high s a <;> cases h2 : ins b high s c <;> rw [h1] at h hm <;> rw [h2] at hm <;> simp only [if_true, Bool.false_eq_true, if_false, reduceCtorEq] at h ⊢
 ·simp only [List.nil_append, chn, endQ, cond_false, if_true, List.append_nil]
  exact ⟨trivial, h⟩
 ·have hm := hm (by simp)
  simp only [List.cons_append, List.nil_append, chn, endQ, cond_false, cond_true]
  rw [Ae6 h hm]
  refine ⟨by grind, trivial⟩
 ·have hm := hm (by simp)
  simp only [List.append_nil, chn, endQ, cond_false, cond_true]
  rw [h]
  exact ⟨by grind, hm⟩
 ·simp only [List.nil_append, chn, endQ, cond_true, if_true]
  rw [h]
  exact ⟨by grind, trivial⟩
theorem V4 {b high : Bool} {s : Rat} : ∀ (l : List Q2) (a q : Q2), At b high s a q → chn (gg b s) q (clipFrom b high s a l) = chn (piece b high s) a l ∧ At b high s (endQ a l) (endQ q (clipFrom b high s a l))
 | [], a, q, h => ⟨rfl, h⟩
 | c :: l, a, q, h => by
  obtain ⟨h1, h2⟩ := AE5 (c := c) h
  obtain ⟨h3, h4⟩ := V4 l c _ h2
  rw [clipFrom, Ma, J8, h1, h3]
  exact ⟨rfl, h4⟩
theorem AD3 (b high : Bool) (s : Rat) (a : Q2) : ∃ q, At b high s a q := by
 unfold At
 by_cases h : ins b high s a = true
 ·exact ⟨a, by rw [if_pos h]⟩
 ·refine ⟨(s, s), ?_⟩
  rw [if_neg h]
  unfold crd
  cases b <;> rfl
theorem N5 (l : List Q2) : endQ (lastQ l) l = lastQ l := by
 cases l with
 | nil => rfl
 | cons c l => exact F5 _ _ (by simp)
theorem U7 (b high : Bool) (s : Rat) (l : List Q2) : area2 (clipQ b high s l) = chn (piece b high s) (lastQ l) l := by
 obtain ⟨q, hq⟩ := AD3 b high s (lastQ l)
 obtain ⟨h1, h2⟩ := V4 l (lastQ l) q hq
 rw [N5] at h2
 unfold area2
 by_cases he : clipQ b high s l = []
 ·have he' : clipFrom b high s (lastQ l) l = [] := he
  rw [he]
  rw [he'] at h1
  rw [← h1]
  rfl
 ·have hl : endQ q (clipFrom b high s (lastQ l) l) = lastQ (clipQ b high s l) := F5 _ _ he
  rw [hl] at h2
  obtain ⟨h3, _⟩ := V4 l (lastQ l) _ h2
  have h4 := Aa9 b s (lastQ (clipQ b high s l)) (clipQ b high s l)
  rw [N5] at h4
  have h5 : chn (gg b s) (lastQ (clipQ b high s l)) (clipQ b high s l) = chn (piece b high s) (lastQ l) l := h3
  rw [h5] at h4
  rw [h4]
  grind
theorem Az6 (b : Bool) (s : Rat) (l : List Q2) : area2 l = chn (gg b s) (lastQ l) l := by
 rw [Aa9, N5]
 unfold area2
 grind
theorem Ad6 (f g h : Q2 → Q2 → Rat) (e : ∀ a c, f a c + g a c = h a c) : ∀ (a : Q2) (l : List Q2), chn f a l + chn g a l = chn h a l
 | a, [] => by simp only [chn]; grind
 | a, c :: l => by
  have h1 := Ad6 f g h e c l
  have h2 := e a c
  simp only [chn]
  grind
theorem Ap8 (b : Bool) (s : Rat) (l : List Q2) : area2 (clipQ b false s l) + area2 (clipQ b true s l) = area2 l := by
 rw [U7, U7, Az6 b s l, Ad6 _ _ (gg b s) (Ah9 b s)]
theorem AB1 {b high : Bool} {s : Rat} {a c : Q2} : ∀ p ∈ stepQ b high s a c, ins b high s p = true := by
 intro p hp
 unfold stepQ at hp
 rcases List.mem_append.1 hp with hp | hp
 ·by_cases e : ins b high s a = ins b high s c
  ·rw [if_pos e] at hp; cases hp
  ·rw [if_neg e] at hp
   rw [List.mem_singleton.1 hp]
   have := Z9 (s := s) (QW e)
   unfold ins
   rw [this]
   cases high <;> simp [Rat.le_refl]
 ·by_cases e : ins b high s c = true
  ·rw [if_pos e] at hp
   rw [List.mem_singleton.1 hp]
   exact e
  ·rw [if_neg e] at hp; cases hp
theorem Py {b high : Bool} {s : Rat} : ∀ (l : List Q2) (a : Q2), ∀ p ∈ clipFrom b high s a l, ins b high s p = true
 | [], a, p, h => by cases h
 | c :: l, a, p, h => by
  rw [clipFrom] at h
  rcases List.mem_append.1 h with h | h
  ·exact AB1 p h
  ·exact Py l c p h
theorem PK {b high : Bool} {s : Rat} : ∀ (l : List Q2) (a : Q2), ins b high s a = true → (∀ p ∈ l, ins b high s p = true) → clipFrom b high s a l = l
 | [], a, _, _ => rfl
 | c :: l, a, ha, hl => by
  have hc := hl c (by simp)
  rw [clipFrom, PK l c hc (fun p hp => hl p (List.mem_cons_of_mem _ hp))]
  unfold stepQ
  rw [ha, hc, if_pos rfl, if_pos rfl]
  rfl
theorem Uf {l : List Q2} (h : l ≠ []) : lastQ l ∈ l := by
 unfold lastQ
 cases hl : l.getLast? with
 | none => exact absurd (List.getLast?_eq_none_iff.1 hl) h
 | some x => exact List.mem_of_getLast? hl
theorem AC3 {b high : Bool} {s : Rat} {l : List Q2} (h : ∀ p ∈ l, ins b high s p = true) : clipQ b high s l = l := by
 cases hl : l with
 | nil => rfl
 | cons c m =>
  rw [← hl]
  exact PK l _ (h _ (Uf (by rw [hl]; simp))) h
theorem YL (f : Q2 → Q2 → Rat) (a : Q2) (l : List Q2) (c : Q2) : chn f a (l ++ [c]) = chn f a l + f (endQ a l) c := by
 rw [Ma]; simp only [chn]; grind
theorem Ad7 : ∀ (l : List Q2) (a : Q2), chn crs (endQ a l) ((a :: l).reverse.drop 1) = -(chn crs a l)
 | [], a => by simp [chn, endQ]
 | c :: l, a => by
  have ih := Ad7 l c
  have e : (a :: c :: l).reverse = (c :: l).reverse ++ [a] := by simp
  have hne : (c :: l).reverse ≠ [] := by simp
  rw [e, List.drop_append_of_le_length (by simp), YL, endQ, ih]
  have he : endQ (endQ c l) ((c :: l).reverse.drop 1) = c := by
   have h1 : ∀ (m : List Q2) (d x : Q2), endQ x (m ++ [d]) = d := fun m d x => by rw [J8]; rfl
   cases l with
   | nil => rfl
   | cons d l =>
    have : (c :: d :: l).reverse.drop 1 = (d :: l).reverse.drop 1 ++ [c] := by
     rw [List.reverse_cons, List.drop_append_of_le_length (by simp)]
    rw [this, h1]
  rw [he, chn]
  unfold crs
  grind
theorem Aj7 (l : List Q2) : area2 l.reverse = -(area2 l) := by
 cases l with
 | nil => simp [area2, chn]
 | cons a m =>
  have h := Ad7 m a
  have e : (a :: m).reverse = endQ a m :: (a :: m).reverse.drop 1 := by
   cases hm : (a :: m).reverse with
   | nil => simp at hm
   | cons x t =>
    have : x = lastQ (a :: m) := by
     unfold lastQ
     rw [← List.head?_reverse, hm]; rfl
    rw [this, ← F5 a (a :: m) (by simp)]
    rfl
  have hl : lastQ (a :: m).reverse = a := by unfold lastQ; rw [List.getLast?_reverse]; rfl
  have hl2 : lastQ (a :: m) = endQ a m := by rw [← F5 a (a :: m) (by simp)]; rfl
  unfold area2
  rw [hl, hl2, e, chn, chn, h]
  unfold crs
  grind
end Go.Proofs.YtgfchmagglhohaaGreat.Ev

end
section
namespace Go.Proofs.YtgfchmagglhohaaGreat.Ev
open Go
abbrev SF := Bool × (List Int × (Bool × (List Int × (Bool × (List Int × (Bool × List Int))))))
abbrev RQ := (Bool × List Int) × (Bool × List Int)
abbrev RPt := RQ × RQ
theorem sEl {α β γ : Type} (f : α → γ) (g : β → γ) (x : α) : Sum.elim f g (.inl x) = f x := (rfl)
theorem sEr {α β γ : Type} (f : α → γ) (g : β → γ) (x : β) : Sum.elim f g (.inr x) = g x := (rfl)
def fl (x : RPt) : SF := (x.1.1.1, (x.1.1.2, (x.1.2.1, (x.1.2.2, (x.2.1.1, (x.2.1.2, x.2.2))))))
def un (s : SF) : RPt := (((s.1, s.2.1), (s.2.2.1, s.2.2.2.1)), ((s.2.2.2.2.1, s.2.2.2.2.2.1), s.2.2.2.2.2.2))
def fx (x : RPt) : RF := (x.1.1.1, (x.1.1.2, x.1.2))
def fy (x : RPt) : RF := (x.2.1.1, (x.2.1.2, x.2.2))
theorem fl_e (x : RPt) : (x.1.1.1, (x.1.1.2, (x.1.2.1, (x.1.2.2, (x.2.1.1, (x.2.1.2, x.2.2)))))) = fl x := (rfl)
theorem un_e (s : SF) : (((s.1, s.2.1), (s.2.2.1, s.2.2.2.1)), ((s.2.2.2.2.1, s.2.2.2.2.2.1), s.2.2.2.2.2.2)) = un s := (rfl)
theorem fx_e (x : RPt) : (x.1.1.1, (x.1.1.2, x.1.2)) = fx x := (rfl)
theorem fy_e (x : RPt) : (x.2.1.1, (x.2.1.2, x.2.2)) = fy x := (rfl)
theorem PG (x : RPt) : un (fl x) = x := (rfl)
theorem fl_x (x : RPt) : ((fl x).1, ((fl x).2.1, ((fl x).2.2.1, (fl x).2.2.2.1))) = fx x := (rfl)
theorem fl_y (x : RPt) : (fl x).2.2.2.2 = fy x := (rfl)
def rp (p : Q2) : RPt := (rq p.1, rq p.2)
theorem M0 (p : Q2) : fx (rp p) = rqF p.1 := (rfl)
theorem NN (p : Q2) : fy (rp p) = rqF p.2 := (rfl)
def shQ (n : Nat) (a : RF) : Bool := decide (a.2.1.length ≤ n) && decide (a.2.2.2.length ≤ n)
def goodP (x : RPt) : Bool := (goodQ x.1 && goodQ x.2) && (shQ 8 (fx x) && shQ 8 (fy x))
def BrP (x : RPt) : Prop := BrF (fx x) ∧ BrF (fy x)
def SzP (k : Nat) (p : Q2) : Prop := Sz k p.1 ∧ Sz k p.2
theorem SzP.mono {k m : Nat} {p : Q2} (h : SzP k p) (hkm : k ≤ m) : SzP m p := ⟨h.1.mono hkm, h.2.mono hkm⟩
theorem Un {q : Rat} {n : Nat} (hn : n ≤ 100) : shQ n (rqF q) = decide (Sz n q) := by
 unfold shQ
 rw [← Bool.decide_and]
 refine decide_eq_decide.2 ?_
 unfold Sz
 have h1 := @Ag q.num.natAbs n
 have h2 := @Ag q.den n
 have e2 : (rqF q).2.2.2 = lim q.den := by show (big (q.den : Int)).2 = _; rw [Fm]
 rw [e2, ← h2, ← h1]
 rfl
theorem Az2 (x : RPt) : toQ (fx x) = x.1 := (rfl)
theorem Aw8 (x : RPt) : toQ (fy x) = x.2 := (rfl)
theorem OM {x : RPt} : goodP x = true ↔ ∃ p, SzP 8 p ∧ x = rp p := by
 constructor
 ·intro h
  unfold goodP at h
  simp only [Bool.and_eq_true] at h
  obtain ⟨⟨h1, h2⟩, h3, h4⟩ := h
  obtain ⟨a, ha, e1⟩ := KA.1 h1
  obtain ⟨c, hc, e2⟩ := KA.1 h2
  have exy : x = (rq a, rq c) := by rw [← e1, ← e2]
  have ex : fx x = rqF a := by rw [exy]; rfl
  have ey : fy x = rqF c := by rw [exy]; rfl
  rw [ex, Un (by omega)] at h3
  rw [ey, Un (by omega)] at h4
  exact ⟨(a, c), ⟨of_decide_eq_true h3, of_decide_eq_true h4⟩, by unfold rp; rw [← e1, ← e2]⟩
 ·rintro ⟨p, hp, rfl⟩
  unfold goodP
  rw [M0, NN, Un (by omega), Un (by omega), decide_eq_true hp.1, decide_eq_true hp.2, Bool.and_true, Bool.and_true, Bool.and_eq_true]
  exact ⟨Sp (hp.1.mono (by omega)), Sp (hp.2.mono (by omega))⟩
def goodR (l : List RPt) : Bool := decide (l.length ≤ 40) && l.all goodP
def SzR (ps : List Q2) : Prop := ps.length ≤ 40 ∧ ∀ p ∈ ps, SzP 8 p
theorem N0 {l : List RPt} : goodR l = true ↔ ∃ ps : List Q2, SzR ps ∧ l = ps.map rp := by
 unfold goodR
 rw [Bool.and_eq_true, decide_eq_true_eq]
 constructor
 ·rintro ⟨h1, h2⟩
  have key : ∀ l : List RPt, l.all goodP = true → ∃ ps : List Q2, (∀ p ∈ ps, SzP 8 p) ∧ l = ps.map rp := by
   intro l
   induction l with
   | nil => intro _; exact ⟨[], by simp, rfl⟩
   | cons x l ih =>
    intro h
    rw [List.all_cons, Bool.and_eq_true] at h
    obtain ⟨p, hp, e⟩ := OM.1 h.1
    obtain ⟨ps, hps, e2⟩ := ih h.2
    refine ⟨p :: ps, ?_, by rw [List.map_cons, ← e, ← e2]⟩
    intro q hq
    rcases List.mem_cons.1 hq with rfl | hq
    ·exact hp
    ·exact hps q hq
  obtain ⟨ps, hps, e⟩ := key l h2
  exact ⟨ps, ⟨by rw [e, List.length_map] at h1; exact h1, hps⟩, e⟩
 ·rintro ⟨ps, ⟨h1, h2⟩, rfl⟩
  refine ⟨by rw [List.length_map]; exact h1, ?_⟩
  rw [List.all_eq_true]
  intro x hx
  obtain ⟨p, hp, rfl⟩ := List.mem_map.1 hx
  exact OM.2 ⟨p, h2 p hp, rfl⟩
theorem LF (a : RF) (n : Nat) : AV a (n : Int) = some (shQ n a) := by
 unfold AV shQ
 by_cases h : a.2.1.length ≤ n
 ·rw [decide_eq_true (show ((a.2.1.length : Nat) : Int) ≤ (n : Int) by omega), cT, decide_eq_true h, Bool.true_and]
  congr 1
  exact decide_eq_decide.2 (by omega)
 ·rw [decide_eq_false (show ¬ ((a.2.1.length : Nat) : Int) ≤ (n : Int) by omega), cF, decide_eq_false h, Bool.false_and]
theorem Af1 {x : RPt} (h : BrP x) : H0 (fl x) 8 = some (goodP x) := by
 have hl : BF [x.1, x.2] = some (goodQ x.1 && goodQ x.2) := by
  rw [UN (by simp) (by
   intro a ha
   simp at ha
   rcases ha with rfl | rfl
   ·exact h.1
   ·exact h.2)]
  simp
 have e : ((((fl x).1, (fl x).2.1), ((fl x).2.2.1, (fl x).2.2.2.1)) : RQ) = x.1 := rfl
 have e' : ((((fl x).2.2.2.2.1, (fl x).2.2.2.2.2.1), (fl x).2.2.2.2.2.2) : RQ) = x.2 := rfl
 unfold H0 goodP
 simp only [peta]
 rw [e, e', hl, obs]
 have s1 := LF (fx x) 8
 have s2 := LF (fy x) 8
 rw [show ((8 : Nat) : Int) = 8 from rfl] at s1 s2
 cases hg : goodQ x.1 && goodQ x.2 with
 | false => rfl
 | true =>
  rw [cT]
  try simp only [fl_x, fl_y]
  rw [s1, obs, Bool.true_and]
  cases shQ 8 (fx x) with
  | false => rfl
  | true => rw [cT, s2, obs, Bool.true_and]
theorem Bu {l : List RPt} (hl : l.length ≤ 100000) (hb : ∀ x ∈ l, BrP x) : AW l = some (goodR l) := by
 have hc : As l = some (!(l.all goodP)) := by
  unfold As AP
  have key := JM (body := fun (s : ((List RPt) × (Int × Int))) => Ak s.1 s.2.1 s.2.2) (l := l) (st := fun k => (l, (l.length : Int), (k : Int))) (p := goodP) (fin := .inl ()) (bad := fun k => .inr (k : Int))
   (fun k a hk hp => by
    have := getL hk
    show Ak l (l.length : Int) (k : Int) = _
    unfold Ak C8
    simp only [Et hk, cT, An, hk, obs, peta]
    rw [fl_e, Af1 (hb a (List.mem_of_getElem? hk)), obs, hp, obs, nT, cF, wrap1 (by omega)])
   (fun k a hk hp => by
    show Ak l (l.length : Int) (k : Int) = _
    unfold Ak C8
    simp only [Et hk, cT, An, hk, obs, peta]
    rw [fl_e, Af1 (hb a (List.mem_of_getElem? hk)), obs, hp, obs, nF, cT])
   (by
    show Ak l (l.length : Int) (l.length : Int) = _
    unfold Ak; simp only [KT, cF])
  rw [show ((0 : Nat) : Int) = 0 from rfl] at key
  cases hall : l.all goodP with
  | true => rw [key.1 hall]; rfl
  | false =>
   obtain ⟨k, _, h⟩ := key.2 hall
   rw [h]
   simp only [Option.bind_some, Sum.elim_inr]
   have : decide ((k : Int) ≥ 0) = true := by simp
   rw [this]; rfl
 unfold AW goodR
 by_cases h : l.length ≤ 40
 ·rw [decide_eq_true (by omega), cT, hc, obs, decide_eq_true h, Bool.not_not, Bool.true_and]
 ·rw [decide_eq_false (by omega), cF, decide_eq_false h, Bool.false_and]
theorem KZ {a : RF} (h : BrF a) : D9 a = some (goodQ (toQ a) && shQ 8 a) := by
 unfold D9 shQ
 simp only [rq_e, peta]
 by_cases h1 : a.2.1.length ≤ 8
 ·rw [decide_eq_true (by omega), cT, decide_eq_true h1, Bool.true_and]
  by_cases h2 : a.2.2.2.length ≤ 8
  ·rw [decide_eq_true (by omega), cT, decide_eq_true h2, Bool.and_true, VA h, obs]
  ·rw [decide_eq_false (by omega), cF, decide_eq_false h2, Bool.and_false]
 ·rw [decide_eq_false (by omega), cF, decide_eq_false h1, Bool.false_and, Bool.and_false]
theorem QX {a : RF} (h : BrF a) : EL a = some (goodQ (toQ a) && shQ 2 a) := by
 unfold EL shQ
 simp only [rq_e, peta]
 by_cases h1 : a.2.1.length ≤ 2
 ·rw [decide_eq_true (by omega), cT, decide_eq_true h1, Bool.true_and]
  by_cases h2 : a.2.2.2.length ≤ 2
  ·rw [decide_eq_true (by omega), cT, decide_eq_true h2, Bool.and_true, VA h, obs]
  ·rw [decide_eq_false (by omega), cF, decide_eq_false h2, Bool.and_false]
 ·rw [decide_eq_false (by omega), cF, decide_eq_false h1, Bool.false_and, Bool.and_false]
theorem K0 {a : RF} (h : BrF a) : D2 a = some (goodQ (toQ a) && shQ 2 a) := by
 have s1 := LF a 2
 rw [show ((2 : Nat) : Int) = 2 from rfl] at s1
 unfold D2
 simp only [rq_e, peta]
 rw [Ua h, obs]
 cases goodQ (toQ a) with
 | false => rfl
 | true => rw [cT, s1, obs, Bool.true_and]
theorem CB {l : List RPt} (hl : l.length ≤ 100000) (hb : ∀ x ∈ l, BrP x) : Br l = some (goodR l) := by
 have key := JM (body := fun (s : ((List RPt) × ((List RPt) × (Int × Int)))) => Bt s.1 s.2.1 s.2.2.1 s.2.2.2) (l := l) (st := fun k => (l, l, (l.length : Int), (k : Int))) (p := goodP) (fin := .inl l) (bad := fun k => .inr false)
  (fun k a hk hp => by
   have := getL hk
   have hba := hb a (List.mem_of_getElem? hk)
   unfold goodP at hp
   simp only [Bool.and_eq_true] at hp
   show Bt l l (l.length : Int) (k : Int) = _
   unfold Bt
   simp only [Et hk, cT, An, hk, obs, peta]
   rw [fx_e, fy_e, KZ hba.1, obs, Az2, hp.1.1, hp.2.1, Bool.and_self, nT, cF, KZ hba.2, obs, Aw8, hp.1.2, hp.2.2, Bool.and_self, nT, cF, wrap1 (by omega)])
  (fun k a hk hp => by
   have hba := hb a (List.mem_of_getElem? hk)
   show Bt l l (l.length : Int) (k : Int) = _
   unfold Bt
   simp only [Et hk, cT, An, hk, obs, peta]
   rw [fx_e, fy_e, KZ hba.1, obs, Az2]
   cases h1 : goodQ a.1 && shQ 8 (fx a) with
   | false => rw [nF, cT]
   | true =>
    have h2 : (goodQ a.2 && shQ 8 (fy a)) = false := by
     unfold goodP at hp
     rw [Bool.and_eq_true] at h1
     rw [h1.1, h1.2, Bool.true_and, Bool.true_and] at hp
     exact hp
    rw [nT, cF, KZ hba.2, obs, Aw8, h2, nF, cT])
  (by
   show Bt l l (l.length : Int) (l.length : Int) = _
   unfold Bt; simp only [KT, cF])
 rw [show ((0 : Nat) : Int) = 0 from rfl] at key
 unfold Br goodR
 cases hall : l.all goodP with
 | true =>
  rw [key.1 hall, obs, sEl, Bool.and_true]
  congr 1
  exact decide_eq_decide.2 (by omega)
 | false =>
  obtain ⟨k, _, h⟩ := key.2 hall
  rw [h, obs, sEr, Bool.and_false]
end Go.Proofs.YtgfchmagglhohaaGreat.Ev

end
section
namespace Go.Proofs.YtgfchmagglhohaaGreat.Ev
open Go
theorem appP {l : List RPt} {x : RPt} (h : l.length ≤ 100000) : appL 128 8 l [x] = some (l ++ [x]) := QL (by simp [maxBytes]; omega) (by simp [maxBytes]; omega)
theorem QB (p : Q2) (b : Bool) : AT (fl (rp p)) b = some (rqF (crd b p)) := by cases b <;> rfl
theorem VF (p : Q2) (b : Bool) : Dh (fl (rp p)) b = some (rqF (crd b p)) := by cases b <;> rfl
theorem CX {k : Nat} {p : Q2} (h : SzP k p) (b : Bool) : Sz k (crd b p) := by cases b; exact h.1; exact h.2
theorem MS {p : Q2} {s : Rat} (hp : SzP 8 p) (hs : Sz 8 s) (b high : Bool) : DN high b (rqF s) (fl (rp p)) = some (high, (b, (rqF s, ins b high s p))) := by
 have hc := CX hp b
 unfold DN
 simp only [rq_e, peta]
 cases high with
 | true =>
  simp only [cT]
  rw [QB, obs, RO (k := 8) (by omega) hc hs, obs, Ar2]
  have : (!decide (crd b p < s)) = decide (s ≤ crd b p) := by
   rw [Bool.eq_iff_iff]; simp [Rat.not_lt]
  rw [this]
 | false =>
  simp only [cF]
  rw [QB, obs, RO (k := 8) (by omega) hs hc, obs, Y4]
  have : (!decide (s < crd b p)) = decide (crd b p ≤ s) := by
   rw [Bool.eq_iff_iff]; simp [Rat.not_lt]
  rw [this]
theorem S1 : Sz 8 (1 : Rat) := by have := Wi (z := 1) (AE7 (k := 8) (by omega)) (by omega); exact this
theorem Am9 : CN (1 : Int) = some (rqF 1) := by rw [WT (by omega) (by omega)]; rfl
section
variable {a c : Q2} {t : Rat} (ha : SzP 8 a) (hc : SzP 8 c) (ht : Sz 34 t)
include ha hc ht
theorem AJ0 : Nq (fl (rp a)) (fl (rp c)) (rqF t) = some (fl (rp (mixQ a c t))) := by
 have h1 : Sz 43 (1 - t) := (Hj S1 ht).mono (by omega)
 have m1 : ∀ x : Rat, Sz 8 x → Sz 86 ((1 - t) * x) := fun x hx => (Ho h1 hx).mono (by omega)
 have m2 : ∀ x : Rat, Sz 8 x → Sz 86 (t * x) := fun x hx => (Ho ht hx).mono (by omega)
 unfold Nq
 simp only [rq_e, peta, fl_x, fl_y, M0, NN]
 rw [Am9, obs]
 try simp only [rq_e]
 rw [K1 (k := 34) (by omega) (S1.mono (by omega)) ht, obs]
 try simp only [rq_e]
 rw [F8 (k := 43) (by omega) h1 (ha.1.mono (by omega)), obs, F8 (k := 43) (by omega) (ht.mono (by omega)) (hc.1.mono (by omega)), obs]
 try simp only [rq_e]
 rw [HS (k := 86) (by omega) (m1 _ ha.1) (m2 _ hc.1), obs, F8 (k := 43) (by omega) h1 (ha.2.mono (by omega)), obs, F8 (k := 43) (by omega) (ht.mono (by omega)) (hc.2.mono (by omega)), obs]
 try simp only [rq_e]
 rw [HS (k := 86) (by omega) (m1 _ ha.2) (m2 _ hc.2), obs]
 unfold mixQ
 rw [show a.1 + t * (c.1 - a.1) = (1 - t) * a.1 + t * c.1 by grind, show a.2 + t * (c.2 - a.2) = (1 - t) * a.2 + t * c.2 by grind]
 rfl
theorem AI8 : Gv (fl (rp a)) (fl (rp c)) (rqF t) = some (fl (rp (mixQ a c t))) := by
 have key : ∀ x y : Rat, Sz 8 x → Sz 8 y → Eg (rqF x) (rqF y) (rqF t) = some (rqF (x + t * (y - x))) := by
  intro x y hx hy
  unfold Eg
  simp only [rq_e]
  rw [QG (k := 8) (by omega) hy hx, obs]
  try simp only [rq_e]
  have h1 : Sz 34 (y - x) := (Hj hy hx).mono (by omega)
  rw [Wz (k := 34) (by omega) ht h1, obs]
  try simp only [rq_e]
  rw [Wq (k := 68) (by omega) (hx.mono (by omega)) ((Ho ht h1).mono (by omega)), obs]
 unfold Gv
 simp only [rq_e, peta, fl_x, fl_y, M0, NN]
 rw [key _ _ ha.1 hc.1, obs, key _ _ ha.2 hc.2, obs]
 rfl
theorem AG8 : SzP 87 (mixQ a c t) := by
 have key : ∀ x y : Rat, Sz 8 x → Sz 8 y → Sz 87 (x + t * (y - x)) := fun x y hx hy => (VH hx (Ho ht (Hj hy hx))).mono (by omega)
 exact ⟨key _ _ ha.1 hc.1, key _ _ ha.2 hc.2⟩
end
section
variable {a c : Q2} {s : Rat} {b : Bool} (ha : SzP 8 a) (hc : SzP 8 c) (hs : Sz 8 s) (hne : crd b c ≠ crd b a)
include ha hc hs hne
theorem t_sz : Sz 34 ((s - crd b a) / (crd b c - crd b a)) :=
 (Au4 (Hj hs (CX ha b)) (Hj (CX hc b) (CX ha b)) (fun e => hne (by grind))).mono (by omega)
theorem AH9 : SzP 87 (cutQ b s a c) := AG8 ha hc (t_sz ha hc hs hne)
theorem AD6 : C7 (rqF (s - crd b a)) (rqF (crd b c - crd b a)) = some (rqF ((s - crd b a) / (crd b c - crd b a))) :=
 Uy (k := 17) (by omega) ((Hj hs (CX ha b)).mono (by omega)) ((Hj (CX hc b) (CX ha b)).mono (by omega)) (fun e => hne (by grind))
theorem Ax8 : GL (fl (rp a)) (fl (rp c)) b (rqF s) = some (fl (rp (cutQ b s a c))) := by
 have hon := Z9 (s := s) hne
 unfold GL
 simp only [rq_e, peta]
 rw [VF, obs]
 try simp only [rq_e]
 rw [QG (k := 8) (by omega) hs (CX ha b), obs, VF, obs]
 try simp only [rq_e]
 rw [QG (k := 8) (by omega) (CX hc b) (CX ha b), obs]
 try simp only [rq_e]
 rw [Ae9 (k := 17) (by omega) ((Hj hs (CX ha b)).mono (by omega)) ((Hj (CX hc b) (CX ha b)).mono (by omega)) (fun e => hne (by grind)), obs]
 try simp only [rq_e]
 rw [AI8 ha hc (t_sz ha hc hs hne), obs, show mixQ a c ((s - crd b a) / (crd b c - crd b a)) = cutQ b s a c from rfl]
 generalize cutQ b s a c = m at hon
 cases b with
 | true =>
  rw [cT]
  have : m.2 = s := hon
  rw [← this]
  rfl
 | false =>
  rw [cF]
  have : m.1 = s := hon
  rw [← this]
  rfl
end
theorem Au1 {p : Q2} {s : Rat} (hp : SzP 8 p) (hs : Sz 8 s) (b high : Bool) : ∃ v, Ea (fl (rp p)) b (rqF s) high = some v ∧ decide (v ≤ 0) = ins b high s p := by
 have hc := CX hp b
 unfold Ea
 simp only [rq_e, peta]
 rw [VF, obs]
 try simp only [rq_e]
 rw [AD8 (k := 8) (by omega) hc hs, obs]
 have h1 := @Af8 (crd b p) s
 have h2 := @Ad2 (crd b p) s
 have hb : -1 ≤ cmpQ (crd b p) s ∧ cmpQ (crd b p) s ≤ 1 := by unfold cmpQ; split <;> (try split) <;> omega
 cases high with
 | true =>
  refine ⟨_, rfl, ?_⟩
  rw [wrapI (by omega) (by omega), Ar2]
  refine decide_eq_decide.2 ?_
  rw [← Rat.not_lt, ← h1]
  omega
 | false =>
  refine ⟨_, rfl, ?_⟩
  rw [Y4]
  refine decide_eq_decide.2 ?_
  rw [← Rat.not_lt, ← h2]
  omega
theorem Ab8 {k n : Nat} (hk : k < n) (hn : n ≤ 100000) : Int.tmod (IntKind.wrap .i64 (IntKind.wrap .i64 ((k : Int) + (n : Int)) - 1)) (n : Int) = (((k + n - 1) % n : Nat) : Int) := by
 rw [wrapI (n := (k : Int) + (n : Int)) (by omega) (by omega), wrapI (by omega) (by omega), Int.tmod_eq_emod_of_nonneg (by omega)]
 rw [show (k : Int) + (n : Int) - 1 = ((k + n - 1 : Nat) : Int) by omega]
 rfl
theorem Uj {k n : Nat} (hk : k < n) : (k + 1 + n - 1) % n = k := by
 rw [show k + 1 + n - 1 = k + n by omega, Nat.add_mod_right, Nat.mod_eq_of_lt hk]
theorem Dq {ps : List Q2} {k : Nat} {p : Q2} (h : ps[k]? = some p) : getI (ps.map rp) (k : Int) = some (rp p) := by
 rw [An, List.getElem?_map, h]; rfl
theorem SL (b high : Bool) (s : Rat) (a c : Q2) : (stepQ b high s a c).length ≤ 2 := by
 unfold stepQ
 rw [List.length_append]
 split <;> split <;> simp
section
variable {ps : List Q2} {s : Rat} (hps : SzR ps) (hs : Sz 8 s) (b high : Bool)
include hps hs
theorem Yf : ∀ (m k : Nat) (a : Q2) (out : List Q2), k + m = ps.length → (k < ps.length → ps[(k + ps.length - 1) % ps.length]? = some a) → out.length ≤ 2 * k →
  loopM (fun (s : (Bool × (RF × (Bool × ((List (RQ × RQ)) × ((List (RQ × RQ)) × ((List (RQ × RQ)) × (Int × Int)))))))) => C5 s.1 s.2.1 s.2.2.1 s.2.2.2.1 s.2.2.2.2.1 s.2.2.2.2.2.1 s.2.2.2.2.2.2.1 s.2.2.2.2.2.2.2)
   (b, (rqF s, (high, (out.map rp, (ps.map rp, (ps.map rp, ((ps.length : Int), (k : Int)))))))) = some ((out ++ clipFrom b high s a (ps.drop k)).map rp) := by
 intro m
 induction m with
 | zero =>
  intro k a out hk _ _
  refine Ar ?_
  show C5 b (rqF s) high (out.map rp) (ps.map rp) (ps.map rp) (ps.length : Int) (k : Int) = _
  unfold C5
  rw [decide_eq_false (by omega), List.drop_eq_nil_of_le (by omega), clipFrom, List.append_nil]
  rfl
 | succ m ih =>
  intro k a out hk ha hout
  have h40 := hps.1
  have hlt : k < ps.length := by omega
  have ha := ha hlt
  have hd : ps.drop k = ps[k] :: ps.drop (k + 1) := List.drop_eq_getElem_cons hlt
  have hg : ps[k]? = some ps[k] := List.getElem?_eq_getElem hlt
  generalize ps[k] = c at hd hg
  have sa := hps.2 a (List.mem_of_getElem? ha)
  have sc := hps.2 c (List.mem_of_getElem? hg)
  have hgo : C5 b (rqF s) high (out.map rp) (ps.map rp) (ps.map rp) (ps.length : Int) (k : Int) = some (.inl (b, (rqF s, (high, ((out ++ stepQ b high s a c).map rp, (ps.map rp, (ps.map rp, ((ps.length : Int), ((k + 1 : Nat) : Int))))))))) := by
   unfold C5
   have hz : (((ps.length : Nat) : Int) == 0) = false := beq_eq_false_iff_ne.2 (by omega)
   rw [decide_eq_true (by omega), cT, Dq hg, obs, List.length_map, hz, cF, Ab8 hlt (by omega), Dq ha, obs]
   simp only [rq_e, peta, fl_e]
   rw [MS sa hs, obs]
   simp only
   rw [MS sc hs, obs]
   simp only
   unfold stepQ
   have ol : (out.map rp).length ≤ 100000 := by rw [List.length_map]; omega
   by_cases hne : ins b high s a = ins b high s c
   ·rw [show (ins b high s a == ins b high s c) = true from beq_iff_eq.2 hne, nT, cF, obs, sEr, if_pos hne]
    simp only [rq_e, peta]
    rw [MS sc hs, obs]
    simp only
    cases hi : ins b high s c with
    | true =>
     rw [cT, un_e, PG, appP ol, obs, wrap1 (by omega)]
     simp
    | false =>
     rw [cF, wrap1 (by omega)]
     simp
   ·have hcut := QW hne
    rw [show (ins b high s a == ins b high s c) = false from beq_eq_false_iff_ne.2 hne, nF, cT, QB, obs]
    try simp only [rq_e]
    rw [K1 (k := 8) (by omega) hs (CX sa b), obs, QB, obs, obs]
    try simp only [rq_e]
    rw [K1 (k := 8) (by omega) (CX sc b) (CX sa b), obs]
    try simp only [rq_e]
    rw [AD6 sa sc hs hcut, obs]
    try simp only [rq_e]
    rw [AJ0 sa sc (t_sz sa sc hs hcut), obs, show mixQ a c ((s - crd b a) / (crd b c - crd b a)) = cutQ b s a c from rfl, un_e, PG, appP ol, obs, obs, sEr, if_neg hne]
    simp only [rq_e, peta]
    rw [MS sc hs, obs]
    simp only
    cases hi : ins b high s c with
    | true =>
     rw [cT, un_e, PG, appP (by simp; omega), obs, wrap1 (by omega)]
     simp
    | false =>
     rw [cF, wrap1 (by omega)]
     simp
  refine (Bc (f := fun (s : (Bool × (RF × (Bool × ((List (RQ × RQ)) × ((List (RQ × RQ)) × ((List (RQ × RQ)) × (Int × Int)))))))) => C5 s.1 s.2.1 s.2.2.1 s.2.2.2.1 s.2.2.2.2.1 s.2.2.2.2.2.1 s.2.2.2.2.2.2.1 s.2.2.2.2.2.2.2)
   (s := (b, (rqF s, (high, (out.map rp, (ps.map rp, (ps.map rp, ((ps.length : Int), (k : Int))))))))) hgo).trans ?_
  have hst := SL b high s a c
  rw [ih (k + 1) c (out ++ stepQ b high s a c) (by omega) (fun h => by rw [Uj hlt]; exact hg) (by rw [List.length_append]; omega), hd, clipFrom, List.append_assoc]
theorem Yg : ∀ (m k : Nat) (a : Q2) (out : List Q2), k + m = ps.length → (k < ps.length → ps[(k + ps.length - 1) % ps.length]? = some a) → out.length ≤ 2 * k →
  loopM (fun (s : (RF × ((List (RQ × RQ)) × ((List (RQ × RQ)) × (Bool × (Bool × ((List (RQ × RQ)) × (Int × Int)))))))) => BC s.1 s.2.1 s.2.2.1 s.2.2.2.1 s.2.2.2.2.1 s.2.2.2.2.2.1 s.2.2.2.2.2.2.1 s.2.2.2.2.2.2.2)
   (rqF s, (out.map rp, (ps.map rp, (b, (high, (ps.map rp, ((ps.length : Int), (k : Int)))))))) = some ((out ++ clipFrom b high s a (ps.drop k)).map rp) := by
 intro m
 induction m with
 | zero =>
  intro k a out hk _ _
  refine Ar ?_
  show BC (rqF s) (out.map rp) (ps.map rp) b high (ps.map rp) (ps.length : Int) (k : Int) = _
  unfold BC
  rw [decide_eq_false (by omega), List.drop_eq_nil_of_le (by omega), clipFrom, List.append_nil]
  rfl
 | succ m ih =>
  intro k a out hk ha hout
  have h40 := hps.1
  have hlt : k < ps.length := by omega
  have ha := ha hlt
  have hd : ps.drop k = ps[k] :: ps.drop (k + 1) := List.drop_eq_getElem_cons hlt
  have hg : ps[k]? = some ps[k] := List.getElem?_eq_getElem hlt
  generalize ps[k] = c at hd hg
  have sa := hps.2 a (List.mem_of_getElem? ha)
  have sc := hps.2 c (List.mem_of_getElem? hg)
  have hgo : BC (rqF s) (out.map rp) (ps.map rp) b high (ps.map rp) (ps.length : Int) (k : Int) = some (.inl (rqF s, ((out ++ stepQ b high s a c).map rp, (ps.map rp, (b, (high, (ps.map rp, ((ps.length : Int), ((k + 1 : Nat) : Int))))))))) := by
   unfold BC
   have hz : (((ps.length : Nat) : Int) == 0) = false := beq_eq_false_iff_ne.2 (by omega)
   obtain ⟨v, v1, v2⟩ := Au1 sa hs b high
   obtain ⟨w, w1, w2⟩ := Au1 sc hs b high
   rw [decide_eq_true (by omega), cT, Dq hg, obs, List.length_map, hz, cF, Ab8 hlt (by omega), Dq ha, obs]
   simp only [rq_e, peta, fl_e]
   rw [v1, obs, w1, obs, v2, w2]
   unfold stepQ
   have ol : (out.map rp).length ≤ 100000 := by rw [List.length_map]; omega
   by_cases hne : ins b high s a = ins b high s c
   ·rw [show (ins b high s a == ins b high s c) = true from beq_iff_eq.2 hne, nT, cF, if_pos hne]
    cases hi : ins b high s c with
    | true =>
     rw [cT, appP ol, obs, wrap1 (by omega)]
     simp
    | false =>
     rw [cF, wrap1 (by omega)]
     simp
   ·have hcut := QW hne
    rw [show (ins b high s a == ins b high s c) = false from beq_eq_false_iff_ne.2 hne, nF, cT, Ax8 sa sc hs hcut, obs, un_e, PG, appP ol, obs, if_neg hne]
    cases hi : ins b high s c with
    | true =>
     rw [cT, appP (by simp; omega), obs, wrap1 (by omega)]
     simp
    | false =>
     rw [cF, wrap1 (by omega)]
     simp
  refine (Bc (f := fun (s : (RF × ((List (RQ × RQ)) × ((List (RQ × RQ)) × (Bool × (Bool × ((List (RQ × RQ)) × (Int × Int)))))))) => BC s.1 s.2.1 s.2.2.1 s.2.2.2.1 s.2.2.2.2.1 s.2.2.2.2.2.1 s.2.2.2.2.2.2.1 s.2.2.2.2.2.2.2)
   (s := (rqF s, (out.map rp, (ps.map rp, (b, (high, (ps.map rp, ((ps.length : Int), (k : Int))))))))) hgo).trans ?_
  have hst := SL b high s a c
  rw [ih (k + 1) c (out ++ stepQ b high s a c) (by omega) (fun h => by rw [Uj hlt]; exact hg) (by rw [List.length_append]; omega), hd, clipFrom, List.append_assoc]
theorem Ab6 (h : 0 < ps.length) : ps[(0 + ps.length - 1) % ps.length]? = some (lastQ ps) := by
 rw [Nat.zero_add, Nat.mod_eq_of_lt (by omega), ← List.getLast?_eq_getElem?]
 unfold lastQ
 cases hl : ps.getLast? with
 | none => rw [List.getLast?_eq_none_iff.1 hl] at h; simp at h
 | some x => rfl
theorem Ar9 : Hx (ps.map rp) b high (rqF s) = some ((clipQ b high s ps).map rp) := by
 have h := Yf hps hs b high ps.length 0 (lastQ ps) [] (by omega) (fun h => Ab6 hps hs h) (by simp)
 rw [List.drop_zero, List.nil_append] at h
 have h' : loopM (fun (s : (Bool × (RF × (Bool × ((List (RQ × RQ)) × ((List (RQ × RQ)) × ((List (RQ × RQ)) × (Int × Int)))))))) => C5 s.1 s.2.1 s.2.2.1 s.2.2.2.1 s.2.2.2.2.1 s.2.2.2.2.2.1 s.2.2.2.2.2.2.1 s.2.2.2.2.2.2.2)
   (b, (rqF s, (high, ((List.nil : List RPt), (ps.map rp, (ps.map rp, ((ps.length : Int), (0 : Int)))))))) = _ := h
 unfold Hx
 simp only [rq_e, peta]
 rw [List.length_map, h', obs]
 rfl
theorem Vj : D7 (ps.map rp) b (rqF s) high = some ((clipQ b high s ps).map rp) := by
 have h := Yg hps hs b high ps.length 0 (lastQ ps) [] (by omega) (fun h => Ab6 hps hs h) (by simp)
 rw [List.drop_zero, List.nil_append] at h
 have h' : loopM (fun (s : (RF × ((List (RQ × RQ)) × ((List (RQ × RQ)) × (Bool × (Bool × ((List (RQ × RQ)) × (Int × Int)))))))) => BC s.1 s.2.1 s.2.2.1 s.2.2.2.1 s.2.2.2.2.1 s.2.2.2.2.2.1 s.2.2.2.2.2.2.1 s.2.2.2.2.2.2.2)
   (rqF s, ((List.nil : List RPt), (ps.map rp, (b, (high, (ps.map rp, ((ps.length : Int), (0 : Int)))))))) = _ := h
 unfold D7
 simp only [rq_e, peta]
 rw [List.length_map, h', obs]
 rfl
theorem QJ : (clipQ b high s ps).length ≤ 80 ∧ ∀ p ∈ clipQ b high s ps, SzP 87 p := by
 have h40 := hps.1
 have h2 := hps.2
 have key : ∀ (l : List Q2) (a : Q2), SzP 8 a → (∀ p ∈ l, SzP 8 p) → (clipFrom b high s a l).length ≤ 2 * l.length ∧ ∀ p ∈ clipFrom b high s a l, SzP 87 p := by
  intro l
  induction l with
  | nil => intro a _ _; exact ⟨by simp [clipFrom], fun p hp => by simp [clipFrom] at hp⟩
  | cons c l ih =>
   intro a ha hl
   have hc := hl c (by simp)
   obtain ⟨i1, i2⟩ := ih c hc (fun p hp => hl p (List.mem_cons_of_mem _ hp))
   have hst := SL b high s a c
   rw [clipFrom]
   refine ⟨by rw [List.length_append, List.length_cons]; omega, fun p hp => ?_⟩
   rcases List.mem_append.1 hp with hp | hp
   ·unfold stepQ at hp
    rcases List.mem_append.1 hp with hp | hp
    ·by_cases e : ins b high s a = ins b high s c
     ·rw [if_pos e] at hp; cases hp
     ·rw [if_neg e] at hp
      rw [List.mem_singleton.1 hp]
      exact AH9 ha hc hs (QW e)
    ·by_cases e : ins b high s c = true
     ·rw [if_pos e] at hp
      rw [List.mem_singleton.1 hp]
      exact hc.mono (by omega)
     ·rw [if_neg e] at hp; cases hp
   ·exact i2 p hp
 by_cases hn : ps = []
 ·unfold clipQ
  rw [hn]
  exact ⟨by simp [clipFrom], fun p hp => by simp [clipFrom] at hp⟩
 ·obtain ⟨k1, k2⟩ := key ps (lastQ ps) (h2 _ (Uf hn)) h2
  exact ⟨Nat.le_trans k1 (by omega), k2⟩
end
end Go.Proofs.YtgfchmagglhohaaGreat.Ev

end
section
namespace Go.Proofs.YtgfchmagglhohaaGreat.Ev
open Go
theorem AF3 {p q : Q2} (h : rp p = rp q) : p = q := by
 unfold rp at h
 have h1 := At5 (congrArg Prod.fst h)
 have h2 := At5 (congrArg Prod.snd h)
 exact Prod.ext h1 h2
theorem Yr (p : Q2) : goodP (rp p) = true ↔ SzP 8 p := by
 rw [OM]
 constructor
 ·rintro ⟨q, hq, e⟩
  rw [AF3 e]; exact hq
 ·intro h; exact ⟨p, h, rfl⟩
theorem BJ {m : List Q2} : goodR (m.map rp) = true ↔ SzR m := by
 unfold goodR SzR
 rw [Bool.and_eq_true, decide_eq_true_eq, List.length_map, List.all_eq_true]
 constructor
 ·rintro ⟨h1, h2⟩
  exact ⟨h1, fun p hp => (Yr p).1 (h2 _ (List.mem_map_of_mem hp))⟩
 ·rintro ⟨h1, h2⟩
  refine ⟨h1, fun x hx => ?_⟩
  obtain ⟨p, hp, rfl⟩ := List.mem_map.1 hx
  exact (Yr p).2 (h2 p hp)
theorem AJ2 {p : Q2} {k : Nat} (hk : k ≤ 1000000) (h : SzP k p) : BrP (rp p) := ⟨GG hk h.1, GG hk h.2⟩
theorem Hg {m : List Q2} {k : Nat} (hk : k ≤ 1000000) (h : ∀ p ∈ m, SzP k p) : ∀ x ∈ m.map rp, BrP x := by
 intro x hx
 obtain ⟨p, hp, rfl⟩ := List.mem_map.1 hx
 exact AJ2 hk (h p hp)
theorem T7 {q : Rat} {k : Nat} (hk : k ≤ 1000000) (h : Sz k q) : EY (rqF q) = some (rqF q) := by
 unfold EY
 rw [show (rqF q).1 = (big q.num).1 from rfl, show (rqF q).2.1 = (big q.num).2 from rfl, show (rqF q).2.2.2 = (big (q.den : Int)).2 from rfl, Ad1 hk h.1, Ad9 hk h.2]
 rfl
theorem At9 {p : Q2} (h : SzP 8 p) : Ge (fl (rp p)) = some (fl (rp p)) := by
 unfold Ge
 simp only [rq_e, peta, fl_x, fl_y, M0, NN]
 rw [T7 (by omega) h.1, obs, T7 (by omega) h.2, obs]
 rfl
theorem Vv {m : List Q2} (h : SzR m) : Ee (m.map rp) = some (m.map rp) := by
 have h40 := h.1
 obtain ⟨h1, h2⟩ := HB (l := m) (body := fun (s : ((List RPt) × ((List RPt) × (Int × Int)))) => B7 s.1 s.2.1 s.2.2.1 s.2.2.2)
  (st := fun k (b : List Q2) => (b.map rp, (m.map rp, ((m.length : Int), (k : Int))))) (step := fun b p => b ++ [p]) (fin := fun b => b.map rp) (I := fun k b => b.length = k)
  (by
   rintro k b p hk hI
   have hkl := getL hk
   have hp := h.2 p (List.mem_of_getElem? hk)
   refine ⟨?_, by simp [hI]⟩
   show B7 (b.map rp) (m.map rp) (m.length : Int) (k : Int) = _
   unfold B7
   rw [decide_eq_true (by omega), cT, Dq hk, obs]
   simp only [peta, fl_e]
   rw [At9 hp, obs, un_e, PG, appP (by simp; omega), obs, wrap1 (by omega)]
   simp)
  (by
   rintro b _
   show B7 (b.map rp) (m.map rp) (m.length : Int) (m.length : Int) = _
   unfold B7
   rw [decide_eq_false (by omega)]
   rfl) [] rfl
 have e : m.foldl (fun b p => b ++ [p]) [] = m := by
  have : ∀ (l acc : List Q2), l.foldl (fun b p => b ++ [p]) acc = acc ++ l := by
   intro l
   induction l with
   | nil => intro acc; simp
   | cons x l ih => intro acc; rw [List.foldl_cons, ih]; simp
  rw [this]; rfl
 rw [e] at h1
 have h1' : loopM (fun (s : ((List RPt) × ((List RPt) × (Int × Int)))) => B7 s.1 s.2.1 s.2.2.1 s.2.2.2) ((List.nil : List RPt), (m.map rp, ((m.length : Int), (0 : Int)))) = some (m.map rp) := h1
 unfold Ee
 rw [List.length_map, h1', obs]
theorem Ak8 {p : Q2} (h : SzP 8 p) : Fu (fl (rp p)) = some (fl (rp p), true) := by
 unfold Fu
 simp only [rq_e, peta, fl_x, fl_y, M0, NN]
 rw [RA (k := 8) (by omega) h.1, obs, RA (k := 8) (by omega) h.2, obs, F3 (h.1.mono (by omega)), F3 (h.2.mono (by omega))]
 rfl
theorem Xm {m : List Q2} (h : SzR m) : E7 (m.map rp) = some (m.map rp, true) := by
 have h40 := h.1
 obtain ⟨h1, h2⟩ := HB (l := m) (body := fun (s : ((List RPt) × ((List RPt) × (Int × Int)))) => CE s.1 s.2.1 s.2.2.1 s.2.2.2)
  (st := fun k (b : List Q2) => (b.map rp, (m.map rp, ((m.length : Int), (k : Int))))) (step := fun b p => b ++ [p]) (fin := fun b => .inl (b.map rp)) (I := fun k b => b.length = k)
  (by
   rintro k b p hk hI
   have hkl := getL hk
   have hp := h.2 p (List.mem_of_getElem? hk)
   refine ⟨?_, by simp [hI]⟩
   show CE (b.map rp) (m.map rp) (m.length : Int) (k : Int) = _
   unfold CE
   rw [decide_eq_true (by omega), cT, Dq hk, obs]
   simp only [peta, fl_e]
   rw [Ak8 hp, obs]
   simp only
   rw [nT, cF, un_e, PG, appP (by simp; omega), obs, wrap1 (by omega)]
   simp)
  (by
   rintro b _
   show CE (b.map rp) (m.map rp) (m.length : Int) (m.length : Int) = _
   unfold CE
   rw [decide_eq_false (by omega)]
   rfl) [] rfl
 have e : m.foldl (fun b p => b ++ [p]) [] = m := by
  have : ∀ (l acc : List Q2), l.foldl (fun b p => b ++ [p]) acc = acc ++ l := by
   intro l
   induction l with
   | nil => intro acc; simp
   | cons x l ih => intro acc; rw [List.foldl_cons, ih]; simp
  rw [this]; rfl
 rw [e] at h1
 have h1' : loopM (fun (s : ((List RPt) × ((List RPt) × (Int × Int)))) => CE s.1 s.2.1 s.2.2.1 s.2.2.2) ((List.nil : List RPt), (m.map rp, ((m.length : Int), (0 : Int)))) = some (.inl (m.map rp)) := h1
 unfold E7
 rw [List.length_map, h1', obs, sEl]
def outR (m : List Q2) : List RPt × Bool := if goodR (m.map rp) = true then (m.map rp, true) else ([], false)
theorem K8 {m : List Q2} {k : Nat} (hk : k ≤ 1000000) (hl : m.length ≤ 100000) (h : ∀ p ∈ m, SzP k p) : BY (m.map rp) = some (outR m) := by
 unfold BY outR
 rw [Bu (by simp; omega) (Hg hk h), obs]
 by_cases hg : goodR (m.map rp) = true
 ·rw [if_pos hg, hg, nT, cF, Vv (BJ.1 hg), obs]
 ·rw [if_neg hg, Bool.eq_false_iff.2 hg, nF, cT]
theorem VC {m : List Q2} {k : Nat} (hk : k ≤ 1000000) (hl : m.length ≤ 100000) (h : ∀ p ∈ m, SzP k p) : D5 (m.map rp) = some (outR m) := by
 unfold D5 outR
 rw [CB (by simp; omega) (Hg hk h), obs]
 by_cases hg : goodR (m.map rp) = true
 ·rw [if_pos hg, hg, nT, cF, Xm (BJ.1 hg)]
  rfl
 ·rw [if_neg hg, Bool.eq_false_iff.2 hg, nF, cT]
section
variable {ps : List Q2} {s : Rat} (hps : SzR ps) (hs : Sz 2 s) (b : Bool)
include hps hs
theorem R0 : (goodQ (toQ (rqF s)) && shQ 2 (rqF s)) = true := by
 rw [SU (hs.mono (by omega)), Un (by omega), decide_eq_true hs]; rfl
theorem Ue : BI (ps.map rp) b (rqF s) = some (outR (clipQ b false s ps)) := by
 have hp := hps.1
 obtain ⟨c1, c2⟩ := QJ hps (hs.mono (by omega)) b false
 unfold BI
 simp only [rq_e, peta]
 rw [Bu (by simp; omega) (Hg (k := 8) (by omega) hps.2), obs, BJ.2 hps, nT, cF, K0 (GG (by omega) hs), obs, R0 hps hs, nT, cF, Ar9 hps (hs.mono (by omega)), obs, K8 (k := 87) (by omega) (by omega) c2, obs]
theorem Zd : B3 (ps.map rp) b (rqF s) = some (outR (clipQ b true s ps)) := by
 have hp := hps.1
 obtain ⟨c1, c2⟩ := QJ hps (hs.mono (by omega)) b true
 unfold B3
 simp only [rq_e, peta]
 rw [Bu (by simp; omega) (Hg (k := 8) (by omega) hps.2), obs, BJ.2 hps, nT, cF, K0 (GG (by omega) hs), obs, R0 hps hs, nT, cF, Ar9 hps (hs.mono (by omega)), obs, K8 (k := 87) (by omega) (by omega) c2, obs]
theorem Nk : Cy (ps.map rp) (rqF s) = some true := by
 have hp := hps.1
 unfold Cy
 simp only [rq_e, peta]
 rw [CB (by simp; omega) (Hg (k := 8) (by omega) hps.2), obs, BJ.2 hps, cT, QX (GG (by omega) hs), obs, R0 hps hs]
theorem Ao0 : Cx (ps.map rp) b (rqF s) = some (outR (clipQ b false s ps)) := by
 have hp := hps.1
 obtain ⟨c1, c2⟩ := QJ hps (hs.mono (by omega)) b false
 unfold Cx
 simp only [rq_e, peta]
 rw [Nk hps hs, obs, nT, cF, Vj hps (hs.mono (by omega)), obs, VC (k := 87) (by omega) (by omega) c2, obs]
theorem Aa7 : BZ (ps.map rp) b (rqF s) = some (outR (clipQ b true s ps)) := by
 have hp := hps.1
 obtain ⟨c1, c2⟩ := QJ hps (hs.mono (by omega)) b true
 unfold BZ
 simp only [rq_e, peta]
 rw [Nk hps hs, obs, nT, cF, Vj hps (hs.mono (by omega)), obs, VC (k := 87) (by omega) (by omega) c2, obs]
end
section
variable {l : List RPt} {a : RF} (hl : l.length ≤ 1000) (hb : ∀ x ∈ l, BrP x) (ha : BrF a) (h : (goodR l && (goodQ (toQ a) && shQ 2 a)) = false) (b : Bool)
include hl hb ha h
theorem Tz : BI l b a = some ([], false) := by
 unfold BI
 simp only [rq_e, peta]
 rw [Bu (by omega) hb, obs]
 cases hg : goodR l with
 | false => rw [nF, cT]
 | true =>
  rw [hg, Bool.true_and] at h
  rw [nT, cF, K0 ha, obs, h, nF, cT]
theorem QR : B3 l b a = some ([], false) := by
 unfold B3
 simp only [rq_e, peta]
 rw [Bu (by omega) hb, obs]
 cases hg : goodR l with
 | false => rw [nF, cT]
 | true =>
  rw [hg, Bool.true_and] at h
  rw [nT, cF, K0 ha, obs, h, nF, cT]
theorem Le : Cy l a = some false := by
 unfold Cy
 simp only [rq_e, peta]
 rw [CB (by omega) hb, obs]
 cases hg : goodR l with
 | false => rw [cF]
 | true =>
  rw [hg, Bool.true_and] at h
  rw [cT, QX ha, obs, h]
theorem TH : Cx l b a = some ([], false) := by
 unfold Cx
 simp only [rq_e, peta]
 rw [Le hl hb ha h, obs, nF, cT]
theorem Sb : BZ l b a = some ([], false) := by
 unfold BZ
 simp only [rq_e, peta]
 rw [Le hl hb ha h, obs, nF, cT]
end
def ringS (ps : List Q2) : Rat := match ps with | [] => 0 | a :: m => chn crs a (m ++ [a])
theorem SW (ps : List Q2) : ringS ps = area2 ps := by
 cases ps with
 | nil => rfl
 | cons a m =>
  have hl2 : lastQ (a :: m) = endQ a m := by rw [← F5 a (a :: m) (by simp)]; rfl
  show chn crs a (m ++ [a]) = chn crs (lastQ (a :: m)) (a :: m)
  rw [YL, hl2, chn]
  grind
theorem Aw7 {p q : Q2} (hp : SzP 8 p) (hq : SzP 8 q) : Sz 33 (crs p q) := (Hj (Ho hp.1 hq.2) (Ho hq.1 hp.2)).mono (by omega)
section
variable {ps : List Q2} {f : Q2} (hps : SzR ps) (hf : ps[0]? = some f)
include hps hf
theorem Ys {k : Nat} (hk : k < ps.length) : ∃ d, getI (ps.map rp) (Int.tmod (IntKind.wrap .i64 ((k : Int) + 1)) (ps.length : Int)) = some (rp d) ∧ SzP 8 d ∧ ∃ r, ps.drop (k + 1) ++ [f] = d :: r ∧ (k + 1 < ps.length → r = ps.drop (k + 2) ++ [f]) ∧ (k + 1 = ps.length → r = []) := by
 have h40 := hps.1
 rw [wrap1 (by omega), Int.tmod_eq_emod_of_nonneg (by omega)]
 by_cases h : k + 1 < ps.length
 ·have e : ((k + 1 : Nat) : Int) % (ps.length : Int) = ((k + 1 : Nat) : Int) := Int.emod_eq_of_lt (by omega) (by omega)
  rw [e]
  have hg : ps[k + 1]? = some ps[k + 1] := List.getElem?_eq_getElem h
  exact ⟨ps[k + 1], Dq hg, hps.2 _ (List.mem_of_getElem? hg), ps.drop (k + 2) ++ [f], by rw [List.drop_eq_getElem_cons h, List.cons_append], fun _ => rfl, fun h' => by omega⟩
 ·have e : ((k + 1 : Nat) : Int) % (ps.length : Int) = ((0 : Nat) : Int) := by rw [show k + 1 = ps.length by omega]; exact Int.emod_self
  rw [e]
  refine ⟨f, Dq hf, hps.2 _ (List.mem_of_getElem? hf), [], ?_, fun h' => absurd h' h, fun _ => rfl⟩
  rw [List.drop_eq_nil_of_le (by omega)]; rfl
theorem W4 : ∀ (m k : Nat) (acc : Rat), k + m = ps.length → Sz (34 * k + 1) acc →
  ∃ r, loopM (fun (s : (RF × (RF × ((List RPt) × ((List RPt) × (Int × Int)))))) => AR s.1 s.2.1 s.2.2.1 s.2.2.2.1 s.2.2.2.2.1 s.2.2.2.2.2) (zF, (rqF acc, (ps.map rp, (ps.map rp, ((ps.length : Int), (k : Int)))))) = some (zF, rqF r) ∧ Sz 1361 r ∧
   r = acc + (match ps.drop k with | [] => 0 | c :: _ => chn crs c (ps.drop (k + 1) ++ [f])) := by
 have h40 := hps.1
 intro m
 induction m with
 | zero =>
  intro k acc hk hacc
  refine ⟨acc, Ar ?_, hacc.mono (by omega), ?_⟩
  ·show AR zF (rqF acc) (ps.map rp) (ps.map rp) (ps.length : Int) (k : Int) = _
   unfold AR
   rw [decide_eq_false (by omega)]
   rfl
  ·rw [List.drop_eq_nil_of_le (show ps.length ≤ k by omega)]
   simp only
   grind
 | succ m ih =>
  intro k acc hk hacc
  have hlt : k < ps.length := by omega
  have hd : ps.drop k = ps[k] :: ps.drop (k + 1) := List.drop_eq_getElem_cons hlt
  have hg : ps[k]? = some ps[k] := List.getElem?_eq_getElem hlt
  generalize ps[k] = c at hd hg
  have sc := hps.2 c (List.mem_of_getElem? hg)
  obtain ⟨d, hdg, sd, r, hr, hr1, hr2⟩ := Ys hps hf hlt
  have hx := Aw7 sc sd
  have hsum : Sz (34 * (k + 1) + 1) (acc + crs c d) := (VH hacc hx).mono (by omega)
  have hgo : AR zF (rqF acc) (ps.map rp) (ps.map rp) (ps.length : Int) (k : Int) = some (.inl (zF, (rqF (acc + crs c d), (ps.map rp, (ps.map rp, ((ps.length : Int), ((k + 1 : Nat) : Int))))))) := by
   unfold AR
   have hz : (((ps.length : Nat) : Int) == 0) = false := beq_eq_false_iff_ne.2 (by omega)
   rw [decide_eq_true (by omega), cT, Dq hg, obs, List.length_map, hz, cF, hdg, obs]
   simp only [rq_e, peta, fx_e, fy_e, M0, NN]
   rw [F8 (k := 8) (by omega) sc.1 sd.2, obs, F8 (k := 8) (by omega) sd.1 sc.2, obs]
   try simp only [rq_e]
   rw [K1 (k := 16) (by omega) ((Ho sc.1 sd.2).mono (by omega)) ((Ho sd.1 sc.2).mono (by omega)), obs]
   try simp only [rq_e]
   rw [show c.1 * d.2 - d.1 * c.2 = crs c d from rfl, HS (k := 1400) (by omega) (hacc.mono (by omega)) (hx.mono (by omega)), obs, wrap1 (by omega)]
  obtain ⟨q, g1, g2, g3⟩ := ih (k + 1) (acc + crs c d) (by omega) hsum
  refine ⟨q, (Bc (f := fun (s : (RF × (RF × ((List RPt) × ((List RPt) × (Int × Int)))))) => AR s.1 s.2.1 s.2.2.1 s.2.2.2.1 s.2.2.2.2.1 s.2.2.2.2.2) (s := (zF, (rqF acc, (ps.map rp, (ps.map rp, ((ps.length : Int), (k : Int))))))) hgo).trans g1, g2, ?_⟩
  rw [g3, hd]
  simp only
  rw [hr, chn]
  by_cases h : k + 1 < ps.length
  ·rw [hr1 h]
   have hd2 : ps.drop (k + 1) = ps[k + 1] :: ps.drop (k + 2) := List.drop_eq_getElem_cons h
   rw [hd2] at hr ⊢
   have : d = ps[k + 1] := by rw [List.cons_append] at hr; exact (List.cons.inj hr).1.symm
   rw [this]
   simp only
   grind
  ·rw [hr2 (by omega), List.drop_eq_nil_of_le (show ps.length ≤ k + 1 by omega)]
   simp only [chn]
   grind
theorem Yy : ∀ (m k : Nat) (acc : Rat), k + m = ps.length → Sz (34 * k + 1) acc →
  ∃ r, loopM (fun (s : (RF × (RF × ((List RPt) × ((List RPt) × (Int × Int)))))) => AZ s.1 s.2.1 s.2.2.1 s.2.2.2.1 s.2.2.2.2.1 s.2.2.2.2.2) (zF, (rqF acc, (ps.map rp, (ps.map rp, ((ps.length : Int), (k : Int)))))) = some (zF, rqF r) ∧ Sz 1361 r ∧
   r = acc + (match ps.drop k with | [] => 0 | c :: _ => chn crs c (ps.drop (k + 1) ++ [f])) := by
 have h40 := hps.1
 intro m
 induction m with
 | zero =>
  intro k acc hk hacc
  refine ⟨acc, Ar ?_, hacc.mono (by omega), ?_⟩
  ·show AZ zF (rqF acc) (ps.map rp) (ps.map rp) (ps.length : Int) (k : Int) = _
   unfold AZ
   rw [decide_eq_false (by omega)]
   rfl
  ·rw [List.drop_eq_nil_of_le (show ps.length ≤ k by omega)]
   simp only
   grind
 | succ m ih =>
  intro k acc hk hacc
  have hlt : k < ps.length := by omega
  have hd : ps.drop k = ps[k] :: ps.drop (k + 1) := List.drop_eq_getElem_cons hlt
  have hg : ps[k]? = some ps[k] := List.getElem?_eq_getElem hlt
  generalize ps[k] = c at hd hg
  have sc := hps.2 c (List.mem_of_getElem? hg)
  obtain ⟨d, hdg, sd, r, hr, hr1, hr2⟩ := Ys hps hf hlt
  have hx := Aw7 sc sd
  have hsum : Sz (34 * (k + 1) + 1) (acc + crs c d) := (VH hacc hx).mono (by omega)
  have hgo : AZ zF (rqF acc) (ps.map rp) (ps.map rp) (ps.length : Int) (k : Int) = some (.inl (zF, (rqF (acc + crs c d), (ps.map rp, (ps.map rp, ((ps.length : Int), ((k + 1 : Nat) : Int))))))) := by
   unfold AZ
   have hz : (((ps.length : Nat) : Int) == 0) = false := beq_eq_false_iff_ne.2 (by omega)
   rw [decide_eq_true (by omega), cT, Dq hg, obs, List.length_map, hz, cF, hdg, obs]
   simp only [rq_e, peta, fx_e, fy_e, M0, NN]
   rw [Wz (k := 8) (by omega) sc.1 sd.2, obs, Wz (k := 8) (by omega) sd.1 sc.2, obs]
   try simp only [rq_e]
   rw [QG (k := 16) (by omega) ((Ho sc.1 sd.2).mono (by omega)) ((Ho sd.1 sc.2).mono (by omega)), obs]
   try simp only [rq_e]
   rw [show c.1 * d.2 - d.1 * c.2 = crs c d from rfl, Wq (k := 1400) (by omega) (hacc.mono (by omega)) (hx.mono (by omega)), obs, wrap1 (by omega)]
  obtain ⟨q, g1, g2, g3⟩ := ih (k + 1) (acc + crs c d) (by omega) hsum
  refine ⟨q, (Bc (f := fun (s : (RF × (RF × ((List RPt) × ((List RPt) × (Int × Int)))))) => AZ s.1 s.2.1 s.2.2.1 s.2.2.2.1 s.2.2.2.2.1 s.2.2.2.2.2) (s := (zF, (rqF acc, (ps.map rp, (ps.map rp, ((ps.length : Int), (k : Int))))))) hgo).trans g1, g2, ?_⟩
  rw [g3, hd]
  simp only
  rw [hr, chn]
  by_cases h : k + 1 < ps.length
  ·rw [hr1 h]
   have hd2 : ps.drop (k + 1) = ps[k + 1] :: ps.drop (k + 2) := List.drop_eq_getElem_cons h
   rw [hd2] at hr ⊢
   have : d = ps[k + 1] := by rw [List.cons_append] at hr; exact (List.cons.inj hr).1.symm
   rw [this]
   simp only
   grind
  ·rw [hr2 (by omega), List.drop_eq_nil_of_le (show ps.length ≤ k + 1 by omega)]
   simp only [chn]
   grind
end
end Go.Proofs.YtgfchmagglhohaaGreat.Ev

end
section
namespace Go.Proofs.YtgfchmagglhohaaGreat.Ev
open Go
structure GP (p : Int × Int) : Prop where
 a : -1000 ≤ p.1
 b : p.1 ≤ 1001
 c : -2 ≤ p.2
 d : p.2 ≤ 8
theorem AE8 {B : Nat} {c : List Int × Int × Int} (h : Cur B c) (hB : B ≤ 100000000000000) : ∃ c' v, Dc c = some (c', v) ∧ Cur (B + 8) c' ∧ GP v := by
 unfold Dc
 obtain ⟨c1, v1, e1, q1⟩ := Hc h (by omega) 40
 simp only [e1, Option.bind_some]
 cases v1
 ·obtain ⟨c2, v2, e2, q2, a2, b2⟩ := AN q1 (by omega) 9
  obtain ⟨c3, v3, e3, q3, a3, b3⟩ := AN q2 (by omega) 9
  simp only [cond_false, e2, e3, Option.bind_some]
  have b2 := b2 (by omega)
  have b3 := b3 (by omega)
  refine ⟨_, _, rfl, q3.mono (by omega), ?_⟩
  rw [wrapI (by omega) (by omega), wrapI (by omega) (by omega)]
  constructor <;> simp only <;> omega
 ·obtain ⟨c2, v2, e2, q2, m2⟩ := Np q1 (by omega) [-(1000 : Int), 1000, 1001] (by simp) (by simp)
  obtain ⟨c3, v3, e3, q3, a3, b3⟩ := AN q2 (by omega) 5
  simp only [cond_true, e2, e3, Option.bind_some]
  have b3 := b3 (by omega)
  refine ⟨_, _, rfl, q3.mono (by omega), ?_⟩
  simp at m2
  constructor <;> simp only <;> omega
structure GW (l : List (Int × Int)) : Prop where
 pts : ∀ p ∈ l, GP p
 lo : 3 ≤ l.length
 hi : l.length ≤ 13
theorem Af2 {l : List (Int × Int)} {p : Int × Int} (h : ∀ q ∈ l, GP q) (hp : GP p) : ∀ q ∈ l ++ [p], GP q := by
 intro q hq
 rcases List.mem_append.1 hq with h1 | h1
 ·exact h q h1
 ·cases List.mem_singleton.1 h1; exact hp
theorem AF0 {B : Nat} {c : List Int × Int × Int} (h : Cur B c) (hB : B ≤ 10000000000000) : ∃ c' l, DD c = some (c', l) ∧ Cur (B + 500) c' ∧ GW l := by
 unfold DD
 obtain ⟨c0, v0, e0, q0, a0, b0⟩ := AN h (by omega) 4
 simp only [e0, Option.bind_some]
 by_cases h0 : v0 = 0
 ·have : (v0 == 0) = true := by simp [h0]
  obtain ⟨c1, v1, e1, q1, a1, b1⟩ := AN q0 (by omega) 6
  obtain ⟨c2, v2, e2, q2, a2, b2⟩ := AN q1 (by omega) 2
  obtain ⟨c3, v3, e3, q3, a3, b3⟩ := AN q2 (by omega) 3
  obtain ⟨c4, v4, e4, q4, a4, b4⟩ := AN q3 (by omega) 5
  obtain ⟨c5, v5, e5, q5, a5, b5⟩ := AN q4 (by omega) 2
  obtain ⟨c6, v6, e6, q6, a6, b6⟩ := AN q5 (by omega) 5
  have b1 := b1 (by omega); have b2 := b2 (by omega); have b3 := b3 (by omega); have b4 := b4 (by omega); have b5 := b5 (by omega); have b6 := b6 (by omega)
  simp only [this, cond_true, e1, e2, e3, e4, e5, e6, Option.bind_some]
  rw [wrapI (by omega) (by omega), wrapI (by omega) (by omega), wrapI (by omega) (by omega), wrapI (by omega) (by omega)]
  refine ⟨_, _, rfl, q6.mono (by omega), ?_, by simp, by simp⟩
  intro p hp
  simp only [List.mem_cons, List.not_mem_nil, or_false] at hp
  rcases hp with rfl | rfl | rfl | rfl <;> constructor <;> simp only <;> omega
 ·have t0 : (v0 == 0) = false := by simp [h0]
  by_cases h1 : v0 = 1
  ·have t1 : (v0 == 1) = true := by simp [h1]
   obtain ⟨c1, v1, e1, q1, a1, b1⟩ := AN q0 (by omega) 4
   obtain ⟨c2, v2, e2, q2, a2, b2⟩ := AN q1 (by omega) 4
   have b1 := b1 (by omega); have b2 := b2 (by omega)
   simp only [t0, t1, cond_true, cond_false, e1, e2, Option.bind_some]
   rw [wrapI (by omega) (by omega), wrapI (by omega) (by omega)]
   refine ⟨_, _, rfl, q2.mono (by omega), ?_, by simp, by simp⟩
   intro p hp
   simp only [List.mem_cons, List.not_mem_nil, or_false] at hp
   rcases hp with rfl | rfl | rfl | rfl | rfl | rfl | rfl | rfl <;> constructor <;> simp only <;> omega
  ·have t1 : (v0 == 1) = false := by simp [h1]
   obtain ⟨c1, v1, e1, q1, a1, b1⟩ := AN q0 (by omega) 4
   have b1 := b1 (by omega)
   obtain ⟨n, hn, hn1⟩ : ∃ n : Nat, (3 + v1 : Int) = (n : Int) ∧ 3 ≤ n ∧ n ≤ 6 := ⟨(3 + v1).toNat, by omega, by omega⟩
   simp only [t0, t1, cond_true, cond_false, e1, Option.bind_some]
   rw [wrapI (by omega) (by omega), hn]
   obtain ⟨⟨c2, l2⟩, e2, q2, g2, n2⟩ := F4 (body := fun (s : (((List Int) × (Int × Int)) × ((List (Int × Int)) × Int))) => DK s.1 s.2.1 s.2.2)
    (st := fun k (b : (List Int × Int × Int) × List (Int × Int)) => (b.1, b.2, (k : Int))) (fin := fun b => b) (I := fun k b => Cur (B + 100 - 8 * k) b.1 ∧ (∀ p ∈ b.2, GP p) ∧ b.2.length + k = n)
    (by
     rintro k ⟨c, l⟩ ⟨i1, i2, i3⟩
     obtain ⟨c', v, e, q, g⟩ := AE8 i1 (by omega)
     unfold DK
     have : decide (((k + 1 : Nat) : Int) > 0) = true := decide_eq_true (by omega)
     simp only at i3
     simp only [this, cond_true, e, Option.bind_some, QL (l := l) (m := [(v.1, v.2)]) (b := 16) (s := 2) (by simp [maxBytes]; omega) (by simp [maxBytes]; omega)]
     rw [wrapI (by omega) (by omega), show ((k + 1 : Nat) : Int) - 1 = (k : Int) by omega]
     exact ⟨(c', l ++ [(v.1, v.2)]), rfl, q.mono (by omega), Af2 i2 g, by simp; omega⟩)
    (by
     rintro ⟨c, l⟩ ⟨i1, i2, i3⟩
     unfold DK
     rfl) n (c1, []) ⟨q1.mono (by omega), by simp, by simp⟩
   obtain ⟨c3, v3, e3, q3⟩ := Hc q2 (by omega) 20
   simp only at e2 n2 g2
   simp only [e2, Option.bind_some, e3]
   cases v3
   ·exact ⟨_, _, rfl, q3.mono (by omega), g2, by omega, by omega⟩
   ·obtain ⟨r, e4, q4, g4, n4, n5⟩ := Es (f := fun (s : (((List Int) × (Int × Int)) × (List (Int × Int)))) => FM s.1 s.2) (I := fun s => Cur (B + 102 + 10 * s.2.length) s.1 ∧ (∀ p ∈ s.2, GP p) ∧ 3 ≤ s.2.length ∧ s.2.length ≤ 13)
     (R := fun s => Cur (B + 400) s.1 ∧ (∀ p ∈ s.2, GP p) ∧ 3 ≤ s.2.length ∧ s.2.length ≤ 13) (fun s => 20 - s.2.length)
     (by
      rintro ⟨c, l⟩ ⟨i1, i2, i3, i4⟩
      unfold FM
      simp only at i1 i2 i3 i4
      obtain ⟨c', v, e, q, a, b⟩ := AN i1 (by omega) 2
      have b := b (by omega)
      simp only [e, Option.bind_some]
      rw [wrapI (by omega) (by omega)]
      by_cases hlt : (l.length : Int) < 12 + v
      ·have : decide ((l.length : Int) < 12 + v) = true := by simpa using hlt
       obtain ⟨c2, v2, e2, q2, g2⟩ := AE8 q (by omega)
       simp only [this, cond_true, e2, Option.bind_some, QL (l := l) (m := [(v2.1, v2.2)]) (b := 16) (s := 2) (by simp [maxBytes]; omega) (by simp [maxBytes]; omega)]
       refine .inl ⟨_, rfl, ⟨q2.mono (by simp; omega), Af2 i2 g2, by simp; omega, by simp; omega⟩, by simp; omega⟩
      ·have : decide ((l.length : Int) < 12 + v) = false := by simpa using hlt
       simp only [this, cond_false]
       exact .inr ⟨_, rfl, q.mono (by omega), i2, i3, i4⟩) (c3, l2) ⟨q3.mono (by omega), g2, by simp only; omega, by simp only; omega⟩
    simp only [cond_true, e4, Option.bind_some]
    exact ⟨_, _, rfl, q4.mono (by omega), g4, n4, n5⟩
end Go.Proofs.YtgfchmagglhohaaGreat.Ev

end
section
namespace Go.Proofs.YtgfchmagglhohaaGreat.Ev
open Go
theorem Aj2 : CN (0 : Int) = some (rqF 0) := by rw [WT (by omega) (by omega)]; rfl
theorem Ao1 : CN (2 : Int) = some (rqF 2) := by rw [WT (by omega) (by omega)]; rfl
theorem An2 : CP (0 : Int) = some (rqF 0) := by rw [QH (by omega) (by omega)]; rfl
theorem Aq4 : CP (2 : Int) = some (rqF 2) := by rw [QH (by omega) (by omega)]; rfl
theorem S2 : Sz 1361 (2 : Rat) := by
 have h : (((2 : Int)).natAbs : Int) < B 1361 := Int.lt_of_lt_of_le (by rw [B1]; decide : (((2 : Int)).natAbs : Int) < B 1) (GJ (by omega))
 have := Wi (z := 2) h (by omega)
 exact this
theorem S0r : Sz 1 (0 : Rat) := by
 have h : (((0 : Int)).natAbs : Int) < B 1 := by rw [B1]; decide
 have := Wi (z := 0) h (by omega)
 exact this
theorem ZR : (2 : Rat) ≠ 0 := by decide
theorem L1 {ps : List Q2} (hps : SzR ps) : EC (ps.map rp) = some (rqF (area2 ps / 2)) ∧ FD (ps.map rp) = some (rqF (area2 ps / 2)) ∧ Sz 2722 (area2 ps / 2) := by
 have h40 := hps.1
 have key : ∃ r, loopM (fun (s : (RF × (RF × ((List RPt) × ((List RPt) × (Int × Int)))))) => AR s.1 s.2.1 s.2.2.1 s.2.2.2.1 s.2.2.2.2.1 s.2.2.2.2.2) (zF, (rqF 0, (ps.map rp, (ps.map rp, ((ps.length : Int), (0 : Int)))))) = some (zF, rqF r) ∧ Sz 1361 r ∧ r = area2 ps := by
  cases ps with
  | nil =>
   refine ⟨0, Ar ?_, S0r.mono (by omega), rfl⟩
   show AR zF (rqF 0) [] [] 0 0 = _
   unfold AR
   rfl
  | cons f m =>
   obtain ⟨r, h1, h2, h3⟩ := W4 hps (f := f) rfl (f :: m).length 0 0 (by omega) S0r
   refine ⟨r, h1, h2, ?_⟩
   rw [h3, ← SW]
   show (0 : Rat) + chn crs f (m ++ [f]) = chn crs f (m ++ [f])
   grind
 have key2 : ∃ r, loopM (fun (s : (RF × (RF × ((List RPt) × ((List RPt) × (Int × Int)))))) => AZ s.1 s.2.1 s.2.2.1 s.2.2.2.1 s.2.2.2.2.1 s.2.2.2.2.2) (zF, (rqF 0, (ps.map rp, (ps.map rp, ((ps.length : Int), (0 : Int)))))) = some (zF, rqF r) ∧ Sz 1361 r ∧ r = area2 ps := by
  cases ps with
  | nil =>
   refine ⟨0, Ar ?_, S0r.mono (by omega), rfl⟩
   show AZ zF (rqF 0) [] [] 0 0 = _
   unfold AZ
   rfl
  | cons f m =>
   obtain ⟨r, h1, h2, h3⟩ := Yy hps (f := f) rfl (f :: m).length 0 0 (by omega) S0r
   refine ⟨r, h1, h2, ?_⟩
   rw [h3, ← SW]
   show (0 : Rat) + chn crs f (m ++ [f]) = chn crs f (m ++ [f])
   grind
 obtain ⟨r, h1, h2, h3⟩ := key
 obtain ⟨r', h1', h2', h3'⟩ := key2
 rw [h3'] at h1'
 rw [h3] at h1 h2
 refine ⟨?_, ?_, (Au4 h2 S2 ZR).mono (by omega)⟩
 ·have g1 : loopM (fun (s : (RF × (RF × ((List RPt) × ((List RPt) × (Int × Int)))))) => AR s.1 s.2.1 s.2.2.1 s.2.2.2.1 s.2.2.2.2.1 s.2.2.2.2.2) ((false, ([], (false, []))), (rqF 0, (ps.map rp, (ps.map rp, ((ps.length : Int), (0 : Int)))))) = some (zF, rqF (area2 ps)) := h1
  have hh : EB (rqF (area2 ps)) = some (rqF (area2 ps / 2)) := by
   unfold EB
   simp only [rq_e]
   rw [Ao1, obs]
   try simp only [rq_e]
   rw [Uy (k := 1361) (by omega) h2 S2 ZR, obs]
  unfold EC
  rw [Aj2, obs]
  try simp only [rq_e]
  rw [List.length_map, g1, obs]
  try simp only [rq_e]
  rw [hh, obs]
 ·have g1 : loopM (fun (s : (RF × (RF × ((List RPt) × ((List RPt) × (Int × Int)))))) => AZ s.1 s.2.1 s.2.2.1 s.2.2.2.1 s.2.2.2.2.1 s.2.2.2.2.2) ((false, ([], (false, []))), (rqF 0, (ps.map rp, (ps.map rp, ((ps.length : Int), (0 : Int)))))) = some (zF, rqF (area2 ps)) := h1'
  unfold FD
  rw [An2, obs]
  try simp only [rq_e]
  rw [List.length_map, g1, obs]
  try simp only [rq_e]
  rw [Aq4, obs]
  try simp only [rq_e]
  rw [Ae9 (k := 1361) (by omega) h2 S2 ZR, obs]
theorem ET {ps : List Q2} (hps : SzR ps) : Am (ps.map rp) = some (fitsQ (area2 ps / 2)) := by
 have hp := hps.1
 unfold Am
 rw [Bu (by simp; omega) (Hg (k := 8) (by omega) hps.2), obs, BJ.2 hps, nT, cF, (L1 hps).1, obs]
 simp only [rq_e, peta]
 rw [Na, obs]
theorem ZX {ps : List Q2} (hps : SzR ps) : Bx (ps.map rp) = some (fitsQ (area2 ps / 2)) := by
 have hp := hps.1
 unfold Bx
 rw [CB (by simp; omega) (Hg (k := 8) (by omega) hps.2), obs, BJ.2 hps, nT, cF, (L1 hps).2.1, obs]
 simp only [rq_e, peta]
 rw [RA (k := 2722) (by omega) (L1 hps).2.2, obs]
theorem Rl {l : List RPt} (hl : l.length ≤ 1000) (hb : ∀ x ∈ l, BrP x) (h : goodR l = false) : Am l = some (zF, false) := by
 unfold Am
 rw [Bu (by omega) hb, obs, h, nF, cT]
 rfl
theorem Sx {l : List RPt} (hl : l.length ≤ 1000) (hb : ∀ x ∈ l, BrP x) (h : goodR l = false) : Bx l = some (zF, false) := by
 unfold Bx
 rw [CB (by omega) hb, obs, h, nF, cT]
 rfl
theorem Y5 {l : List RPt} (hl : l.length ≤ 1000000000) : AE l (0, l.length) = some l.reverse := by
 unfold AE
 rw [wrapI (by simp only; omega) (by simp only; omega)]
 obtain ⟨m, h1, h2, h3⟩ := Fg (body := fun (s : ((List RPt) × ((Nat × Nat) × (Int × Int)))) => Ap s.1 s.2.1 s.2.2.1 s.2.2.2)
  (st := fun k (m : List RPt) => (m, ((0, l.length), ((k : Int), ((l.length : Int) - 1 - (k : Int)))))) (fin := fun m => m)
  (I := fun i m => m.length = l.length ∧ ∀ k, k < l.length → m[k]? = if k < i ∨ l.length < k + i + 1 then l[l.length - 1 - k]? else l[k]?) (e := l.length / 2)
  (by
   rintro i m hi ⟨i1, i2⟩
   have hj : l.length - 1 - i < l.length := by omega
   have a1 := i2 i (by omega)
   have a2 := i2 (l.length - 1 - i) (by omega)
   rw [if_neg (by omega)] at a1 a2
   obtain ⟨x, hx⟩ : ∃ x, l[i]? = some x := ⟨l[i], List.getElem?_eq_getElem (by omega)⟩
   obtain ⟨y, hy⟩ : ∃ y, l[l.length - 1 - i]? = some y := ⟨l[l.length - 1 - i], List.getElem?_eq_getElem hj⟩
   rw [hx] at a1
   rw [hy] at a2
   refine ⟨(m.set i y).set (l.length - 1 - i) x, ?_, by simp [i1], ?_⟩
   ·show Ap m (0, l.length) (i : Int) ((l.length : Int) - 1 - (i : Int)) = _
    unfold Ap getN
    have e : (l.length : Int) - 1 - (i : Int) = ((l.length - 1 - i : Nat) : Int) := by omega
    have g1 : idxI ((l.length - 1 - i : Nat) : Int) l.length = some (l.length - 1 - i) := AJ hj
    have g2 : idxI (i : Int) l.length = some i := AJ (by omega)
    rw [e, decide_eq_true (by omega), cT]
    simp only [g1, g2, obs, Nat.zero_add]
    rw [a2, obs, a1, obs]
    have g3 : (m.set i y)[l.length - 1 - i]? = some y := by rw [List.getElem?_set_ne (by omega)]; exact a2
    rw [g3, obs, wrapI (by omega) (by omega), wrapI (by omega) (by omega), show (((l.length - 1 - i : Nat) : Int)) - 1 = (l.length : Int) - 1 - ((i + 1 : Nat) : Int) by omega]
    rfl
   ·intro k hk
    by_cases c1 : k = l.length - 1 - i
    ·rw [c1, List.getElem?_set_self (by rw [List.length_set]; omega), if_pos (by omega), show l.length - 1 - (l.length - 1 - i) = i by omega, hx]
    ·rw [List.getElem?_set_ne (by omega)]
     by_cases c2 : k = i
     ·rw [c2, List.getElem?_set_self (by omega), if_pos (by omega), hy]
     ·rw [List.getElem?_set_ne (by omega), i2 k hk]
      by_cases c3 : k < i ∨ l.length < k + i + 1
      ·rw [if_pos c3, if_pos (by omega)]
      ·rw [if_neg c3, if_neg (by omega)])
  (by
   rintro m _
   show Ap m (0, l.length) ((l.length / 2 : Nat) : Int) ((l.length : Int) - 1 - ((l.length / 2 : Nat) : Int)) = _
   unfold Ap
   rw [decide_eq_false (by omega), cF]) 0 l (by omega) ⟨rfl, fun k hk => by rw [if_neg (by omega)]⟩
 have h1' : loopM (fun (s : ((List RPt) × ((Nat × Nat) × (Int × Int)))) => Ap s.1 s.2.1 s.2.2.1 s.2.2.2) (l, ((0, l.length), ((0 : Int), ((l.length : Int) - (1 : Int))))) = some m := by
  have e : (l.length : Int) - 1 - ((0 : Nat) : Int) = (l.length : Int) - 1 := by omega
  rw [e] at h1
  exact h1
 rw [h1', obs]
 congr 1
 refine List.ext_getElem? fun k => ?_
 by_cases hk : k < l.length
 ·rw [h3 k hk, List.getElem?_reverse hk]
  by_cases c : k < l.length / 2 ∨ l.length < k + l.length / 2 + 1
  ·rw [if_pos c]
  ·rw [if_neg c, show l.length - 1 - k = k by omega]
 ·rw [List.getElem?_eq_none (by omega), List.getElem?_eq_none (by simp; omega)]
theorem Wf {ps : List Q2} (h : SzR ps) : SzR ps.reverse := ⟨by simp [h.1], fun p hp => h.2 p (List.mem_reverse.1 hp)⟩
theorem Aa8 {ps : List Q2} (hps : SzR ps) : Bz (ps.map rp) = some (ps.reverse.map rp, true) := by
 have hp := hps.1
 unfold Bz
 rw [Bu (by simp; omega) (Hg (k := 8) (by omega) hps.2), obs, BJ.2 hps, nT, cF, Vv hps, obs, Y5 (by simp; omega), obs, List.length_reverse, decide_eq_true rfl, cT, List.map_reverse]
theorem ZI {ps : List Q2} (hps : SzR ps) : BB (ps.map rp) = some (ps.reverse.map rp, true) := by
 have hp := hps.1
 obtain ⟨m, h1, h2⟩ := F4 (body := fun (s : ((List RPt) × ((List RPt) × Int))) => BV s.1 s.2.1 s.2.2)
  (st := fun k (m : List RPt) => (m, (ps.map rp, (k : Int) - 1))) (fin := fun m => m) (I := fun k m => k ≤ ps.length ∧ m = (ps.drop k).reverse.map rp)
  (by
   rintro k m ⟨i1, i2⟩
   have hlt : k < ps.length := by omega
   have hd : ps.drop k = ps[k] :: ps.drop (k + 1) := List.drop_eq_getElem_cons hlt
   have hg : ps[k]? = some ps[k] := List.getElem?_eq_getElem hlt
   refine ⟨m ++ [rp ps[k]], ?_, by omega, by rw [i2, hd, List.reverse_cons, List.map_append]; rfl⟩
   show BV m (ps.map rp) (((k + 1 : Nat) : Int) - 1) = _
   unfold BV
   have hml : m.length ≤ 100000 := by rw [i2]; simp; omega
   rw [show ((k + 1 : Nat) : Int) - 1 = (k : Int) by omega, decide_eq_true (by omega), cT, Dq hg, obs, appP hml, obs, wrapI (by omega) (by omega)])
  (by
   rintro m _
   show BV m (ps.map rp) (((0 : Nat) : Int) - 1) = _
   unfold BV
   rfl) ps.length [] ⟨Nat.le_refl _, by simp⟩
 have hm : m = ps.reverse.map rp := by rw [h2.2, List.drop_zero]
 have h1' : loopM (fun (s : ((List RPt) × ((List RPt) × Int))) => BV s.1 s.2.1 s.2.2) ((List.nil : List RPt), (ps.map rp, (ps.length : Int) - 1)) = some m := h1
 unfold BB
 rw [CB (by simp; omega) (Hg (k := 8) (by omega) hps.2), obs, BJ.2 hps, nT, cF, List.length_map, wrapI (by omega) (by omega), h1', obs, hm, Xm (Wf hps)]
 rfl
theorem RK {l : List RPt} (hl : l.length ≤ 1000) (hb : ∀ x ∈ l, BrP x) (h : goodR l = false) : Bz l = some ([], false) := by
 unfold Bz
 rw [Bu (by omega) hb, obs, h, nF, cT]
theorem S0 {l : List RPt} (hl : l.length ≤ 1000) (hb : ∀ x ∈ l, BrP x) (h : goodR l = false) : BB l = some ([], false) := by
 unfold BB
 rw [CB (by omega) hb, obs, h, nF, cT]
theorem Jb {m : List Q2} (h : SzR m) : AA (m.map rp) (m.map rp) = some true := by
 have h40 := h.1
 unfold AA
 rw [bne_self_eq_false, cF]
 obtain ⟨h1, h2⟩ := HB (l := m) (body := fun (s : ((List RPt) × ((List RPt) × (Int × Int)))) => Bw s.1 s.2.1 s.2.2.1 s.2.2.2)
  (st := fun k (b : Unit) => (m.map rp, (m.map rp, ((m.length : Int), (k : Int))))) (step := fun b p => ()) (fin := fun b => .inl ()) (I := fun k b => True)
  (by
   rintro k b p hk _
   have hkl := getL hk
   have hp := h.2 p (List.mem_of_getElem? hk)
   refine ⟨?_, trivial⟩
   show Bw (m.map rp) (m.map rp) (m.length : Int) (k : Int) = _
   unfold Bw
   rw [decide_eq_true (by omega), cT, Dq hk, obs, obs]
   simp only [peta, fx_e, fy_e, M0, NN, obs]
   rw [Ie (k := 8) (by omega) hp.1, obs, nT, cF, Ie (k := 8) (by omega) hp.2, obs, nT, cF, wrap1 (by omega)])
  (by
   rintro b _
   show Bw (m.map rp) (m.map rp) (m.length : Int) (m.length : Int) = _
   unfold Bw
   rw [decide_eq_false (by omega)]
   rfl) () trivial
 have h1' : loopM (fun (s : ((List RPt) × ((List RPt) × (Int × Int)))) => Bw s.1 s.2.1 s.2.2.1 s.2.2.2) (m.map rp, (m.map rp, ((m.length : Int), (0 : Int)))) = _ := h1
 rw [List.length_map, h1']
 rfl
theorem DM : AA [] [] = some true := Jb (m := []) ⟨by simp, by simp⟩
theorem IQ (m : List Q2) : AA (outR m).1 (outR m).1 = some true := by
 unfold outR
 by_cases h : goodR (m.map rp) = true
 ·rw [if_pos h]; exact Jb (BJ.1 h)
 ·rw [if_neg h]; exact DM
def ShP (x : RPt) : Prop := ShF (fx x) ∧ ShF (fy x)
theorem ShP.br {x : RPt} (h : ShP x) : BrP x := ⟨h.1.br, h.2.br⟩
theorem AG0 {B' : Nat} {c : List Int × Int × Int} (h : Cur B' c) (hB : B' ≤ 800000000) : ∃ c' x, Dv c = some (c', fl x) ∧ Cur (B' + 1500) c' ∧ ShP x := by
 unfold Dv
 obtain ⟨c0, v0, e0, q0⟩ := Hc h (by omega) 40
 simp only [e0, obs, peta]
 cases v0 with
 | true =>
  obtain ⟨c1, a, e1, q1, s1⟩ := Aw4 q0 (by omega)
  obtain ⟨c2, b, e2, q2, s2⟩ := Aw4 q1 (by omega)
  simp only [cT]
  rw [e1, obs, e2, obs]
  exact ⟨c2, (toQ a, toQ b), rfl, q2.mono (by omega), s1, s2⟩
 | false =>
  obtain ⟨c1, v1, e1, q1, a1, b1⟩ := AN q0 (by omega) 17
  obtain ⟨c2, v2, e2, q2, a2, b2⟩ := AN q1 (by omega) 3
  obtain ⟨c3, v3, e3, q3, a3, b3⟩ := AN q2 (by omega) 17
  obtain ⟨c4, v4, e4, q4, a4, b4⟩ := AN q3 (by omega) 3
  simp only [cF]
  rw [e1, obs, e2, obs, QQ, obs, e3, obs, e4, obs, QQ, obs]
  have s1 := KH (IntKind.wrap .i64 (v1 - 4)) (IntKind.wrap .i64 (1 + v2))
  have s2 := KH (IntKind.wrap .i64 (v3 - 4)) (IntKind.wrap .i64 (1 + v4))
  generalize ratOfV (IntKind.wrap .i64 (v1 - 4)) (IntKind.wrap .i64 (1 + v2)) = a at s1
  generalize ratOfV (IntKind.wrap .i64 (v3 - 4)) (IntKind.wrap .i64 (1 + v4)) = b at s2
  exact ⟨c4, (toQ a.1, toQ b.1), rfl, q4.mono (by omega), s1, s2⟩
theorem Am4 : ∀ (n : Nat) (B' : Nat) (c : List Int × Int × Int) (l : List RPt), Cur B' c → B' + 1500 * n ≤ 700000000 → l.length + n ≤ 1000 → (∀ x ∈ l, ShP x) →
  ∃ c' l', loopM (fun (s : ((List Int × (Int × Int)) × ((List RPt) × Int))) => A6 s.1 s.2.1 s.2.2) (c, (l, (n : Int))) = some (c', l') ∧ Cur (B' + 1500 * n) c' ∧ l'.length = l.length + n ∧ ∀ x ∈ l', ShP x := by
 intro n
 induction n with
 | zero =>
  intro B' c l hc _ _ hl
  refine ⟨c, l, Ar ?_, hc.mono (by omega), rfl, hl⟩
  show A6 c l ((0 : Nat) : Int) = _
  unfold A6
  rfl
 | succ n ih =>
  intro B' c l hc hB hlen hl
  obtain ⟨c1, x, e1, q1, s1⟩ := AG0 hc (by omega)
  obtain ⟨c', l', h1, h2, h3, h4⟩ := ih (B' + 1500) c1 (l ++ [x]) q1 (by omega) (by simp; omega) (by
   intro y hy
   rcases List.mem_append.1 hy with hy | hy
   ·exact hl y hy
   ·rw [List.mem_singleton.1 hy]; exact s1)
  refine ⟨c', l', ?_, h2.mono (by omega), by rw [h3]; simp; omega, h4⟩
  have hgo : A6 c l ((n + 1 : Nat) : Int) = some (.inl (c1, (l ++ [x], (n : Int)))) := by
   unfold A6
   rw [decide_eq_true (by omega)]
   simp only [cT, peta]
   rw [e1, obs]
   simp only
   rw [un_e, PG, appP (by omega), obs, wrapI (by omega) (by omega), show ((n + 1 : Nat) : Int) - 1 = (n : Int) by omega]
  exact (Bc (f := fun (s : ((List Int × (Int × Int)) × ((List RPt) × Int))) => A6 s.1 s.2.1 s.2.2) (s := (c, (l, ((n + 1 : Nat) : Int)))) hgo).trans h1
theorem AC0 {x y : Int} (hx : -100000 ≤ x ∧ x ≤ 100000) (hy : -100000 ≤ y ∧ y ≤ 100000) : ∃ z, Ht (x, y) = some (fl z) ∧ ShP z := by
 have small : ∀ n : Int, -100000 ≤ n → n ≤ 100000 → Sz 2 (n : Rat) := fun n h1 h2 => Wi (by have : B 2 = 4294967296 := rfl; omega) (by omega)
 unfold Ht
 simp only
 rw [QH (by omega) (by omega), obs, QH (by omega) (by omega), obs]
 refine ⟨rp ((x : Rat), (y : Rat)), rfl, ?_, ?_⟩
 ·exact Xy (k := 2) (by omega) (small x hx.1 hx.2)
 ·exact Xy (k := 2) (by omega) (small y hy.1 hy.2)
theorem Aq3 (p : Int × Int) : ∃ v, F9 p = some v := by
 unfold F9
 rw [KL, obs]
 cases (decide (-1000 ≤ p.1) && decide (p.1 ≤ 1000)) with
 | true => rw [cT, KL]; exact ⟨_, rfl⟩
 | false => exact ⟨_, rfl⟩
theorem At4 {l : List (Int × Int)} (hl : l.length ≤ 1000) : ∃ v, HL l = some v := by
 have key : ∀ (m k : Nat), k + m = l.length → ∃ v, loopM (fun (s : ((List (Int × Int)) × (Int × Int))) => Cw s.1 s.2.1 s.2.2) (l, ((l.length : Int), (k : Int))) = some v := by
  intro m
  induction m with
  | zero =>
   intro k hk
   refine ⟨.inl (), Ar ?_⟩
   show Cw l (l.length : Int) (k : Int) = _
   unfold Cw
   rw [decide_eq_false (by omega)]
   rfl
  | succ m ih =>
   intro k hk
   have hlt : k < l.length := by omega
   have hg : l[k]? = some l[k] := List.getElem?_eq_getElem hlt
   obtain ⟨v, hv⟩ := Aq3 l[k]
   have hb : Cw l (l.length : Int) (k : Int) = if v = true then some (.inl (l, ((l.length : Int), ((k + 1 : Nat) : Int)))) else some (.inr (.inr false)) := by
    unfold Cw
    rw [decide_eq_true (by omega), cT, An, hg, obs]
    simp only [peta]
    rw [hv, obs]
    cases v with
    | true => rw [nT, cF, wrap1 (by omega), if_pos rfl]
    | false => rw [nF, cT]; rfl
   by_cases h : v = true
   ·rw [if_pos h] at hb
    obtain ⟨w, hw⟩ := ih (k + 1) (by omega)
    exact ⟨w, (Bc (f := fun (s : ((List (Int × Int)) × (Int × Int))) => Cw s.1 s.2.1 s.2.2) (s := (l, ((l.length : Int), (k : Int)))) hb).trans hw⟩
   ·rw [if_neg h] at hb
    exact ⟨_, Ar hb⟩
 obtain ⟨v, hv⟩ := key l.length 0 (by omega)
 have hv' : loopM (fun (s : ((List (Int × Int)) × (Int × Int))) => Cw s.1 s.2.1 s.2.2) (l, ((l.length : Int), (0 : Int))) = some v := hv
 unfold HL
 rw [hv', obs]
 cases v with
 | inl u => exact ⟨_, rfl⟩
 | inr u => exact ⟨_, rfl⟩
theorem Aq2 {w : List (Int × Int)} (h : GW w) : ∃ l ok, GN w = some (l, ok) ∧ l.length ≤ 100 ∧ ∀ x ∈ l, ShP x := by
 have hhi := h.hi
 obtain ⟨v, hv⟩ := At4 (l := w) (by omega)
 have hway : ∃ v, HF w = some v := by
  unfold HF
  rw [KL, obs]
  cases (decide ((3 : Int) ≤ ((w.length : Nat) : Int)) && decide (((w.length : Nat) : Int) ≤ 12)) with
  | true => rw [cT, hv, obs]; exact ⟨_, rfl⟩
  | false => exact ⟨_, rfl⟩
 obtain ⟨u, hu⟩ := hway
 unfold GN
 rw [hu, obs]
 cases u with
 | false => exact ⟨_, _, rfl, by simp, by simp⟩
 | true =>
  have key : ∀ (m k : Nat) (l : List RPt), k + m = w.length → l.length = k → (∀ x ∈ l, ShP x) → ∃ l', loopM (fun (s : ((List RPt) × ((List (Int × Int)) × (Int × Int)))) => B5 s.1 s.2.1 s.2.2.1 s.2.2.2) (l, (w, ((w.length : Int), (k : Int)))) = some l' ∧ l'.length = w.length ∧ ∀ x ∈ l', ShP x := by
   intro m
   induction m with
   | zero =>
    intro k l hk hl hs
    refine ⟨l, Ar ?_, by omega, hs⟩
    show B5 l w (w.length : Int) (k : Int) = _
    unfold B5
    rw [decide_eq_false (by omega)]
    rfl
   | succ m ih =>
    intro k l hk hl hs
    have hlt : k < w.length := by omega
    have hg : w[k]? = some w[k] := List.getElem?_eq_getElem hlt
    have gp := h.pts _ (List.mem_of_getElem? hg)
    obtain ⟨g1, g2, g3, g4⟩ := gp
    obtain ⟨z, hz, sz⟩ := AC0 (x := w[k].1) (y := w[k].2) (by omega) (by omega)
    have hb : B5 l w (w.length : Int) (k : Int) = some (.inl (l ++ [z], (w, ((w.length : Int), ((k + 1 : Nat) : Int))))) := by
     unfold B5
     rw [decide_eq_true (by omega), cT, An, hg, obs, hz, obs, un_e, PG, appP (by omega), obs, wrap1 (by omega)]
    obtain ⟨l', i1, i2, i3⟩ := ih (k + 1) (l ++ [z]) (by omega) (by simp; omega) (by
     intro y hy
     rcases List.mem_append.1 hy with hy | hy
     ·exact hs y hy
     ·rw [List.mem_singleton.1 hy]; exact sz)
    exact ⟨l', (Bc (f := fun (s : ((List RPt) × ((List (Int × Int)) × (Int × Int)))) => B5 s.1 s.2.1 s.2.2.1 s.2.2.2) (s := (l, (w, ((w.length : Int), (k : Int))))) hb).trans i1, i2, i3⟩
  obtain ⟨l', i1, i2, i3⟩ := key w.length 0 [] (by omega) rfl (by simp)
  have i1' : loopM (fun (s : ((List RPt) × ((List (Int × Int)) × (Int × Int)))) => B5 s.1 s.2.1 s.2.2.1 s.2.2.2) ((List.nil : List RPt), (w, ((w.length : Int), (0 : Int)))) = some l' := i1
  rw [nT, cF, i1', obs]
  exact ⟨_, _, rfl, by omega, i3⟩
theorem Ab7 {B' : Nat} {c : List Int × Int × Int} (h : Cur B' c) (hB : B' ≤ 100000000) : ∃ c' l, Cd c = some (c', l) ∧ Cur (B' + 100000) c' ∧ l.length ≤ 100 ∧ ∀ x ∈ l, ShP x := by
 unfold Cd
 obtain ⟨c0, v0, e0, q0⟩ := Hc h (by omega) 2
 simp only [e0, obs, peta]
 cases v0 with
 | true =>
  obtain ⟨c1, w, e1, q1, g1⟩ := AF0 q0 (by omega)
  obtain ⟨l, ok, e2, n2, s2⟩ := Aq2 g1
  simp only [cT]
  rw [e1, obs, e2, obs]
  exact ⟨_, _, rfl, q1.mono (by omega), n2, s2⟩
 | false =>
  obtain ⟨c1, v1, e1, q1, a1, b1⟩ := AN q0 (by omega) 7
  have b1 := b1 (by omega)
  obtain ⟨c2, v2, e2, q2⟩ := Hc q1 (by omega) 20
  simp only [cF]
  rw [e1, obs, e2, obs]
  have fin : ∀ (c3 : List Int × Int × Int) (v : Int), Cur (B' + 100) c3 → 0 ≤ v → v ≤ 50 → ∃ c' l, loopM (fun (s : ((List Int × (Int × Int)) × ((List RPt) × Int))) => A6 s.1 s.2.1 s.2.2) (c3, ((List.nil : List RPt), v)) = some (c', l) ∧ Cur (B' + 100000) c' ∧ l.length ≤ 100 ∧ ∀ x ∈ l, ShP x := by
   intro c3 v q3 hv0 hv1
   obtain ⟨n, rfl⟩ : ∃ n : Nat, v = (n : Int) := ⟨v.toNat, by omega⟩
   obtain ⟨c', l', h1, h2, h3, h4⟩ := Am4 n (B' + 100) c3 [] q3 (by omega) (by simp; omega) (by simp)
   exact ⟨c', l', h1, h2.mono (by omega), by rw [h3]; simp; omega, h4⟩
  cases v2 with
  | true =>
   obtain ⟨c3, v3, e3, q3, a3, b3⟩ := AN q2 (by omega) 3
   have b3 := b3 (by omega)
   obtain ⟨c', l, h1, h2, h3, h4⟩ := fin c3 (39 + v3) (q3.mono (by omega)) (by omega) (by omega)
   simp only [cT]
   rw [e3, obs, wrapI (by omega) (by omega), obs, sEr, h1, obs]
   exact ⟨_, _, rfl, h2, h3, h4⟩
  | false =>
   obtain ⟨c', l, h1, h2, h3, h4⟩ := fin c2 v1 (q2.mono (by omega)) (by omega) (by omega)
   simp only [cF]
   rw [obs, sEr, h1, obs]
   exact ⟨_, _, rfl, h2, h3, h4⟩
end Go.Proofs.YtgfchmagglhohaaGreat.Ev

end
section
namespace Go.Proofs.YtgfchmagglhohaaGreat.Ev
open Go
theorem Aq6 {l : List Int} (h : Cur 0 (l, 0, 0)) : ∃ r b a, BX l = some (r, (b, a)) ∧ r.length ≤ 100 ∧ (∀ x ∈ r, ShP x) ∧ ShF a := by
 unfold BX
 obtain ⟨c0, r, e0, q0, n0, s0⟩ := Ab7 h (by omega)
 obtain ⟨c1, b, e1, q1⟩ := Hc q0 (by omega) 2
 have hc : ∃ c' a, CH c1 = some (c', a) ∧ ShF a := by
  unfold CH
  obtain ⟨c2, v2, e2, q2, a2, b2⟩ := AN q1 (by omega) 17
  obtain ⟨c3, v3, e3, q3, a3, b3⟩ := AN q2 (by omega) 2
  simp only [peta]
  rw [e2, obs, e3, obs, QQ, obs]
  have s1 := KH (IntKind.wrap .i64 (v2 - 3)) (IntKind.wrap .i64 (1 + v3))
  generalize ratOfV (IntKind.wrap .i64 (v2 - 3)) (IntKind.wrap .i64 (1 + v3)) = a at s1
  exact ⟨c3, a.1, rfl, s1⟩
 obtain ⟨c2, a, e2, s2⟩ := hc
 simp only [peta]
 rw [e0, obs, e1, obs, e2, obs]
 exact ⟨r, b, a, rfl, n0, s0, s2⟩
theorem Al5 {l : List Int} (h : Cur 0 (l, 0, 0)) : ∃ r, Bl l = some r ∧ r.length ≤ 100 ∧ ∀ x ∈ r, ShP x := by
 unfold Bl Ds
 obtain ⟨c0, r, e0, q0, n0, s0⟩ := Ab7 h (by omega)
 try simp only [peta]
 rw [e0, obs, obs]
 exact ⟨r, rfl, n0, s0⟩
theorem Av4 : goodQ (toQ zF) = false := by decide
theorem W9 (x y : Rat) : ∃ w, Bf (fitsQ x).1 (fitsQ y).1 = some w ∧ ((fitsQ x).2 = true → (fitsQ y).2 = true → w = fitsQ (x + y)) := by
 by_cases hx : Sz 40 x
 ·by_cases hy : Sz 40 y
  ·rw [F3 hx, F3 hy]
   exact ⟨_, Au3 hx hy, fun _ _ => rfl⟩
  ·rw [Ob hy]
   refine ⟨_, Mi (Ah3 x).br Ag1.br (by rw [Av4, Bool.and_false]), fun _ h => by cases h⟩
 ·rw [Ob hx]
  refine ⟨_, Mi Ag1.br (Ah3 y).br (by rw [Av4, Bool.false_and]), fun h => by cases h⟩
theorem Zc {b : List Int} (hb : Cur 0 (b, 0, 0)) :
  (((Bl b)).bind fun x31 =>
   ((Bz x31)).bind fun x32 =>
   ((BB x31)).bind fun x33 =>
   bif (!(x32.2 == x33.2)) then
    some false
   else
   ((AA x32.1 x33.1)).bind fun x34 =>
   bif (!x34) then
    some false
   else
   bif x32.2 then
    ((Am x31)).bind fun x35 =>
    ((Am x32.1)).bind fun x36 =>
    ((Bf x35.1 x36.1)).bind fun x37 =>
    bif (!x35.2) then
     some true
    else
    bif (!x36.2) then
     some true
    else
    bif (!x37.2) then
     some true
    else
    ((Cz x37.1)).bind fun x38 =>
    some x38
   else
   some true) = some true := by
 obtain ⟨r, e, n0, s0⟩ := Al5 hb
 rw [e, obs]
 cases hg : goodR r with
 | false =>
  rw [RK (by omega) (fun x hx => (s0 x hx).br) hg, obs, S0 (by omega) (fun x hx => (s0 x hx).br) hg, obs]
  simp only [beq_self_eq_true, nT, cF, DM, obs]
 | true =>
  obtain ⟨ps, hps, rfl⟩ := N0.1 hg
  have ls := Jb (Wf hps)
  have a1 := ET hps
  have a2 := ET (Wf hps)
  obtain ⟨w, hw, hw2⟩ := W9 (area2 ps / 2) (area2 ps.reverse / 2)
  have hz : area2 ps / 2 + area2 ps.reverse / 2 = 0 := by
   rw [Aj7, Rat.div_def, Rat.div_def, Rat.neg_mul]
   grind
  rw [Aa8 hps, obs, ZI hps, obs]
  simp only
  rw [beq_self_eq_true, nT, cF, ls, obs, nT, cF, cT, a1, obs, a2, obs, hw, obs]
  rw [hz] at hw2
  have h0 : (fitsQ 0) = (rqF 0, true) := F3 (S0r.mono (by omega))
  have lz : Cz (rqF 0) = some true := by rw [Ai9]; rfl
  cases h1 : (fitsQ (area2 ps / 2)).2 with
  | false => rw [nF, cT]
  | true =>
   cases h2 : (fitsQ (area2 ps.reverse / 2)).2 with
   | false => rw [nT, cF, nF, cT]
   | true =>
    have hw3 := hw2 h1 h2
    rw [h0] at hw3
    rw [hw3]
    simp only [nT, cF]
    rw [lz, obs]
theorem Ak3 {b : List Int} {K : List Int → Option Bool} (hK : K b = some true) (f1 f2 : List RPt × Bool) (f3 : RF × Bool)
  (h : f1.2 = true → f2.2 = true → f3.2 = true → ∃ u v w : RF × Bool, Am f1.1 = some u ∧ Am f2.1 = some v ∧ Bf u.1 v.1 = some w ∧ (u.2 = true → v.2 = true → w.2 = true → AL w.1 f3.1 = some true)) :
  (fun (x23 : List RPt × (RF × (List Int × (List RPt × (Bool × (Bool × Bool)))))) =>
  (bif x23.2.2.2.2.1 then
    bif x23.2.2.2.2.2.1 then
     bif x23.2.2.2.2.2.2 then
      ((Am x23.2.2.2.1)).bind fun x24 =>
      ((Am x23.1)).bind fun x25 =>
      ((Bf x24.1 x25.1)).bind fun x26 =>
      bif x24.2 then
       bif x25.2 then
        bif x26.2 then
         ((AL x26.1 x23.2.1)).bind fun x27 =>
         bif (!x27) then
          some (Sum.inl false)
         else
         some (Sum.inr x23.2.2.1)
        else
        some (Sum.inr x23.2.2.1)
       else
       some (Sum.inr x23.2.2.1)
      else
      some (Sum.inr x23.2.2.1)
     else
     some (Sum.inr x23.2.2.1)
    else
    some (Sum.inr x23.2.2.1)
   else
   some (Sum.inr x23.2.2.1)).bind fun x28 =>
  Sum.elim
   (fun x29 =>
   some x29)
   (fun x30 => K x30)
   x28) (f2.1, (f3.1, (b, (f1.1, (f1.2, (f2.2, f3.2)))))) = some true := by
 simp only
 cases h1 : f1.2 with
 | false => exact hK
 | true =>
  cases h2 : f2.2 with
  | false => exact hK
  | true =>
   cases h3 : f3.2 with
   | false => exact hK
   | true =>
    obtain ⟨u, v, w, e1, e2, e3, e4⟩ := h h1 h2 h3
    rw [cT, cT, cT, e1, obs, e2, obs, e3, obs]
    cases k1 : u.2 with
    | false => exact hK
    | true =>
     cases k2 : v.2 with
     | false => exact hK
     | true =>
      cases k3 : w.2 with
      | false => exact hK
      | true =>
       rw [cT, cT, cT, e4 k1 k2 k3, obs, nT, cF, obs, sEr]
       exact hK
theorem Ab0 {m : List Q2} {s : Rat} {b : Bool} (hm : SzR m) (hs : Sz 2 s) (hin : ∀ p ∈ m, crd b p ≤ s) (s1 : List RPt) (s2 : RF) (s3 : List Int) (s5 : List RPt) (s6 s7 s8 : Bool) :
  loopM (fun (s : (RF × ((List (RQ × RQ)) × (RF × ((List Int) × (Bool × ((List (RQ × RQ)) × (Bool × (Bool × (Bool × ((List (RQ × RQ)) × (Int × Int)))))))))))) => B8 s.1 s.2.1 s.2.2.1 s.2.2.2.1 s.2.2.2.2.1 s.2.2.2.2.2.1 s.2.2.2.2.2.2.1 s.2.2.2.2.2.2.2.1 s.2.2.2.2.2.2.2.2.1 s.2.2.2.2.2.2.2.2.2.1 s.2.2.2.2.2.2.2.2.2.2.1 s.2.2.2.2.2.2.2.2.2.2.2)
   (rqF s, (s1, (s2, (s3, (b, (s5, (s6, (s7, (s8, (m.map rp, ((m.length : Int), (0 : Int)))))))))))) = some (.inl (s1, (s2, (s3, (s5, (s6, (s7, s8))))))) := by
 have h40 := hm.1
 obtain ⟨h1, h2⟩ := HB (l := m) (body := fun (s : (RF × ((List (RQ × RQ)) × (RF × ((List Int) × (Bool × ((List (RQ × RQ)) × (Bool × (Bool × (Bool × ((List (RQ × RQ)) × (Int × Int)))))))))))) => B8 s.1 s.2.1 s.2.2.1 s.2.2.2.1 s.2.2.2.2.1 s.2.2.2.2.2.1 s.2.2.2.2.2.2.1 s.2.2.2.2.2.2.2.1 s.2.2.2.2.2.2.2.2.1 s.2.2.2.2.2.2.2.2.2.1 s.2.2.2.2.2.2.2.2.2.2.1 s.2.2.2.2.2.2.2.2.2.2.2)
  (st := fun k (_ : Unit) => (rqF s, (s1, (s2, (s3, (b, (s5, (s6, (s7, (s8, (m.map rp, ((m.length : Int), (k : Int))))))))))))) (step := fun _ _ => ()) (fin := fun _ => .inl (s1, (s2, (s3, (s5, (s6, (s7, s8))))))) (I := fun _ _ => True)
  (by
   rintro k _ p hk _
   have hkl := getL hk
   have hp := hm.2 p (List.mem_of_getElem? hk)
   have hin := hin p (List.mem_of_getElem? hk)
   refine ⟨?_, trivial⟩
   show B8 (rqF s) s1 s2 s3 b s5 s6 s7 s8 (m.map rp) (m.length : Int) (k : Int) = _
   unfold B8
   rw [decide_eq_true (by omega), cT, Dq hk, obs]
   simp only [rq_e, peta, fx_e, fy_e, M0, NN]
   have fin : ∀ c : Rat, Sz 8 c → c ≤ s → ∀ z, ((Cf (rqF c) (rqF s)).bind fun x4 =>
     bif !x4.2 then some (Sum.inr (Sum.inr false)) else bif decide (x4.1 > (0 : Int)) then some (Sum.inr (Sum.inr false)) else some (Sum.inl z)) = (some (Sum.inl z) : Option ((RF × ((List (RQ × RQ)) × (RF × ((List Int) × (Bool × ((List (RQ × RQ)) × (Bool × (Bool × (Bool × ((List (RQ × RQ)) × (Int × Int))))))))))) ⊕ ((List (RQ × RQ)) × (RF × ((List Int) × ((List (RQ × RQ)) × (Bool × (Bool × Bool)))))) ⊕ Bool)) := by
    intro c hc hle z
    rw [V0 (hc.mono (by omega)) (hs.mono (by omega)), obs]
    simp only
    have := @Ad2 c s
    have hn : ¬ cmpQ c s > 0 := fun h => by have := this.1 h; grind
    rw [nT, cF, decide_eq_false hn, cF]
   cases b with
   | true =>
    rw [cT, obs, sEr]
    simp only [rq_e, peta]
    rw [fin _ hp.2 hin, wrap1 (by omega)]
   | false =>
    rw [cF, obs, sEr]
    simp only [rq_e, peta]
    rw [fin _ hp.1 hin, wrap1 (by omega)])
  (by
   rintro _ _
   show B8 (rqF s) s1 s2 s3 b s5 s6 s7 s8 (m.map rp) (m.length : Int) (m.length : Int) = _
   unfold B8
   rw [decide_eq_false (by omega)]
   rfl) () trivial
 exact h1
theorem Te {m : List Q2} (h : (outR m).2 = true) : SzR m ∧ outR m = (m.map rp, true) := by
 unfold outR at h ⊢
 by_cases hg : goodR (m.map rp) = true
 ·rw [if_pos hg]; exact ⟨BJ.1 hg, rfl⟩
 ·rw [if_neg hg] at h; cases h
theorem Aq1 {a : List Int} (ha : Cur 0 (a, 0, 0)) : ∃ (l : List RPt) (b : Bool) (t : RF) (f1 f2 : List RPt × Bool) (f3 : RF × Bool) (g : Bool),
  BX a = some (l, (b, t)) ∧ (BI l b t = some f1 ∧ Cx l b t = some f1 ∧ AA f1.1 f1.1 = some true) ∧ (B3 l b t = some f2 ∧ BZ l b t = some f2 ∧ AA f2.1 f2.1 = some true) ∧
  (Am l = some f3 ∧ Bx l = some f3 ∧ AL f3.1 f3.1 = some true) ∧ (AW l = some g ∧ Br l = some g) ∧
  (f1.2 = true → BI f1.1 b t = some f1 ∧ AW f1.1 = some true ∧ ∃ m s, SzR m ∧ Sz 2 s ∧ f1.1 = m.map rp ∧ t = rqF s ∧ ∀ p ∈ m, crd b p ≤ s) ∧
  (f1.2 = true → f2.2 = true → f3.2 = true → ∃ u v w : RF × Bool, Am f1.1 = some u ∧ Am f2.1 = some v ∧ Bf u.1 v.1 = some w ∧ (u.2 = true → v.2 = true → w.2 = true → AL w.1 f3.1 = some true)) := by
 obtain ⟨l, b, t, e, n0, s0, st⟩ := Aq6 ha
 have hbr : ∀ x ∈ l, BrP x := fun x hx => (s0 x hx).br
 have area : ∃ f3 : RF × Bool, Am l = some f3 ∧ Bx l = some f3 ∧ AL f3.1 f3.1 = some true ∧ ∀ ps, SzR ps → l = ps.map rp → f3 = fitsQ (area2 ps / 2) := by
  cases hg : goodR l with
  | false =>
   refine ⟨_, Rl (by omega) hbr hg, Sx (by omega) hbr hg, PE, fun ps h1 h2 => ?_⟩
   rw [h2, BJ.2 h1] at hg
   cases hg
  | true =>
   obtain ⟨ps, hps, rfl⟩ := N0.1 hg
   have := ET hps
   refine ⟨_, this, ZX hps, I5 _, fun qs h1 h2 => ?_⟩
   have h3 := ET h1
   rw [← h2, this] at h3
   exact Option.some.inj h3
 obtain ⟨f3, g1, g2, g3, g4⟩ := area
 cases hg : goodR l && (goodQ (toQ t) && shQ 2 t) with
 | false =>
  exact ⟨l, b, t, ([], false), ([], false), f3, goodR l, e, ⟨Tz (by omega) hbr st.br hg b, TH (by omega) hbr st.br hg b, DM⟩, ⟨QR (by omega) hbr st.br hg b, Sb (by omega) hbr st.br hg b, DM⟩,
   ⟨g1, g2, g3⟩, ⟨Bu (by omega) hbr, CB (by omega) hbr⟩, (fun h => by cases h), (fun h => by cases h)⟩
 | true =>
  rw [Bool.and_eq_true, Bool.and_eq_true] at hg
  obtain ⟨h1, h2, h3⟩ := hg
  obtain ⟨ps, hps, hl⟩ := N0.1 h1
  obtain ⟨s, hs40, ht⟩ := AA6 h2
  rw [ht, Un (by omega)] at h3
  have hs : Sz 2 s := of_decide_eq_true h3
  have hf3 := g4 ps hps hl
  have c1 := Ue hps hs b
  have c2 := Ao0 hps hs b
  have c3 := Zd hps hs b
  have c4 := Aa7 hps hs b
  rw [← hl, ← ht] at c1 c2 c3 c4
  refine ⟨l, b, t, _, _, f3, goodR l, e, ⟨c1, c2, IQ _⟩, ⟨c3, c4, IQ _⟩, ⟨g1, g2, g3⟩, ⟨Bu (by omega) hbr, CB (by omega) hbr⟩, fun h => ?_, fun k1 k2 k3 => ?_⟩
  ·obtain ⟨hm, hout⟩ := Te h
   have hin : ∀ p ∈ clipQ b false s ps, ins b false s p = true := Py _ _
   have d1 := Ue hm hs b
   rw [AC3 hin, hout, ← ht] at d1
   rw [hout]
   refine ⟨d1, ?_, _, s, hm, hs, rfl, ht, fun p hp => ?_⟩
   ·have := hm.1
    rw [Bu (by simp; omega) (Hg (k := 8) (by omega) hm.2), BJ.2 hm]
   ·have := hin p hp
    rw [Y4] at this
    exact of_decide_eq_true this
  ·obtain ⟨hm1, ho1⟩ := Te k1
   obtain ⟨hm2, ho2⟩ := Te k2
   obtain ⟨w, hw, hw2⟩ := W9 (area2 (clipQ b false s ps) / 2) (area2 (clipQ b true s ps) / 2)
   rw [ho1, ho2]
   refine ⟨_, _, w, ET hm1, ET hm2, hw, fun j1 j2 j3 => ?_⟩
   have hsum : area2 (clipQ b false s ps) / 2 + area2 (clipQ b true s ps) / 2 = area2 ps / 2 := by
    rw [← Ap8 b s ps, Rat.div_def, Rat.div_def, Rat.div_def, Rat.add_mul]
   rw [hw2 j1 j2, hsum, hf3]
   exact I5 _
theorem pureFnClips {a b : List Int} (ha : ∀ x ∈ a, 0 ≤ x ∧ x ≤ 255) (hb : ∀ x ∈ b, 0 ≤ x ∧ x ≤ 255) (la : a.length ≤ 1000000000000000) (lb : b.length ≤ 1000000000000000) : Fs a b = some true := by
 unfold Fs
 rw [wrapI (by omega) (by omega)]
 by_cases hl : (a.length : Int) + (b.length : Int) > 1048576
 ·rw [decide_eq_true hl]; rfl
 rw [decide_eq_false hl, cF]
 have ca : Cur 0 (a, 0, 0) := .start ha (by omega)
 have cb : Cur 0 (b, 0, 0) := .start hb (by omega)
 have last := Zc cb
 obtain ⟨l, d, t, f1, f2, f3, g, e, ⟨a1, b1, l1⟩, ⟨a2, b2, l2⟩, ⟨a3, b3, l3⟩, ⟨g1, g2⟩, inv, sum⟩ := Aq1 ca
 have mid := Ak3 (b := b) (K := fun x30 => (((Bl x30)).bind fun x31 =>
   ((Bz x31)).bind fun x32 =>
   ((BB x31)).bind fun x33 =>
   bif (!(x32.2 == x33.2)) then
    some false
   else
   ((AA x32.1 x33.1)).bind fun x34 =>
   bif (!x34) then
    some false
   else
   bif x32.2 then
    ((Am x31)).bind fun x35 =>
    ((Am x32.1)).bind fun x36 =>
    ((Bf x35.1 x36.1)).bind fun x37 =>
    bif (!x35.2) then
     some true
    else
    bif (!x36.2) then
     some true
    else
    bif (!x37.2) then
     some true
    else
    ((Cz x37.1)).bind fun x38 =>
    some x38
   else
   some true)) last f1 f2 f3 sum
 rw [e, obs]
 simp only [rq_e, peta]
 rw [a1, obs, b1, obs, a2, obs, b2, obs, a3, obs, b3, obs, beq_self_eq_true, nT, cF, l1, obs, nT, cF, beq_self_eq_true, nT, cF, l2, obs, nT, cF, beq_self_eq_true, nT, cF, l3, obs, nT, cF, g1, obs, g2, obs, beq_self_eq_true, nT, cF]
 cases h1 : f1.2 with
 | false =>
  rw [cF, obs, sEr]
  rw [h1] at mid
  exact mid
 | true =>
  obtain ⟨i1, i2, m, s, hm, hs, em, et, hin⟩ := inv h1
  have lp := Ab0 (b := d) hm hs hin f2.1 f3.1 b f1.1 true f2.2 f3.2
  have elen : m.length = f1.1.length := by rw [em, List.length_map]
  rw [← em, ← et, elen] at lp
  rw [cT, i1, obs, i2, obs, nT, cF, h1, cT, l1, obs, nT, cF, obs, sEr]
  simp only [rq_e, peta]
  rw [lp, obs, sEl, obs, sEr]
  rw [h1] at mid
  exact mid
end Go.Proofs.YtgfchmagglhohaaGreat.Ev

end
section
namespace Go.Proofs.YtgfchmagglhohaaGreat.Ev
open Go Go.RowKit Go.ChangeShapes Go.WideShapes Go.ChangeAt
def shs : List Sh := [.sl 1 (.int .u8), .sl 1 (.int .u8)]
theorem fits : FitsL Tryz.prog [22, 22] shs := by
 have h : Fits Tryz.prog 22 (.sl 1 (.int .u8)) := .sl Tryz.underlying22 (by kernel_rfl) (by kernel_rfl) (.int Tryz.underlying5)
 exact ⟨h, h, trivial⟩
theorem bytes_wf {l : List Int} (h : WFC (.sl 1 (.int .u8)) l) : (∀ x ∈ l, 0 ≤ x ∧ x ≤ 255) ∧ l.length ≤ 1000000000000000 := by
 have h1 : ∀ x ∈ l, (Lit.int .u8 x).wf = true := h.1
 have h2 : l.length * 1 ≤ maxBytes := h.2
 refine ⟨fun x hx => ?_, by unfold maxBytes at h2; omega⟩
 have := h1 x hx
 simp [Lit.wf, IntKind.min, IntKind.max, IntKind.bits, IntKind.signed] at this
 omega
theorem own : ownKnob Tryz.prog.godebug = none := by kernel_rfl
theorem laid : laidOutB Tryz.prog = true := by kernel_rfl
set_option maxRecDepth 100000 in
theorem lifted (os : Os) (started : os.Started) (H : Type) (enc : TypeId × Value → H) :
  ReturnsInHanded {} Tryz.checked os 8 .any (Rows.fnClipsSpec.pre6 enc Tryz.prog Tryz.f8 Rows.fnClipsRow.domain false) (Rows.fnClipsSpec.post enc Tryz.prog Tryz.f8 false true false false) := by
 refine returnsInHanded_of_change_sized (C := Tryz.checked) own started (by kernel_rfl) Tryz.func8 (ChangeSpec.witness6 (enc := enc) (C := Tryz.checked) false ⟨#[], #[.slice none 0 0, .slice none 0 0], []⟩ 8 (by kernel_rfl) (by kernel_rfl) (by kernel_rfl) (by kernel_rfl)) ?_
 intro W base args ds gs before hval hW hcnd hsz _
 exact Wm (P := Tryz.prog) (J := []) (cf := cf0) (ext := ext0) (F := fun x => Fs x.1 x.2) (shs := shs) (by kernel_rfl) Ax6 Wy (fun d => by kernel_rfl)
  (fun d hd => pureFnClips (bytes_wf hd.1).1 (bytes_wf hd.2.1).1 (bytes_wf hd.1).2 (bytes_wf hd.2.1).2) rfl rfl rfl (by kernel_rfl) fits laid
  (fun t ht => by
   have : t = 22 := by simpa using ht
   subst this
   exact ⟨by kernel_rfl, of_decide_eq_true (by kernel_rfl)⟩) rfl
  (fun ds hl => by
   match ds, hl with
   | [_, _], _ => rfl) (fun x hx => absurd hx (List.not_mem_nil)) hval hW hsz
theorem over : Rows.fnClipsRow.holds Tryz.pinned (OpenSpec.ofChange Rows.fnClipsSpec) :=
 OpenClaim.holds_of_wide 8 Tryz.f8 rfl rfl rfl rfl rfl rfl rfl ⟨rfl, rfl, rfl, rfl, rfl⟩ rfl rfl rfl rfl rfl (by kernel_rfl) Tryz.func8 (by kernel_rfl)
  (of_decide_eq_true (by kernel_rfl)) (by unfold Func.isWrapper; first | (rw [if_pos (by decide +kernel)]; kernel_rfl) | (rw [if_neg (by decide +kernel)]; exact ⟨rfl, rfl⟩))
  (fun os started H enc _ => lifted os started H enc)
end Go.Proofs.YtgfchmagglhohaaGreat.Ev
namespace Go.Proofs.YtgfchmagglhohaaGreat
theorem fnClips_holds : Rows.FnClipsSaid := Ev.over
#print axioms fnClips_holds
end Go.Proofs.YtgfchmagglhohaaGreat

end
