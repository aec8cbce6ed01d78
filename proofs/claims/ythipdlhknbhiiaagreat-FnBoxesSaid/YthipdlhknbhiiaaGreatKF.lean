/- Whatever comes in, the law of this claim answers true, and nothing that was handed in changes. -/
import Derived.Test.YthipdlhknbhiiaaGreatKE
import Derived.KernelRfl
import Derived.Test.YthipdlhknbhiiaaGreatRows
import Derived.WalkKit
import Derived.ProofKit
import Derived.OpenShut
import Derived.ShutString
import Derived.ChangeOld
import Derived.Below
import Derived.SizedLaws
import Derived.Test.YthipdlhknbhiiaaGreatChecked
set_option linter.unusedVariables false
set_option linter.unusedSimpArgs false
set_option linter.unusedSectionVars false
section
namespace Go.Proofs.YthipdlhknbhiiaaGreat.Ev
open Go
theorem Aq5 (q:Rat):((q.floor:Int):Rat)≤q:=Rat.floor_le q
theorem Ar5 (q:Rat):q<((q.floor:Int):Rat) + 1:=by
 have:=Rat.lt_floor_add_one q
 rwa [Rat.intCast_add] at this
def Adj (lo hi:Rat):Prop:=hi.num*(lo.den:Int)-lo.num*(hi.den:Int)=1
def med (lo hi:Rat):Rat:=Rat.divInt (lo.num + hi.num) ((lo.den:Int) + (hi.den:Int))
theorem Pj {lo hi:Rat} (h:Adj lo hi):(med lo hi).num=lo.num + hi.num∧((med lo hi).den:Int)=(lo.den:Int) + (hi.den:Int):=by
 have d1:=lo.den_pos
 have d2:=hi.den_pos
 obtain ⟨h1,h2⟩:=Ge (x:=lo.num + hi.num) (y:=(lo.den:Int) + (hi.den:Int)) (by omega)
 have hg:Int.gcd (lo.num + hi.num) ((lo.den:Int) + (hi.den:Int))=1:=by
  have e1:((Int.gcd (lo.num + hi.num) ((lo.den:Int) + (hi.den:Int)):Nat):Int)∣lo.num + hi.num:=Int.gcd_dvd_left ..
  have e2:((Int.gcd (lo.num + hi.num) ((lo.den:Int) + (hi.den:Int)):Nat):Int)∣(lo.den:Int) + (hi.den:Int):=Int.gcd_dvd_right ..
  have e3:=Int.dvd_sub (Int.dvd_trans e2 (Int.dvd_mul_left hi.num _)) (Int.dvd_trans e1 (Int.dvd_mul_right _ (hi.den:Int)))
  have e4:hi.num*((lo.den:Int) + (hi.den:Int))-(lo.num + hi.num)*(hi.den:Int)=1:=by
   unfold Adj at h
   rw[Int.mul_add,Int.add_mul]
   omega
  rw[e4] at e3
  have:=Int.natAbs_dvd_natAbs.2 e3
  simpa using this
 rw[if_neg (by omega),hg] at h1 h2
 unfold med
 rw[←h1,←h2]
 simp
theorem An7 {lo hi:Rat} (h:Adj lo hi):Adj lo (med lo hi)∧Adj (med lo hi) hi:=by
 obtain ⟨h1,h2⟩:=Pj h
 unfold Adj at *
 rw[h1,h2]
 constructor
 ·rw[Int.add_mul,Int.mul_add]; omega
 ·rw[Int.mul_add,Int.add_mul]; omega
theorem ZL {lo hi z:Rat} (h:Adj lo hi) (h1:lo<z) (h2:z<hi):(lo.den:Int) + (hi.den:Int)≤(z.den:Int):=by
 rw[Rat.lt_iff] at h1 h2
 unfold Adj at h
 have d1:=lo.den_pos
 have d2:=hi.den_pos
 have e:(z.den:Int)=(lo.den:Int)*(hi.num*(z.den:Int)-z.num*(hi.den:Int)) + (hi.den:Int)*(z.num*(lo.den:Int)-lo.num*(z.den:Int)):=by
  have:(z.den:Int)=(z.den:Int)*(hi.num*(lo.den:Int)-lo.num*(hi.den:Int)):=by rw[h,Int.mul_one]
  rw[this]
  grind
 have k1:(1:Int)≤hi.num*(z.den:Int)-z.num*(hi.den:Int):=by omega
 have k2:(1:Int)≤z.num*(lo.den:Int)-lo.num*(z.den:Int):=by omega
 have m1:=Int.mul_le_mul_of_nonneg_left k1 (show (0:Int)≤(lo.den:Int) by omega)
 have m2:=Int.mul_le_mul_of_nonneg_left k2 (show (0:Int)≤(hi.den:Int) by omega)
 omega
def midQ (a b:Rat):Nat→Rat→Rat→Option Rat
 | 0,_,_=>none
 | n + 1,lo,hi=>if med lo hi≤a then midQ a b n (med lo hi) hi else if b≤med lo hi then midQ a b n lo (med lo hi) else some (med lo hi)
def betweenQ (a b:Rat):Option Rat:=if ((a.floor:Int):Rat) + 1<b then some (((a.floor:Int):Rat) + 1) else midQ a b 200 (a.floor:Rat) (((a.floor:Int):Rat) + 1)
theorem Ad5 {a b:Rat}:∀ (n:Nat) (lo hi s:Rat),Adj lo hi→lo≤a→b≤hi→midQ a b n lo hi=some s→a<s∧s<b∧∀ z:Rat,a<z→z<b→s.den≤z.den:=by
 intro n
 induction n with
 | zero=>intro lo hi s _ _ _ h; cases h
 | succ n ih =>
  intro lo hi s h1 h2 h3 h
  unfold midQ at h
  obtain ⟨a1,a2⟩:=An7 h1
  by_cases c1:med lo hi≤a
  ·rw[if_pos c1] at h
   exact ih _ _ _ a2 c1 h3 h
  ·rw[if_neg c1] at h
   by_cases c2:b≤med lo hi
   ·rw[if_pos c2] at h
    exact ih _ _ _ a1 h2 c2 h
   ·rw[if_neg c2] at h
    cases h
    refine ⟨Rat.not_le.1 c1,Rat.not_le.1 c2,fun z hz1 hz2=>?_⟩
    have:=ZL (z:=z) h1 (by grind) (by grind)
    have:=(Pj h1).2
    omega
theorem VH (a:Rat):Adj ((a.floor:Int):Rat) (((a.floor:Int):Rat) + 1):=by
 rw[show ((a.floor:Int):Rat) + 1=((a.floor + 1:Int):Rat) by rw[Rat.intCast_add]; rfl]
 unfold Adj
 simp only[Rat.num_intCast,Rat.den_intCast]
 omega
theorem Ug {a b s:Rat} (h:a<b) (hs:betweenQ a b=some s):a<s∧s<b∧∀ z:Rat,a<z→z<b→s.den≤z.den:=by
 unfold betweenQ at hs
 split at hs
 ·cases hs
  refine ⟨Ar5 a,‹_›,fun z _ _=>?_⟩
  rw[show ((a.floor:Int):Rat) + 1=((a.floor + 1:Int):Rat) by rw[Rat.intCast_add]; rfl,Rat.den_intCast]
  exact z.den_pos
 ·exact Ad5 200 _ _ s (VH a) (Aq5 a) (Rat.not_lt.1 ‹_›) hs
end Go.Proofs.YthipdlhknbhiiaaGreat.Ev

end
section
namespace Go.Proofs.YthipdlhknbhiiaaGreat.Ev
open Go
abbrev RF:=Bool×(List Int×(Bool×List Int))
def rqF (q:Rat):RF:=((big q.num).1,((big q.num).2,((big (q.den:Int)).1,(big (q.den:Int)).2)))
def zF:RF:=(false,([],(false,[])))
theorem rq_n (q:Rat):((rqF q).1,(rqF q).2.1)=big q.num:=(rfl)
theorem rq_d (q:Rat):((rqF q).2.2.1,(rqF q).2.2.2)=big (q.den:Int):=(rfl)
theorem L3 (q:Rat):(rqF q).2.2=big (q.den:Int):=(rfl)
theorem rq_e (a:RF):(a.1,(a.2.1,(a.2.2.1,a.2.2.2)))=a:=(rfl)
theorem AU7 (q:Rat):((rqF q).1,((rqF q).2.1,big (q.den:Int)))=rqF q:=(rfl)
theorem Al9 {x y:Int} {k:Nat} (hy:(y.natAbs:Int)<B k) (h0:y≠0):(((Int.gcd x y:Nat):Int).natAbs:Int)<B k:=by
 rw[Int.natAbs_natCast]
 have:Int.gcd x y≤y.natAbs:=Nat.le_of_dvd (by omega) (Nat.gcd_dvd_right ..)
 omega
theorem AB9 {x y:Int} (h0:y≠0):((Int.gcd x y:Nat):Int)≠0:=by
 have : 0<Int.gcd x y:=Nat.gcd_pos_of_pos_right _ (by omega)
 omega
theorem E9 {x:Int} {k:Nat} (hk:k≤1000000) (h:(x.natAbs:Int)<B k):Brief (big x).2:=by
 have:=Ah.2 h; unfold big Brief; dsimp only; omega
theorem Lx (x:Int) (s:Bool):(lim (val (big x).2).toNat,s&&decide ((val (big x).2).toNat≠0))=(lim x.natAbs,s&&decide (x≠0)):=by
 unfold big
 simp only[Aj,Int.toNat_natCast]
 congr 2
 exact decide_eq_decide.2 (by omega)
theorem OJ {x:Int} {k:Nat} (hk:k≤1000000) (h:(x.natAbs:Int)<B k):C8 (big x)=some (big (-x)):=by
 unfold C8
 rw[Fn (show LB (big x).2 from Ao _) (E9 hk h),Lx]
 simp only[Option.bind_some]
 congr 1
 unfold big
 simp only
 refine Prod.ext ?_ (by simp)
 simp only
 by_cases h0:x<0
 ·rw[decide_eq_true h0]; simp; omega
 ·rw[decide_eq_false h0]; simp only[Bool.not_false,Bool.true_and]; exact decide_eq_decide.2 (by omega)
theorem WE {x:Int} {k:Nat} (hk:k≤1000000) (h:(x.natAbs:Int)<B k):E7 (big x)=some (big (-x)):=by
 unfold E7
 rw[CX (show LB (big x).2 from Ao _) (E9 hk h),Lx]
 simp only[Option.bind_some]
 congr 1
 unfold big
 simp only
 refine Prod.ext ?_ (by simp)
 simp only
 by_cases h0:x<0
 ·rw[decide_eq_true h0]; simp; omega
 ·rw[decide_eq_false h0]; simp only[Bool.not_false,Bool.true_and]; exact decide_eq_decide.2 (by omega)
theorem XM {x:Int} {k:Nat} (hk:k≤1000000) (h:(x.natAbs:Int)<B k):AL (big x).1 (big x).2=some ((big x).2,(big x).1):=by
 rw[Fn (show LB (big x).2 from Ao _) (E9 hk h),Lx]
 congr 1
 unfold big
 simp only
 refine Prod.ext rfl ?_
 simp only
 by_cases h0:x<0
 ·rw[decide_eq_true h0]; simp; omega
 ·rw[decide_eq_false h0]; rfl
theorem Ak9 {n:Nat} {k:Nat} (hk:k≤1000000) (h:(n:Int)<B k):AL false (big (n:Int)).2=some ((big (n:Int)).2,(big (n:Int)).1):=by
 have:=XM (x:=(n:Int)) hk (natB h)
 rwa [show (big (n:Int)).1=false by rw[Fl]] at this ⊢
theorem Vn {x:Int} {k:Nat} (hk:k≤1000000) (h:(x.natAbs:Int)<B k):AH (big x).1 (big x).2=some ((big x).2,(big x).1):=by
 rw[CX (show LB (big x).2 from Ao _) (E9 hk h),Lx]
 congr 1
 unfold big
 simp only
 refine Prod.ext rfl ?_
 simp only
 by_cases h0:x<0
 ·rw[decide_eq_true h0]; simp; omega
 ·rw[decide_eq_false h0]; rfl
theorem Av0 {n:Nat} {k:Nat} (hk:k≤1000000) (h:(n:Int)<B k):AH false (big (n:Int)).2=some ((big (n:Int)).2,(big (n:Int)).1):=by
 have:=Vn (x:=(n:Int)) hk (natB h)
 rwa [show (big (n:Int)).1=false by rw[Fl]] at this ⊢
theorem MP {x y:Int} {k:Nat} (hk:k≤90000) (hx:(x.natAbs:Int)<B k) (hy:(y.natAbs:Int)<B k) (h0:y≠0):Ds (big x) (big y)=some (rqF (Rat.divInt x y)):=by
 obtain ⟨p1,p2⟩:=Ge (x:=x) h0
 have hg:=Al9 (x:=x) hy h0
 have hg0:=AB9 (x:=x) h0
 unfold Ds
 simp only[peta,VV hk hx hy,Option.bind_some]
 rw[show (big y).1=decide (y<0) from rfl]
 by_cases hn:y<0
 ·rw[if_pos hn] at p1 p2
  rw[decide_eq_true hn]
  simp only[cond_true,OJ (show k≤1000000 by omega) hg,Option.bind_some,Sum.elim_inr,Ij hk hx (negB hg) (by omega),Ij hk hy (negB hg) (by omega),p1,p2]
  rfl
 ·rw[if_neg hn] at p1 p2
  rw[decide_eq_false hn]
  simp only[cond_false,Option.bind_some,Sum.elim_inr,Ij hk hx hg hg0,Ij hk hy hg hg0,p1,p2]
  rfl
theorem Xn (q:Rat):(q.den:Int)≠0:=by have:=q.den_nz; omega
theorem IN (p q:Rat):(p.den:Int)*(q.den:Int)≠0:=fun h=>by rcases Int.mul_eq_zero.1 h with h | h <;> exact Xn _ h
theorem Ab4 {x y:Int} {k:Nat} (hk:k≤1000000) (hx:(x.natAbs:Int)<B k) (hy:(y.natAbs:Int)<B k):Et (big x) (big y)=some (cmpZ x y):=by
 have lx:=Ek hx hk
 have ly:=Ek hy hk
 have e1:=M6 (a:=x.natAbs) (b:=y.natAbs) (by unfold Brief; omega) (by unfold Brief; omega)
 have e2:=M6 (a:=y.natAbs) (b:=x.natAbs) (by unfold Brief; omega) (by unfold Brief; omega)
 unfold Et
 rw[show (big x).1=decide (x<0) from rfl,show (big y).1=decide (y<0) from rfl,show (big x).2=lim x.natAbs from rfl,show (big y).2=lim y.natAbs from rfl,e1,e2]
 by_cases h1:x<0
 ·by_cases h2:y<0
  ·rw[decide_eq_true h1,decide_eq_true h2]
   simp only[cond_true,cond_false,Bool.not_true,Option.bind_some]
   congr 1
   rcases BF x y with ⟨e,h⟩ | ⟨e,h⟩ | ⟨e,h⟩
   ·rw[e]; exact Cz (by omega)
   ·rw[e]; exact Fo (by omega)
   ·rw[e,h]; exact Ln _
  ·rw[decide_eq_true h1,decide_eq_false h2,Cz (show x<y by omega)]; rfl
 ·by_cases h2:y<0
  ·rw[decide_eq_false h1,decide_eq_true h2,Fo (show y<x by omega)]; rfl
  ·rw[decide_eq_false h1,decide_eq_false h2]
   simp only[cond_true,cond_false,Bool.not_false,Option.bind_some]
   congr 1
   rcases BF x y with ⟨e,h⟩ | ⟨e,h⟩ | ⟨e,h⟩
   ·rw[e]; exact Cz (by omega)
   ·rw[e]; exact Fo (by omega)
   ·rw[e,h]; exact Ln _
section
variable {p q:Rat} {k:Nat} (hk:k≤20000) (hp:Sz k p) (hq:Sz k q)
include hk hp hq
theorem Gu:BJ (rqF p) (rqF q)=some (rqF (p + q)):=by
 obtain ⟨r1,a1,b1⟩:=Ck (k:=k) (by omega) hp.1 (natB hq.2)
 obtain ⟨r2,a2,b2⟩:=Ck (k:=k) (by omega) hq.1 (natB hp.2)
 obtain ⟨r3,a3,b3⟩:=Ck (k:=k) (by omega) (natB hp.2) (natB hq.2)
 unfold BJ
 simp only[rq_n,rq_d,L3,a1,a2,a3,b1,b2,b3,Option.bind_some]
 rw[Lo (k:=k + k) (by omega) (mulB hp.1 (natB hq.2)) (mulB hq.1 (natB hp.2))]
 simp only[Option.bind_some,peta]
 rw[MP (k:=k + k + 1) (by omega) (Pm hp hq) (upB (mulB (natB hp.2) (natB hq.2)) (by omega)) (IN p q),←AB8]
 rfl
theorem Gp:BK (rqF p) (rqF q)=some (rqF (p*q)):=by
 obtain ⟨r1,a1,b1⟩:=Ck (k:=k) (by omega) hp.1 hq.1
 obtain ⟨r3,a3,b3⟩:=Ck (k:=k) (by omega) (natB hp.2) (natB hq.2)
 unfold BK
 simp only[rq_n,rq_d,L3,a1,a3,b1,b3,Option.bind_some]
 rw[MP (k:=k + k) (by omega) (mulB hp.1 hq.1) (mulB (natB hp.2) (natB hq.2)) (IN p q),←AH1]
 rfl
theorem Vk (h0:q≠0):C0 (rqF p) (rqF q)=some (rqF (p/q)):=by
 obtain ⟨r1,a1,b1⟩:=Ck (k:=k) (by omega) hp.1 (natB hq.2)
 obtain ⟨r3,a3,b3⟩:=Ck (k:=k) (by omega) (natB hp.2) hq.1
 unfold C0
 simp only[rq_n,rq_d,L3,a1,a3,b1,b3,Option.bind_some]
 rw[MP (k:=k + k) (by omega) (mulB hp.1 (natB hq.2)) (mulB (natB hp.2) hq.1) (by
  intro h
  rcases Int.mul_eq_zero.1 h with h | h
  ·exact Xn _ h
  ·exact h0 (Rat.num_eq_zero.1 h)),←AG8]
 rfl
theorem Xi:CU (rqF p) (rqF q)=some (cmpQ p q):=by
 obtain ⟨r1,a1,b1⟩:=Ck (k:=k) (by omega) hp.1 (natB hq.2)
 obtain ⟨r2,a2,b2⟩:=Ck (k:=k) (by omega) hq.1 (natB hp.2)
 unfold CU
 simp only[rq_n,rq_d,L3,a1,a2,b1,b2,Option.bind_some]
 rw[NP (k:=k + k) (by omega) (mulB hp.1 (natB hq.2)) (mulB hq.1 (natB hp.2)),Am0]
 rfl
theorem BS:A5 (rqF p) (rqF q)=some (decide (p<q)):=by
 unfold A5
 simp only[rq_e,Xi hk hp hq,Option.bind_some]
 congr 1
 exact decide_eq_decide.2 Am8
theorem LH:E5 (rqF p) (rqF q)=some (cmpQ p q):=by
 unfold E5
 simp only[rq_n,rq_d,L3,Gd (k:=k) (by omega) hp.1 (natB hq.2),Gd (k:=k) (by omega) hq.1 (natB hp.2),Option.bind_some,peta]
 rw[Ab4 (k:=k + k) (by omega) (mulB hp.1 (natB hq.2)) (mulB hq.1 (natB hp.2)),Am0]
 rfl
end
theorem Au8 {q:Rat} {k:Nat} (hk:k≤1000000) (hq:Sz k q):FG (rqF q)=some (rqF (-q)):=by
 unfold FG
 simp only[rq_n,OJ hk hq.1,Option.bind_some]
 rw[show (rqF q).2.2.2=(big (q.den:Int)).2 from rfl,Ak9 hk hq.2]
 rfl
theorem Lb {p q:Rat} {k:Nat} (hk:k≤20000) (hp:Sz k p) (hq:Sz k q):Ct (rqF p) (rqF q)=some (rqF (p-q)):=by
 unfold Ct
 simp only[rq_e,Au8 (k:=k) (by omega) hq,Option.bind_some,Gu hk hp (Af2 hq)]
 rw[Rat.sub_eq_add_neg]
theorem BigOf1:BB (1:Int)=some (big 1):=Na (by omega) (by omega)
theorem AG5:Dv (1:Int)=some (big 1):=Rp (by omega) (by omega)
theorem K6 {n:Int} (h1 : -9223372036854775808≤n) (h2:n≤9223372036854775807):BC n=some (rqF (n:Rat)):=by
 unfold BC
 simp only[Na h1 h2,BigOf1,Option.bind_some]
 rfl
theorem Lm {n:Int} (h1 : -9223372036854775808≤n) (h2:n≤9223372036854775807):D9 n=some (rqF (n:Rat)):=by
 unfold D9
 simp only[Rp h1 h2,AG5,Option.bind_some]
 rfl
theorem We {k:Nat} (hk : 1≤k):(((1:Int).natAbs:Nat):Int)<B k:=by
 have:=G6 hk
 rw[B1] at this
 omega
theorem AM3 {x:Int} {k:Nat} (hk:k≤1000000) (h:(x.natAbs:Int)<B k):It (big x)=some (rqF (x:Rat)):=by
 unfold It
 simp only[XM hk h,BigOf1,Option.bind_some]
 rfl
theorem Yp {q:Rat} {k:Nat} (hk:k≤80000) (h1 : 1≤k) (hq:Sz k q):DC (rqF q)=some (big q.floor):=by
 have hd:=q.den_pos
 have hf:=PS (x:=q.num) (d:=(q.den:Int)) (by omega)
 rw[←Rat.floor_def] at hf
 have ht:=upB (m:=k + 1) (k:=k) (x:=q.num.tdiv (q.den:Int)) (by have:=M4 q.num (q.den:Int); have:=hq.1; omega) (by omega)
 unfold DC Dm
 simp only[rq_n,rq_d,L3,Ij (k:=k) (by omega) hq.1 (natB hq.2) (Xn q),Option.bind_some,peta,Xe]
 by_cases h:q.num.tmod (q.den:Int)<0
 ·rw[if_pos h] at hf
  rw[Cz h]
  simp only[show decide ((-1:Int)<0)=true from rfl,cond_true,BigOf1,Option.bind_some,peta]
  unfold HA
  simp only[peta,OJ (k:=k + 1) (by omega) (We (by omega)),Option.bind_some]
  rw[Lo (k:=k + 1) (by omega) ht (by simpa using We (k:=k + 1) (by omega)),←hf]
  simp only[Option.bind_some,peta,Int.sub_eq_add_neg]
 ·rw[if_neg h] at hf
  have:decide (cmpZ (q.num.tmod (q.den:Int)) 0<0)=false:=decide_eq_false (by rcases BF (q.num.tmod (q.den:Int)) 0 with ⟨e,g⟩ | ⟨e,g⟩ | ⟨e,g⟩ <;> omega)
  rw[this,←hf]
  rfl
def BrF (a:RF):Prop:=Brief a.2.1∧Brief a.2.2.2
def toQ (a:RF):(Bool×List Int)×(Bool×List Int):=((a.1,a.2.1),(a.2.2.1,a.2.2.2))
theorem M1 {q:Rat} {k:Nat} (hk:k≤1000000) (h:Sz k q):BrF (rqF q):=⟨E9 hk h.1,E9 hk (natB h.2)⟩
theorem AK3 {y:Int}:(!(big y).1 && !(big y).2.isEmpty)=decide (0<y):=by
 unfold big
 simp only
 have:=H1 y.natAbs
 rw[this]
 by_cases h : 0<y
 ·rw[decide_eq_true h,decide_eq_false (by omega),decide_eq_true (by omega)]; rfl
 ·rw[decide_eq_false h]
  by_cases h0:y=0
  ·subst h0; rfl
  ·rw[decide_eq_true (show y<0 by omega)]; rfl
theorem U2 {x y:Int} (hx:(x.natAbs:Int)<B 40) (hy:(y.natAbs:Int)<B 40):goodQ (big x,big y)=(decide (0<y)&&decide (Int.gcd x y=1)):=by
 unfold goodQ
 simp only[LF hx,LF hy,Bool.true_and,AK3]
 unfold big
 simp only[Aj,Int.toNat_natCast]
 rfl
theorem Sm {g:Nat}:(cmpZ (g:Int) 1==0)=decide (g=1):=by
 rcases BF (g:Int) 1 with ⟨e,h⟩ | ⟨e,h⟩ | ⟨e,h⟩
 ·rw[e,decide_eq_false (by omega)]; rfl
 ·rw[e,decide_eq_false (by omega)]; rfl
 ·rw[e,decide_eq_true (by omega)]; rfl
theorem Nd (y:Int):((((big y).2.length:Nat):Int)==(0:Int))=decide (y=0):=by
 rw[Bool.eq_iff_iff]
 simp only[beq_iff_eq,decide_eq_true_eq]
 unfold big
 constructor
 ·intro h
  have:=F8.1 (List.eq_nil_of_length_eq_zero (show (lim y.natAbs).length=0 by simpa using h))
  omega
 ·rintro rfl
  rw[show (0:Int).natAbs=0 from rfl,Bi]; rfl
theorem Ay3 {a:RF} (h:BrF a):FH a=some (goodQ (toQ a)):=by
 obtain ⟨n,nl,d,dl⟩:=a
 unfold FH toQ
 simp only
 have hl:Fk [(n,nl),(d,dl)]=some (goodB (n,nl)&&goodB (d,dl)):=by
  rw[AD3 (by simp) (by intro b hb; simp at hb; rcases hb with rfl | rfl; exact h.1; exact h.2)]
  simp
 rw[hl]
 simp only[Option.bind_some]
 cases hg:goodB (n,nl)&&goodB (d,dl) with
 | false=>unfold goodQ; simp only[hg,Bool.false_and,cond_false]
 | true =>
  rw[Bool.and_eq_true] at hg
  obtain ⟨x,hx,e1⟩:=Dq.1 hg.1
  obtain ⟨y,hy,e2⟩:=Dq.1 hg.2
  simp only[e1,e2,cond_true,Xe,Option.bind_some,U2 hx hy]
  rcases BF y 0 with ⟨e,g⟩ | ⟨e,g⟩ | ⟨e,g⟩
  ·rw[e,decide_eq_false (show ¬ 0<y by omega)]; rfl
  ·rw[e,decide_eq_true (show 0<y by omega)]
   simp only[show decide ((1:Int)>0)=true from rfl,cond_true,VV (k:=40) (by omega) hx hy,BigOf1,Option.bind_some,peta,Bool.true_and]
   rw[NP (k:=40) (by omega) (Al9 hy (by omega)) (We (by omega))]
   simp only[Option.bind_some,Sm]
  ·rw[e,decide_eq_false (show ¬ 0<y by omega)]; rfl
theorem Wl {a:RF} (h:BrF a):Ej a=some (goodQ (toQ a)):=by
 obtain ⟨n,nl,d,dl⟩:=a
 unfold Ej toQ
 simp only
 rw[K9 h.1]
 simp only[Option.bind_some]
 cases h1:goodB (n,nl) with
 | false=>unfold goodQ; simp only[h1,Bool.false_and,Bool.not_false,cond_true]
 | true =>
  simp only[Bool.not_true,cond_false]
  rw[K9 h.2]
  simp only[Option.bind_some]
  cases h2:goodB (d,dl) with
  | false=>unfold goodQ; simp only[h1,h2,Bool.and_false,Bool.false_and,Bool.not_false,cond_true]
  | true =>
   obtain ⟨x,hx,e1⟩:=Dq.1 h1
   obtain ⟨y,hy,e2⟩:=Dq.1 h2
   have f1:nl=(big x).2:=congrArg Prod.snd e1
   have f2:dl=(big y).2:=congrArg Prod.snd e2
   have f3:d=(big y).1:=congrArg Prod.fst e2
   simp only[Bool.not_true,cond_false]
   rw[e1,e2,U2 hx hy,f3,show (big y).1=decide (y<0) from rfl]
   by_cases hy0:y<0
   ·rw[decide_eq_true hy0,decide_eq_false (show ¬ 0<y by omega)]; rfl
   ·rw[decide_eq_false hy0]
    simp only[cond_false]
    rw[f2,Nd]
    by_cases h0:y=0
    ·rw[decide_eq_true h0,decide_eq_false (show ¬ 0<y by omega)]; rfl
    ·rw[decide_eq_false h0,decide_eq_true (show 0<y by omega)]
     simp only[cond_false]
     rw[f1,Am9 (k:=40) (by omega) hx hy]
     simp only[Option.bind_some]
     have hl1:([1]:List Int)=lim 1:=by rw[Tv (by omega),Bi]; rfl
     have hgb:=Ah.2 (show ((Int.gcd x y:Nat):Int)<B 40 by have:=Al9 (x:=x) hy h0; rwa [Int.natAbs_natCast] at this)
     rw[hl1,M6 (by unfold Brief; omega) (by rw[←hl1]; unfold Brief; simp)]
     simp only[Option.bind_some,Sm,Bool.true_and]
     exact congrArg some Sm
theorem Y7 {q:Rat} (h:Sz 40 q):goodQ (toQ (rqF q))=true:=Ka h
theorem OA {l:List ((Bool×List Int)×(Bool×List Int))} (hl:l.length≤1000) (hb:∀ a∈l,Brief a.1.2∧Brief a.2.2):Bx l=some (l.all goodQ):=by
 unfold Bx
 obtain ⟨h1,h2⟩:=AE5 (l:=l) (body:=fun (s:(List ((Bool×(List Int))×(Bool×(List Int))))×(Int×Int))=>Fs s.1 s.2.1 s.2.2)
  (st:=fun k (_:Unit)=>(l,((l.length:Int),(k:Int)))) (step:=fun _ a=>if goodQ a then .inr () else .inl (.inr false)) (fin:=fun _=>.inl ()) (I:=fun _ _=>True)
  (by
   rintro k b a hk _
   have hkl:=getL hk
   unfold Fs
   have ha:=hb a (List.mem_of_getElem? hk)
   simp only[decide_eq_true (show (k:Int)<(l.length:Int) by omega),cond_true,Ak,hk,Option.bind_some]
   rw[Ay3 (a:=(a.1.1,(a.1.2,(a.2.1,a.2.2)))) ha]
   simp only[Option.bind_some,toQ,peta]
   cases hg:goodQ a with
   | true=>left; exact ⟨(),by simp,by simp only[Bool.not_true,cond_false]; rw[wrapI (by omega) (by omega)]; rfl,trivial⟩
   | false=>right; exact ⟨.inr false,by simp,by simp only[Bool.not_false,cond_true]⟩)
  (by
   rintro b _
   unfold Fs
   simp) () trivial
 rw[show ((0:Nat):Int)=0 from rfl] at h1
 rw[h1]
 have key:∀ (m:List ((Bool×List Int)×(Bool×List Int))),foldX (ρ:=Unit ⊕ Bool) (fun (_:Unit) a=>if goodQ a then .inr () else .inl (.inr false)) () m=if m.all goodQ then .inr () else .inl (.inr false):=by
  intro m
  induction m with
  | nil=>rfl
  | cons a m ih =>
   unfold foldX
   rw[List.all_cons]
   cases hg:goodQ a with
   | true=>simp only[if_true,Bool.true_and]; exact ih
   | false=>simp
 rw[key]
 cases l.all goodQ <;> rfl
def fitsQ (q:Rat):RF×Bool:=if Sz 40 q then (rqF q,true) else (zF,false)
theorem Av7 {q:Rat} {n:Nat}:A4 (rqF q) (n:Int)=some (decide (Sz n q)):=by
 unfold A4
 have e1:((((rqF q).2.1.length:Nat):Int)≤(n:Int))↔((q.num.natAbs:Int)<B n):=by rw[←Ah]; exact Int.ofNat_le
 have e2:((((rqF q).2.2.2.length:Nat):Int)≤(n:Int))↔((q.den:Int)<B n):=by
  have:(rqF q).2.2.2=lim q.den:=by show (big (q.den:Int)).2=_; rw[Fl]
  rw[this,←Ah]; exact Int.ofNat_le
 unfold Sz
 by_cases h1:(q.num.natAbs:Int)<B n
 ·rw[decide_eq_true (e1.2 h1)]
  simp only[cond_true,decide_eq_decide.2 e2,h1,true_and]
 ·rw[decide_eq_false (fun h=>h1 (e1.1 h))]
  simp[h1]
theorem F7 (q:Rat):Bw (rqF q)=some (fitsQ q):=by
 unfold Bw fitsQ
 simp only[rq_e]
 rw[show (40:Int)=((40:Nat):Int) from rfl,Av7]
 by_cases h:Sz 40 q
 ·simp[h]
 ·simp[h]; rfl
end Go.Proofs.YthipdlhknbhiiaaGreat.Ev

end
section
namespace Go.Proofs.YthipdlhknbhiiaaGreat.Ev
open Go
theorem AL0 {x y:Int} {k:Nat} (hk:k≤1000000) (hx:(x.natAbs:Int)<B k) (hy:(y.natAbs:Int)<B k):H2 (big x) (big y)=some (big (x + y)):=by
 have lx:=Ek hx hk
 have ly:=Ek hy hk
 unfold H2 big
 simp only
 by_cases hs:decide (x<0)=decide (y<0)
 ·rw[hs,beq_self_eq_true]
  obtain ⟨r,e1,e2,e3,e4,_⟩:=W2 (Ao x.natAbs) (Ao y.natAbs) (by omega) (by omega)
  rw[Aj,Aj] at e3
  simp only[cond_true,e1,Option.bind_some]
  rw[CX e2 (by unfold Brief; omega)]
  simp only[Option.bind_some]
  have hv:(val r).toNat=(x + y).natAbs:=by
   by_cases h1:x<0
   ·have:y<0:=by simpa[h1] using hs
    omega
   ·have:¬y<0:=by simpa[h1] using hs
    omega
  rw[hv]
  congr 2
  by_cases h2:y<0
  ·have h1:x<0:=by simpa[h2] using hs
   rw[decide_eq_true h2,decide_eq_true (show x + y<0 by omega),decide_eq_true (show (x + y).natAbs≠0 by omega)]; rfl
  ·have h1:¬x<0:=by simpa[h2] using hs
   rw[decide_eq_false h2,decide_eq_false (show ¬x + y<0 by omega)]; rfl
 ·have hb:(decide (x<0)==decide (y<0))=false:=by simpa using hs
  rw[hb]
  simp only[cond_false]
  rw[M6 (by unfold Brief; omega) (by unfold Brief; omega)]
  simp only[Option.bind_some]
  have hxy:(x<0∧¬y<0)∨(¬x<0∧y<0):=by
   by_cases h1:x<0 <;> by_cases h2:y<0 <;> simp[h1,h2] at hs ⊢
  rcases Nat.lt_or_ge x.natAbs y.natAbs with hlt | hge
  ·rw[Cz (by omega),decide_eq_false (by omega)]
   simp only[cond_false]
   have hl:(lim x.natAbs).length≤(lim y.natAbs).length:=Ah.2 (by have:=Ah.1 (Nat.le_refl (lim y.natAbs).length); omega)
   rw[NY (Ao _) (Ao _) hl (by omega) (by rw[Aj,Aj]; omega)]
   simp only[Option.bind_some,Aj]
   have e:((y.natAbs:Int)-(x.natAbs:Int)).toNat=(x + y).natAbs:=by omega
   rw[e,CX (Ao _) (by
    have:(lim (x + y).natAbs).length≤(lim y.natAbs).length:=Ah.2 (by have:=Ah.1 (Nat.le_refl (lim y.natAbs).length); omega)
    unfold Brief; omega)]
   simp only[Option.bind_some,Aj,Int.toNat_natCast]
   congr 2
   by_cases h2:y<0
   ·rw[decide_eq_true h2,decide_eq_true (show x + y<0 by omega),decide_eq_true (show (x + y).natAbs≠0 by omega)]; rfl
   ·rw[decide_eq_false h2,decide_eq_false (show ¬x + y<0 by omega)]; rfl
  ·have hc:cmpZ (x.natAbs:Int) (y.natAbs:Int)≥0:=by unfold cmpZ; rw[if_neg (by omega)]; split <;> omega
   rw[decide_eq_true hc]
   simp only[cond_true]
   have hl:(lim y.natAbs).length≤(lim x.natAbs).length:=Ah.2 (by have:=Ah.1 (Nat.le_refl (lim x.natAbs).length); omega)
   rw[NY (Ao _) (Ao _) hl (by omega) (by rw[Aj,Aj]; omega)]
   simp only[Option.bind_some,Aj]
   have e:((x.natAbs:Int)-(y.natAbs:Int)).toNat=(x + y).natAbs:=by omega
   rw[e,CX (Ao _) (by
    have:(lim (x + y).natAbs).length≤(lim x.natAbs).length:=Ah.2 (by have:=Ah.1 (Nat.le_refl (lim x.natAbs).length); omega)
    unfold Brief; omega)]
   simp only[Option.bind_some,Aj,Int.toNat_natCast]
   congr 2
   by_cases h2:x<0
   ·rw[decide_eq_true h2]
    by_cases h3:x + y<0
    ·rw[decide_eq_true h3,decide_eq_true (show (x + y).natAbs≠0 by omega)]; rfl
    ·rw[decide_eq_false h3,decide_eq_false (show ¬(x + y).natAbs≠0 by omega)]; rfl
   ·rw[decide_eq_false h2,decide_eq_false (show ¬x + y<0 by omega)]; rfl
theorem Ky {x y : Int} {k : Nat} (hk : k ≤ 90000) (hx : (x.natAbs : Int) < B k) (hy : (y.natAbs : Int) < B k) (h0 : y ≠ 0) : CC (big x) (big y) = some (rqF (Rat.divInt x y)) := by
  obtain ⟨p1, p2⟩ := Ge (x := x) h0
  have hg := Al9 (x := x) hy h0
  have hg0 := AB9 (x := x) h0
  have hl : (lim (Int.gcd x y)).length ≤ k := Ah.2 (by rwa [Int.natAbs_natCast] at hg)
  unfold CC
  rw [Am9 hk hx hy]
  simp only [Option.bind_some]
  rw [CX (Ao _) (by unfold Brief; omega), Aj, Int.toNat_natCast]
  simp only [Option.bind_some, Bool.false_and]
  rw [← Fl]
  simp only [peta, An9 hk hx hg hg0, An9 hk hy hg hg0, Option.bind_some]
  have t1 := M4 x (Int.gcd x y : Nat)
  have t2 := M4 y (Int.gcd x y : Nat)
  obtain ⟨c, hc⟩ : ((Int.gcd x y : Nat) : Int) ∣ y := Int.gcd_dvd_right ..
  have e2 : y.tdiv (Int.gcd x y : Nat) = c := by conv => lhs; lhs; rw [hc]
                                                 exact Int.mul_tdiv_cancel_left _ hg0
  have hsg : (y < 0) ↔ c < 0 := by
    have hp : (0 : Int) < (Int.gcd x y : Nat) := by omega
    generalize ((Int.gcd x y : Nat) : Int) = g at *
    constructor
    · intro h
      rcases Int.lt_or_le c 0 with e | e
      · exact e
      · have := Int.mul_nonneg (Int.le_of_lt hp) e; omega
    · intro h; have := Int.mul_neg_of_pos_of_neg hp h; omega
  rw [show (big (y.tdiv (Int.gcd x y : Nat))).1 = decide (y.tdiv (Int.gcd x y : Nat) < 0) from rfl]
  by_cases hn : y < 0
  · rw [if_pos hn, Int.tdiv_neg] at p1 p2
    rw [decide_eq_true (by rw [e2]; exact hsg.1 hn)]
    simp only [cond_true]
    rw [WE (show k ≤ 1000000 by omega) (by omega), WE (show k ≤ 1000000 by omega) (by omega)]
    simp only [Option.bind_some, p1, p2]
    rfl
  · rw [if_neg hn] at p1 p2
    rw [decide_eq_false (by rw [e2]; exact fun h => hn (hsg.2 h))]
    simp only [cond_false, p1, p2]
    rfl
theorem AN3 {q:Rat} {k:Nat} (hk:k≤1000000) (hq:Sz k q):Il (rqF q)=some (rqF (-q)):=by
 unfold Il
 simp only[rq_n,WE hk hq.1,Option.bind_some]
 rfl
section
variable {p q:Rat} {k:Nat} (hk:k≤20000) (hp:Sz k p) (hq:Sz k q)
include hk hp hq
theorem Rs:Eh (rqF p) (rqF q)=some (rqF (p + q)):=by
 unfold Eh
 simp only[rq_n,rq_d,L3,Gd (k:=k) (by omega) hp.1 (natB hq.2),Gd (k:=k) (by omega) hq.1 (natB hp.2),Gd (k:=k) (by omega) (natB hp.2) (natB hq.2),Option.bind_some,peta]
 rw[AL0 (k:=k + k) (by omega) (mulB hp.1 (natB hq.2)) (mulB hq.1 (natB hp.2))]
 simp only[Option.bind_some,peta]
 rw[Ky (k:=k + k + 1) (by omega) (Pm hp hq) (upB (mulB (natB hp.2) (natB hq.2)) (by omega)) (IN p q),←AB8]
 rfl
theorem AP1:Iw (rqF p) (rqF q)=some (rqF (p*q)):=by
 unfold Iw
 simp only[rq_n,rq_d,L3,Gd (k:=k) (by omega) hp.1 hq.1,Gd (k:=k) (by omega) (natB hp.2) (natB hq.2),Option.bind_some,peta]
 rw[Ky (k:=k + k) (by omega) (mulB hp.1 hq.1) (mulB (natB hp.2) (natB hq.2)) (IN p q),←AH1]
 rfl
theorem AL1 (h0:q≠0):IA (rqF p) (rqF q)=some (rqF (p/q)):=by
 unfold IA
 simp only[rq_n,rq_d,L3,Gd (k:=k) (by omega) hp.1 (natB hq.2),Gd (k:=k) (by omega) (natB hp.2) hq.1,Option.bind_some,peta]
 rw[Ky (k:=k + k) (by omega) (mulB hp.1 (natB hq.2)) (mulB (natB hp.2) hq.1) (by
  intro h
  rcases Int.mul_eq_zero.1 h with h | h
  ·exact Xn _ h
  ·exact h0 (Rat.num_eq_zero.1 h)),←AG8]
 rfl
end
theorem XE {p q:Rat} {k:Nat} (hk:k≤20000) (hp:Sz k p) (hq:Sz k q):Fh (rqF p) (rqF q)=some (rqF (p-q)):=by
 unfold Fh
 simp only[rq_e,AN3 (k:=k) (by omega) hq,Option.bind_some,Rs hk hp (Af2 hq)]
 rw[Rat.sub_eq_add_neg]
theorem X6 {q:Rat} {k:Nat} (hk:k≤1000000) (hq:Sz k q):Fb (rqF q)=some (fitsQ q):=by
 unfold Fb fitsQ
 have e1:((((rqF q).2.1.length:Nat):Int)>40)↔¬((q.num.natAbs:Int)<B 40):=by
  rw[←Ah]
  show ((((lim q.num.natAbs).length:Nat):Int)>40)↔_
  omega
 have e2:((((rqF q).2.2.2.length:Nat):Int)>40)↔¬((q.den:Int)<B 40):=by
  rw[←Ah]
  have:(rqF q).2.2.2=lim q.den:=by show (big (q.den:Int)).2=_; rw[Fl]
  rw[this]
  omega
 by_cases h1:(q.num.natAbs:Int)<B 40
 ·rw[decide_eq_false (fun h=>e1.1 h h1)]
  by_cases h2:(q.den:Int)<B 40
  ·rw[decide_eq_false (fun h=>e2.1 h h2),if_pos ⟨h1,h2⟩]
   simp only[cond_false]
   rw[show (rqF q).1=(big q.num).1 from rfl,show (rqF q).2.1=(big q.num).2 from rfl,show (rqF q).2.2.2=(big (q.den:Int)).2 from rfl,Vn (k:=40) (by omega) h1,Av0 (k:=40) (by omega) h2]
   rfl
  ·rw[decide_eq_true (e2.2 h2),if_neg (fun h=>h2 h.2)]; rfl
 ·rw[decide_eq_true (e1.2 h1),if_neg (fun h=>h1 h.1)]; rfl
theorem Fd {q:Rat} (h:Sz 40 q):fitsQ q=(rqF q,true):=if_pos h
theorem Lw {q:Rat} (h:¬Sz 40 q):fitsQ q=(zF,false):=if_neg h
theorem AI5 {a b:RF} (ha:BrF a) (hb:BrF b):Bx [((a.1,a.2.1),(a.2.2.1,a.2.2.2)),((b.1,b.2.1),(b.2.2.1,b.2.2.2))]=some (goodQ (toQ a)&&goodQ (toQ b)):=by
 rw[OA (by simp) (by intro x hx; simp at hx; rcases hx with rfl | rfl; exact ha; exact hb)]
 simp[toQ]
section
variable {p q:Rat} (hp:Sz 40 p) (hq:Sz 40 q)
include hp hq
theorem Ao0:Bx [(((rqF p).1,(rqF p).2.1),((rqF p).2.2.1,(rqF p).2.2.2)),(((rqF q).1,(rqF q).2.1),((rqF q).2.2.1,(rqF q).2.2.2))]=some true:=by
 rw[AI5 (M1 (k:=40) (by omega) hp) (M1 (k:=40) (by omega) hq),Y7 hp,Y7 hq]; rfl
theorem AK1:Cy (rqF p) (rqF q)=some (fitsQ (p + q)):=by
 unfold Cy
 rw[Ao0 hp hq]
 simp only[obs,nT,cF,peta,Gu (k:=40) (by omega) hp hq,F7]
end
section
variable {a b:RF} (ha:BrF a) (hb:BrF b) (h:(goodQ (toQ a)&&goodQ (toQ b))=false)
include ha hb h
theorem NU:Cy a b=some (zF,false):=by unfold Cy; rw[AI5 ha hb,h]; rfl
end
def ratOfV (n d:Int):RF×Bool:=if d=0∨¬n.natAbs≤4611686018427387904∨¬d.natAbs≤4611686018427387904 then (zF,false) else (rqF (Rat.divInt n d),true)
theorem B4:B 4=18446744073709551616:=rfl
theorem AO3 (n d:Int):Gt n d=some (ratOfV n d):=by
 unfold Gt ratOfV
 by_cases h0:d=0
 ·rw[if_pos (.inl h0),h0]; rfl
 ·rw[show (d==0)=false from beq_eq_false_iff_ne.2 h0]
  simp only[cond_false,OT,Option.bind_some]
  by_cases h1:n.natAbs≤4611686018427387904
  ·rw[show (decide (-4611686018427387904≤n)&&decide (n≤4611686018427387904))=true by simp; omega]
   by_cases h2:d.natAbs≤4611686018427387904
   ·rw[show (decide (-4611686018427387904≤d)&&decide (d≤4611686018427387904))=true by simp; omega,if_neg (by omega)]
    simp only[Bool.not_true,cond_false,Na (n:=n) (by omega) (by omega),Na (n:=d) (by omega) (by omega),Option.bind_some,peta,MP (k:=4) (by omega) (x:=n) (y:=d) (by rw[B4]; omega) (by rw[B4]; omega) h0]
   ·rw[show (decide (-4611686018427387904≤d)&&decide (d≤4611686018427387904))=false by
     rw[Bool.and_eq_false_iff]; simp only[decide_eq_false_iff_not]; omega,if_pos (.inr (.inr h2))]
    rfl
  ·rw[show (decide (-4611686018427387904≤n)&&decide (n≤4611686018427387904))=false by
    rw[Bool.and_eq_false_iff]; simp only[decide_eq_false_iff_not]; omega,if_pos (.inr (.inl h1))]
   rfl
theorem Rl (n d:Int):D7 n d=some (ratOfV n d):=by
 unfold D7 ratOfV
 simp only[Ly,Option.bind_some]
 by_cases h1:n.natAbs≤4611686018427387904
 ·rw[show (decide (-4611686018427387904≤n)&&decide (n≤4611686018427387904))=true by simp; omega]
  by_cases h2:d.natAbs≤4611686018427387904
  ·rw[show (decide (-4611686018427387904≤d)&&decide (d≤4611686018427387904))=true by simp; omega]
   by_cases h0:d=0
   ·rw[if_pos (.inl h0),h0]; rfl
   ·rw[show (d==0)=false from beq_eq_false_iff_ne.2 h0,if_neg (by omega)]
    simp only[Bool.not_true,cond_false,Rp (n:=n) (by omega) (by omega),Rp (n:=d) (by omega) (by omega),Option.bind_some,peta,Ky (k:=4) (by omega) (x:=n) (y:=d) (by rw[B4]; omega) (by rw[B4]; omega) h0]
  ·rw[show (decide (-4611686018427387904≤d)&&decide (d≤4611686018427387904))=false by
    rw[Bool.and_eq_false_iff]; simp only[decide_eq_false_iff_not]; omega,if_pos (.inr (.inr h2))]
   rfl
 ·rw[show (decide (-4611686018427387904≤n)&&decide (n≤4611686018427387904))=false by
   rw[Bool.and_eq_false_iff]; simp only[decide_eq_false_iff_not]; omega,if_pos (.inr (.inl h1))]
  rfl
theorem SU {n d:Int} (h0:d≠0) (h1:n.natAbs≤4611686018427387904) (h2:d.natAbs≤4611686018427387904):ratOfV n d=(rqF (Rat.divInt n d),true):=by
 unfold ratOfV; rw[if_neg (by omega)]
theorem Uj {n d:Int} (h0:d≠0) (h1:n.natAbs≤4611686018427387904) (h2:d.natAbs≤4611686018427387904):Sz 4 (Rat.divInt n d):=Ip (by rw[B4]; omega) (by rw[B4]; omega) h0
theorem AM5 {q:Rat} {k:Nat} (h:Sz k q):((q.floor.natAbs:Nat):Int)<B k:=by
 have hd:=q.den_pos
 have hf:=PS (x:=q.num) (d:=(q.den:Int)) (by omega)
 rw[←Rat.floor_def] at hf
 have h2:(q.num.tdiv (q.den:Int)).natAbs=q.num.natAbs/q.den:=by rw[Int.natAbs_tdiv]; rfl
 rw[←hf]
 have h1:=h.1
 split
 ·rename_i hm
  have hne:q.den≠1:=by
   intro e
   rw[e] at hm
   simp at hm
  have h3:q.num.natAbs/q.den≤q.num.natAbs/2:=Nat.div_le_div_left (by omega) (by omega)
  have h4:q.num.natAbs≠0:=by
   intro e
   have:q.num=0:=by omega
   rw[this] at hm
   simp at hm
  omega
 ·have:=Nat.div_le_self q.num.natAbs q.den
  omega
theorem VQ {a:RF} (h1:a.2.1.length≤1000000) (h2:a.2.2.2.length≤1000000):A9 a a=some true:=by
 unfold A9
 rw[V5 (a:=(a.1,a.2.1)) h1,V5 (a:=(a.2.2.1,a.2.2.2)) h2]
 rfl
theorem F5 {q:Rat} {k:Nat} (hk:k≤1000000) (h:Sz k q):A9 (rqF q) (rqF q)=some true :=
 VQ (Nat.le_trans (Ah.2 h.1) hk) (Nat.le_trans (Ah.2 (natB h.2)) hk)
theorem Yw:A9 zF zF=some true:=VQ (by simp[zF]) (by simp[zF])
theorem Sv (q:Rat):A9 (fitsQ q).1 (fitsQ q).1=some true:=by
 by_cases h:Sz 40 q
 ·rw[Fd h]; exact F5 (k:=40) (by omega) h
 ·rw[Lw h]; exact Yw
end Go.Proofs.YthipdlhknbhiiaaGreat.Ev

end
section
namespace Go.Proofs.YthipdlhknbhiiaaGreat.Ev
open Go
def ShF (a:RF):Prop:=a.2.1.length≤100∧a.2.2.2.length≤100
theorem ShF.br {a:RF} (h:ShF a):BrF a:=by unfold ShF at h; unfold BrF Brief; omega
theorem ZE {q:Rat} {k:Nat} (hk:k≤100) (h:Sz k q):ShF (rqF q):=⟨Nat.le_trans (Ah.2 h.1) hk,Nat.le_trans (Ah.2 (natB h.2)) hk⟩
theorem Ak3:ShF zF:=by unfold ShF zF; simp
theorem Ak8 (q:Rat):ShF (fitsQ q).1:=by
 unfold fitsQ
 split
 ·rename_i h; exact ZE (k:=40) (by omega) h
 ·exact Ak3
theorem OY (n d:Int):ShF (ratOfV n d).1:=by
 unfold ratOfV
 split
 ·exact Ak3
 ·exact ZE (k:=4) (by omega) (Uj (by omega) (by omega) (by omega))
theorem AC8 {B':Nat} {c:List Int×Int×Int} (h:Cur B' c) (hB:B'≤900000000):∃ c' a,CO c=some (c',a)∧Cur (B' + 700) c'∧ShF a:=by
 unfold CO
 obtain ⟨c0,v0,e0,q0⟩:=Je h (by omega) 12
 simp only[e0,obs,peta]
 cases v0
 ·obtain ⟨c1,v1,e1,q1,a1,b1⟩:=AD q0 (by omega) 41
  obtain ⟨c2,v2,e2,q2,a2,b2⟩:=AD q1 (by omega) 12
  simp only[cF,e1,e2,obs,Rl,peta]
  exact ⟨_,_,rfl,q2.mono (by omega),OY _ _⟩
 ·obtain ⟨c1,x,e1,q1,l1⟩:=AA0 q0 (by omega)
  obtain ⟨c2,y,e2,q2,l2⟩:=AA0 q1 (by omega)
  simp only[cT,e1,e2,obs,peta,K9 (show Brief x.2 by unfold Brief; omega),K9 (show Brief y.2 by unfold Brief; omega)]
  have fin:∃ c' a,(some ((c2,(x.1,(x.2,y))):(List Int×Int×Int)×RF))=some (c',a)∧Cur (B' + 700) c'∧ShF a:=⟨_,_,rfl,q2.mono (by omega),l1,l2⟩
  cases hx:goodB x with
  | false=>simp only[cF]; exact fin
  | true =>
   simp only[cT]
   cases hy:goodB y with
   | false=>simp only[cF]; exact fin
   | true =>
    simp only[cT]
    obtain ⟨u,hu,rfl⟩:=Dq.1 hx
    obtain ⟨v,hv,rfl⟩:=Dq.1 hy
    have hz:=Nd v
    by_cases h0:v=0
    ·subst h0
     have:decide ((((big 0).2.length:Nat):Int)>0)=false:=by simp[big,Bi]
     rw[this]
     simp only[cF]
     exact fin
    ·rw[decide_eq_false h0] at hz
     have:decide ((((big v).2.length:Nat):Int)>0)=true:=by
      rw[beq_eq_false_iff_ne] at hz
      exact decide_eq_true (by omega)
     rw[this]
     simp only[cT,Ky (k:=40) (by omega) hu hv h0,obs]
     exact ⟨_,_,rfl,q2.mono (by omega),ZE (k:=40) (by omega) (Ip hu hv h0)⟩
end Go.Proofs.YthipdlhknbhiiaaGreat.Ev

end
section
namespace Go.Proofs.YthipdlhknbhiiaaGreat.Ev
open Go
theorem AA2 {k:Nat} (hk : 1≤k):Sz k (1:Rat):=K0 (z:=1) (We hk) hk
theorem AH3:BC (1:Int)=some (rqF 1):=K6 (by omega) (by omega)
end Go.Proofs.YthipdlhknbhiiaaGreat.Ev

end
section
namespace Go.Proofs.YthipdlhknbhiiaaGreat.Ev
open Go
def midR:Option Rat→RF ⊕ (RF×Bool)
 | none=>.inl zF
 | some s=>.inr (fitsQ s)
theorem AR6 {lo hi:Rat} {k:Nat} (h:Adj lo hi) (h1:Sz k lo) (h2:Sz k hi):Sz (k + 1) (med lo hi):=by
 obtain ⟨e1,e2⟩:=Pj h
 unfold Sz
 rw[e1,e2]
 refine ⟨addB h1.1 h2.1,?_⟩
 have:=addB (natB h1.2) (natB h2.2)
 omega
theorem Ag5 {lo hi:Rat}:(lo.den:Int) + (hi.den:Int)≠0:=by have:=lo.den_pos; omega
noncomputable abbrev XI:RF×(RF×(RF×(RF×(RF×Int))))→Option ((RF×(RF×(RF×(RF×(RF×Int))))) ⊕ (RF ⊕ (RF×Bool))):=fun (s:(RF×(RF×(RF×(RF×(RF×Int))))))=>Bn s.1 s.2.1 s.2.2.1 s.2.2.2.1 s.2.2.2.2.1 s.2.2.2.2.2
theorem AV0 {a b:Rat} (ha:Sz 40 a) (hb:Sz 40 b):∀ (n k:Nat) (lo hi:Rat),k + n=200→Adj lo hi→Sz (41 + k) lo→Sz (41 + k) hi →
  loopM XI (rqF a,(rqF b,(zF,(rqF lo,(rqF hi,(k:Int))))))=some (midR (midQ a b n lo hi)):=by
 intro n
 induction n with
 | zero =>
  intro k lo hi hk hadj s1 s2
  refine Ap (show Bn (rqF a) (rqF b) zF (rqF lo) (rqF hi) (k:Int)=_ from ?_)
  unfold Bn
  rw[decide_eq_false (by omega)]
  rfl
 | succ n ih =>
  intro k lo hi hk hadj s1 s2
  have sm:=AR6 hadj s1 s2
  obtain ⟨a1,a2⟩:=An7 hadj
  have key:∀ w:RF,Bn (rqF a) (rqF b) w (rqF lo) (rqF hi) (k:Int)=if med lo hi≤a then some (.inl (rqF a,(rqF b,(w,(rqF (med lo hi),(rqF hi,((k + 1:Nat):Int))))))) else if b≤med lo hi then some (.inl (rqF a,(rqF b,(w,(rqF lo,(rqF (med lo hi),((k + 1:Nat):Int))))))) else some (.inr (.inr (fitsQ (med lo hi)))):=by
   intro w
   unfold Bn
   rw[decide_eq_true (show (k:Int)<200 by omega)]
   simp only[cT,rq_n,rq_d,L3,Lo (k:=41 + k) (by omega) s1.1 s2.1,Lo (k:=41 + k) (by omega) (natB s1.2) (natB s2.2),obs,peta,AU7]
   rw[MP (k:=42 + k) (by omega) (upB (addB s1.1 s2.1) (by omega)) (upB (addB (natB s1.2) (natB s2.2)) (by omega)) Ag5]
   simp only[obs]
   rw[show Rat.divInt (lo.num + hi.num) ((lo.den:Int) + (hi.den:Int))=med lo hi from rfl,BS (k:=42 + k) (by omega) (ha.mono (by omega)) (sm.mono (by omega)),BS (k:=42 + k) (by omega) (sm.mono (by omega)) (hb.mono (by omega)),F7]
   simp only[obs,peta,wrap1 (show k<4611686018427387904 by omega)]
   by_cases c1:med lo hi≤a
   ·rw[if_pos c1,decide_eq_false (Rat.not_lt.2 c1)]; rfl
   ·rw[if_neg c1,decide_eq_true (Rat.not_le.1 c1)]
    by_cases c2:b≤med lo hi
    ·rw[if_pos c2,decide_eq_false (Rat.not_lt.2 c2)]; rfl
    ·rw[if_neg c2,decide_eq_true (Rat.not_le.1 c2)]; rfl
  have key:=key zF
  unfold midQ
  by_cases c1:med lo hi≤a
  ·rw[if_pos c1] at key ⊢
   refine (AX (f:=XI) (s:=(rqF a,(rqF b,(zF,(rqF lo,(rqF hi,(k:Int))))))) key).trans ?_
   exact ih (k + 1) (med lo hi) hi (by omega) a2 (sm.mono (show 41 + k + 1≤41 + (k + 1) by omega)) (s2.mono (show 41 + k≤41 + (k + 1) by omega))
  ·rw[if_neg c1] at key ⊢
   by_cases c2:b≤med lo hi
   ·rw[if_pos c2] at key ⊢
    refine (AX (f:=XI) (s:=(rqF a,(rqF b,(zF,(rqF lo,(rqF hi,(k:Int))))))) key).trans ?_
    exact ih (k + 1) lo (med lo hi) (by omega) a1 (s1.mono (show 41 + k≤41 + (k + 1) by omega)) (sm.mono (show 41 + k + 1≤41 + (k + 1) by omega))
   ·rw[if_neg c2] at key ⊢
    exact Ap (f:=XI) (s:=(rqF a,(rqF b,(zF,(rqF lo,(rqF hi,(k:Int))))))) key
def betV (p q:Rat):RF×Bool:=if p<q then (match betweenQ p q with | some s=>fitsQ s | none=>(zF,false)) else (zF,false)
theorem midV (o:Option Rat):(Sum.elim (fun _=>some (zF,false)) (fun (x10:RF×Bool)=>some (x10.1,x10.2)) (midR o))=some (match o with | some s=>fitsQ s | none=>(zF,false)):=by
 cases o with
 | none=>rfl
 | some s=>show some ((fitsQ s).1,(fitsQ s).2)=some (fitsQ s); rw[peta]
section
variable {p q:Rat} (hp:Sz 40 p) (hq:Sz 40 q)
include hp hq
theorem WR:Ce (rqF p) (rqF q)=some (betV p q):=by
 have hf:=AM5 hp
 have z1:=K0 hf (show 1≤40 by omega)
 have z2:=Py z1 (AA2 (k:=0 + 1) (by omega))
 have z2:Sz 41 ((p.floor:Rat) + 1):=by
  have h:=addB (k:=40) hf (We (by omega))
  rw[show ((p.floor:Int):Rat) + 1=((p.floor + 1:Int):Rat) by rw[Rat.intCast_add]; rfl]
  exact K0 h (by omega)
 unfold Ce betV
 rw[Ao0 hp hq]
 simp only[obs,nT,cF,peta,BS (k:=40) (by omega) hp hq]
 by_cases c0:p<q
 ·rw[if_pos c0,decide_eq_true c0]
  simp only[nT,cF,Yp (k:=40) (by omega) (by omega) hp,obs,peta,AM3 (k:=40) (by omega) hf,AH3,Gu (k:=40) (by omega) z1 (AA2 (by omega)),BS (k:=41) (by omega) z2 (hq.mono (by omega))]
  unfold betweenQ
  by_cases c1:((p.floor:Int):Rat) + 1<q
  ·rw[decide_eq_true c1,if_pos c1]
   simp only[cT,F7,obs,peta]
  ·rw[decide_eq_false c1,if_neg c1]
   simp only[cF]
   have h:=AV0 hp hq 200 0 _ _ (by omega) (VH p) (z1.mono (by omega)) (z2.mono (by omega))
   have h':loopM (fun (s:(RF×(RF×(RF×(RF×(RF×Int))))))=>Bn s.1 s.2.1 s.2.2.1 s.2.2.2.1 s.2.2.2.2.1 s.2.2.2.2.2) (rqF p,(rqF q,((false,(([]:List Int),(false,([]:List Int)))),(rqF (p.floor:Rat),(rqF ((p.floor:Rat) + 1),(0:Int))))))=_:=h
   rw[h',obs]
   exact midV _
 ·rw[if_neg c0,decide_eq_false c0]; rfl
end
theorem AO8 {p q:Rat} (h:(betV p q).2=true):∃ s,Sz 40 s∧betV p q=(rqF s,true)∧p<s∧s<q∧∀ z:Rat,p<z→z<q→s.den≤z.den:=by
 unfold betV at h ⊢
 split at h
 ·rename_i hlt
  rw[if_pos hlt]
  cases hm:betweenQ p q with
  | none=>rw[hm] at h; cases h
  | some s =>
   rw[hm] at h
   simp only at h ⊢
   by_cases hs:Sz 40 s
   ·obtain ⟨f1,f2,f3⟩:=Ug hlt hm
    exact ⟨s,hs,Fd hs,f1,f2,f3⟩
   ·rw[Lw hs] at h; cases h
 ·cases h
end Go.Proofs.YthipdlhknbhiiaaGreat.Ev

end
section
namespace Go.Proofs.YthipdlhknbhiiaaGreat.Ev
open Go
abbrev Q2:=Rat×Rat
def crd (b:Bool) (p:Q2):Rat:=if b then p.2 else p.1
def ins (b high:Bool) (s:Rat) (p:Q2):Bool:=if high then decide (s≤crd b p) else decide (crd b p≤s)
def mixQ (a c:Q2) (t:Rat):Q2:=(a.1 + t*(c.1-a.1),a.2 + t*(c.2-a.2))
def cutQ (b:Bool) (s:Rat) (a c:Q2):Q2:=mixQ a c ((s-crd b a)/(crd b c-crd b a))
def stepQ (b high:Bool) (s:Rat) (a c:Q2):List Q2:=(if ins b high s a=ins b high s c then [] else [cutQ b s a c])++(if ins b high s c then [c] else [])
def clipFrom (b high:Bool) (s:Rat):Q2→List Q2→List Q2
 | _,[]=>[]
 | a,c::l=>stepQ b high s a c++clipFrom b high s c l
def lastQ (l:List Q2):Q2:=l.getLast?.getD (0,0)
def clipQ (b high:Bool) (s:Rat) (l:List Q2):List Q2:=clipFrom b high s (lastQ l) l
def crs (p q:Q2):Rat:=p.1*q.2-q.1*p.2
def chn (f:Q2→Q2→Rat):Q2→List Q2→Rat
 | _,[]=>0
 | a,c::l=>f a c + chn f c l
def area2 (l:List Q2):Rat:=chn crs (lastQ l) l
theorem XA {b:Bool} {s:Rat} {a c:Q2} (h:crd b c≠crd b a):crd b (cutQ b s a c)=s:=by
 have hd:crd b c-crd b a≠0:=fun e=>h (by grind)
 have hm:=Rat.div_mul_cancel hd (a:=s-crd b a)
 unfold cutQ mixQ
 cases b with
 | true =>
  unfold crd at *
  simp at *
  rw[hm]; grind
 | false =>
  unfold crd at *
  simp at *
  rw[hm]; grind
theorem GL {b high:Bool} {s:Rat} {a c:Q2} (h:ins b high s a≠ins b high s c):crd b c≠crd b a:=by
 intro e
 apply h
 unfold ins
 rw[e]
theorem tri (x y:Rat):x<y∨x=y∨y<x:=by
 rcases Rat.le_total (a:=x) (b:=y) with h | h
 ·by_cases e:x=y
  ·exact .inr (.inl e)
  ·exact .inl (Rat.lt_of_le_of_ne h e)
 ·by_cases e:x=y
  ·exact .inr (.inl e)
  ·exact .inr (.inr (Rat.lt_of_le_of_ne h (fun e'=>e e'.symm)))
theorem Xj {b:Bool} {s:Rat} {p:Q2}:ins b false s p=decide (crd b p≤s):=rfl
theorem Ag0 {b:Bool} {s:Rat} {p:Q2}:ins b true s p=decide (s≤crd b p):=rfl
def endQ:Q2→List Q2→Q2
 | a,[]=>a
 | _,c::l=>endQ c l
theorem MG (f:Q2→Q2→Rat):∀ (a:Q2) (l m:List Q2),chn f a (l++m)=chn f a l + chn f (endQ a l) m
 | a,[],m=>by simp[chn,endQ,Rat.zero_add]
 | a,c::l,m=>by
  rw[List.cons_append,chn,chn,MG f c l m,endQ,Rat.add_assoc]
theorem Qy:∀ (a:Q2) (l m:List Q2),endQ a (l++m)=endQ (endQ a l) m
 | a,[],m=>rfl
 | a,c::l,m=>by rw[List.cons_append,endQ,Qy c l m,endQ]
theorem Lq (a:Q2):∀ (l:List Q2),l≠[]→endQ a l=lastQ l
 | [],h=>absurd rfl h
 | [c],_=>rfl
 | c::d::l,_=>by
  rw[endQ,Lq c (d::l) (by simp)]
  unfold lastQ
  rw[List.getLast?_cons_cons]
def At (b high:Bool) (s:Rat) (a q:Q2):Prop:=if ins b high s a=true then q=a else crd b q=s
theorem AN1 (b high:Bool) (s:Rat) (a:Q2):∃ q,At b high s a q:=by
 unfold At
 by_cases h:ins b high s a=true
 ·exact ⟨a,by rw[if_pos h]⟩
 ·refine ⟨(s,s),?_⟩
  rw[if_neg h]
  unfold crd
  cases b <;> rfl
theorem OO (l:List Q2):endQ (lastQ l) l=lastQ l:=by
 cases l with
 | nil=>rfl
 | cons c l=>exact Lq _ _ (by simp)
theorem Aj7 (f g h:Q2→Q2→Rat) (e:∀ a c,f a c + g a c=h a c):∀ (a:Q2) (l:List Q2),chn f a l + chn g a l=chn h a l
 | a,[]=>by simp only[chn]; grind
 | a,c::l=>by
  have h1:=Aj7 f g h e c l
  have h2:=e a c
  simp only[chn]
  grind
theorem AL6 {b high:Bool} {s:Rat} {a c:Q2}:∀ p∈stepQ b high s a c,ins b high s p=true:=by
 intro p hp
 unfold stepQ at hp
 rcases List.mem_append.1 hp with hp | hp
 ·by_cases e:ins b high s a=ins b high s c
  ·rw[if_pos e] at hp; cases hp
  ·rw[if_neg e] at hp
   rw[List.mem_singleton.1 hp]
   have:=XA (s:=s) (GL e)
   unfold ins
   rw[this]
   cases high <;> simp[Rat.le_refl]
 ·by_cases e:ins b high s c=true
  ·rw[if_pos e] at hp
   rw[List.mem_singleton.1 hp]
   exact e
  ·rw[if_neg e] at hp; cases hp
theorem C3 {b high:Bool} {s:Rat}:∀ (l:List Q2) (a:Q2),∀ p∈clipFrom b high s a l,ins b high s p=true
 | [],a,p,h=>by cases h
 | c::l,a,p,h=>by
  rw[clipFrom] at h
  rcases List.mem_append.1 h with h | h
  ·exact AL6 p h
  ·exact C3 l c p h
theorem PJ {b high:Bool} {s:Rat}:∀ (l:List Q2) (a:Q2),ins b high s a=true→(∀ p∈l,ins b high s p=true)→clipFrom b high s a l=l
 | [],a,_,_=>rfl
 | c::l,a,ha,hl=>by
  have hc:=hl c (by simp)
  rw[clipFrom,PJ l c hc (fun p hp=>hl p (List.mem_cons_of_mem _ hp))]
  unfold stepQ
  rw[ha,hc,if_pos rfl,if_pos rfl]
  rfl
theorem Lh {l:List Q2} (h:l≠[]):lastQ l∈l:=by
 unfold lastQ
 cases hl:l.getLast? with
 | none=>exact absurd (List.getLast?_eq_none_iff.1 hl) h
 | some x=>exact List.mem_of_getLast? hl
theorem NE {b high:Bool} {s:Rat} {l:List Q2} (h:∀ p∈l,ins b high s p=true):clipQ b high s l=l:=by
 cases hl:l with
 | nil=>rfl
 | cons c m =>
  rw[←hl]
  exact PJ l _ (h _ (Lh (by rw[hl]; simp))) h
theorem AJ9 (f:Q2→Q2→Rat) (a:Q2) (l:List Q2) (c:Q2):chn f a (l ++ [c])=chn f a l + f (endQ a l) c:=by
 rw[MG]; simp only[chn]; grind
end Go.Proofs.YthipdlhknbhiiaaGreat.Ev

end
section
namespace Go.Proofs.YthipdlhknbhiiaaGreat.Ev
open Go
abbrev SF:=Bool×(List Int×(Bool×(List Int×(Bool×(List Int×(Bool×List Int))))))
abbrev RQ:=(Bool×List Int)×(Bool×List Int)
abbrev RPt:=RQ×RQ
theorem sEl {α β γ:Type} (f : α→γ) (g : β→γ) (x : α):Sum.elim f g (.inl x)=f x:=(rfl)
theorem sEr {α β γ:Type} (f : α→γ) (g : β→γ) (x : β):Sum.elim f g (.inr x)=g x:=(rfl)
def fl (x:RPt):SF:=(x.1.1.1,(x.1.1.2,(x.1.2.1,(x.1.2.2,(x.2.1.1,(x.2.1.2,x.2.2))))))
def un (s:SF):RPt:=(((s.1,s.2.1),(s.2.2.1,s.2.2.2.1)),((s.2.2.2.2.1,s.2.2.2.2.2.1),s.2.2.2.2.2.2))
def fx (x:RPt):RF:=(x.1.1.1,(x.1.1.2,x.1.2))
def fy (x:RPt):RF:=(x.2.1.1,(x.2.1.2,x.2.2))
theorem fl_e (x:RPt):(x.1.1.1,(x.1.1.2,(x.1.2.1,(x.1.2.2,(x.2.1.1,(x.2.1.2,x.2.2))))))=fl x:=(rfl)
theorem un_e (s:SF):(((s.1,s.2.1),(s.2.2.1,s.2.2.2.1)),((s.2.2.2.2.1,s.2.2.2.2.2.1),s.2.2.2.2.2.2))=un s:=(rfl)
theorem fx_e (x:RPt):(x.1.1.1,(x.1.1.2,x.1.2))=fx x:=(rfl)
theorem fy_e (x:RPt):(x.2.1.1,(x.2.1.2,x.2.2))=fy x:=(rfl)
theorem MZ (x:RPt):un (fl x)=x:=(rfl)
theorem fl_x (x:RPt):((fl x).1,((fl x).2.1,((fl x).2.2.1,(fl x).2.2.2.1)))=fx x:=(rfl)
theorem fl_y (x:RPt):(fl x).2.2.2.2=fy x:=(rfl)
def rp (p:Q2):RPt:=(rq p.1,rq p.2)
theorem F1 (p:Q2):fx (rp p)=rqF p.1:=(rfl)
theorem F2 (p:Q2):fy (rp p)=rqF p.2:=(rfl)
def shQ (n:Nat) (a:RF):Bool:=decide (a.2.1.length≤n)&&decide (a.2.2.2.length≤n)
def goodP (x:RPt):Bool:=(goodQ x.1&&goodQ x.2)&&(shQ 8 (fx x)&&shQ 8 (fy x))
def BrP (x:RPt):Prop:=BrF (fx x)∧BrF (fy x)
def SzP (k:Nat) (p:Q2):Prop:=Sz k p.1∧Sz k p.2
theorem SzP.mono {k m:Nat} {p:Q2} (h:SzP k p) (hkm:k≤m):SzP m p:=⟨h.1.mono hkm,h.2.mono hkm⟩
theorem QC {q:Rat} {n:Nat} (hn:n≤100):shQ n (rqF q)=decide (Sz n q):=by
 unfold shQ
 rw[←Bool.decide_and]
 refine decide_eq_decide.2 ?_
 unfold Sz
 have h1:=@Ah q.num.natAbs n
 have h2:=@Ah q.den n
 have e2:(rqF q).2.2.2=lim q.den:=by show (big (q.den:Int)).2=_; rw[Fl]
 rw[e2,←h2,←h1]
 rfl
theorem Ab9 (x:RPt):toQ (fx x)=x.1:=(rfl)
theorem Ah7 (x:RPt):toQ (fy x)=x.2:=(rfl)
theorem OZ {x:RPt}:goodP x=true↔∃ p,SzP 8 p∧x=rp p:=by
 constructor
 ·intro h
  unfold goodP at h
  simp only[Bool.and_eq_true] at h
  obtain ⟨⟨h1,h2⟩,h3,h4⟩:=h
  obtain ⟨a,ha,e1⟩:=Ie.1 h1
  obtain ⟨c,hc,e2⟩:=Ie.1 h2
  have exy:x=(rq a,rq c):=by rw[←e1,←e2]
  have ex:fx x=rqF a:=by rw[exy]; rfl
  have ey:fy x=rqF c:=by rw[exy]; rfl
  rw[ex,QC (by omega)] at h3
  rw[ey,QC (by omega)] at h4
  exact ⟨(a,c),⟨of_decide_eq_true h3,of_decide_eq_true h4⟩,by unfold rp; rw[←e1,←e2]⟩
 ·rintro ⟨p,hp,rfl⟩
  unfold goodP
  rw[F1,F2,QC (by omega),QC (by omega),decide_eq_true hp.1,decide_eq_true hp.2,Bool.and_true,Bool.and_true,Bool.and_eq_true]
  exact ⟨Ka (hp.1.mono (by omega)),Ka (hp.2.mono (by omega))⟩
def goodR (l:List RPt):Bool:=decide (l.length≤40)&&l.all goodP
def SzR (ps:List Q2):Prop:=ps.length≤40∧∀ p∈ps,SzP 8 p
theorem At0 {l:List RPt}:goodR l=true↔∃ ps:List Q2,SzR ps∧l=ps.map rp:=by
 unfold goodR
 rw[Bool.and_eq_true,decide_eq_true_eq]
 constructor
 ·rintro ⟨h1,h2⟩
  have key:∀ l:List RPt,l.all goodP=true→∃ ps:List Q2,(∀ p∈ps,SzP 8 p)∧l=ps.map rp:=by
   intro l
   induction l with
   | nil=>intro _; exact ⟨[],by simp,rfl⟩
   | cons x l ih =>
    intro h
    rw[List.all_cons,Bool.and_eq_true] at h
    obtain ⟨p,hp,e⟩:=OZ.1 h.1
    obtain ⟨ps,hps,e2⟩:=ih h.2
    refine ⟨p::ps,?_,by rw[List.map_cons,←e,←e2]⟩
    intro q hq
    rcases List.mem_cons.1 hq with rfl | hq
    ·exact hp
    ·exact hps q hq
  obtain ⟨ps,hps,e⟩:=key l h2
  exact ⟨ps,⟨by rw[e,List.length_map] at h1; exact h1,hps⟩,e⟩
 ·rintro ⟨ps,⟨h1,h2⟩,rfl⟩
  refine ⟨by rw[List.length_map]; exact h1,?_⟩
  rw[List.all_eq_true]
  intro x hx
  obtain ⟨p,hp,rfl⟩:=List.mem_map.1 hx
  exact OZ.2 ⟨p,h2 p hp,rfl⟩
theorem I6 (a:RF) (n:Nat):A4 a (n:Int)=some (shQ n a):=by
 unfold A4 shQ
 by_cases h:a.2.1.length≤n
 ·rw[decide_eq_true (show ((a.2.1.length:Nat):Int)≤(n:Int) by omega),cT,decide_eq_true h,Bool.true_and]
  congr 1
  exact decide_eq_decide.2 (by omega)
 ·rw[decide_eq_false (show ¬((a.2.1.length:Nat):Int)≤(n:Int) by omega),cF,decide_eq_false h,Bool.false_and]
theorem Am6 {x:RPt} (h:BrP x):Dl (fl x) 8=some (goodP x):=by
 have hl:Bx [x.1,x.2]=some (goodQ x.1&&goodQ x.2):=by
  rw[OA (by simp) (by
   intro a ha
   simp at ha
   rcases ha with rfl | rfl
   ·exact h.1
   ·exact h.2)]
  simp
 have e:((((fl x).1,(fl x).2.1),((fl x).2.2.1,(fl x).2.2.2.1)):RQ)=x.1:=rfl
 have e':((((fl x).2.2.2.2.1,(fl x).2.2.2.2.2.1),(fl x).2.2.2.2.2.2):RQ)=x.2:=rfl
 unfold Dl goodP
 simp only[peta]
 rw[e,e',hl,obs]
 have s1:=I6 (fx x) 8
 have s2:=I6 (fy x) 8
 rw[show ((8:Nat):Int)=8 from rfl] at s1 s2
 cases hg:goodQ x.1&&goodQ x.2 with
 | false=>rfl
 | true =>
  rw[cT]
  try simp only[fl_x,fl_y]
  rw[s1,obs,Bool.true_and]
  cases shQ 8 (fx x) with
  | false=>rfl
  | true=>rw[cT,s2,obs,Bool.true_and]
theorem CV {l:List RPt} (hl:l.length≤100000) (hb:∀ x∈l,BrP x):CE l=some (goodR l):=by
 have hc:Aq l=some (!(l.all goodP)):=by
  unfold Aq AP
  have key:=GV (body:=fun (s:((List RPt)×(Int×Int)))=>Al s.1 s.2.1 s.2.2) (l:=l) (st:=fun k=>(l,(l.length:Int),(k:Int))) (p:=goodP) (fin:=.inl ()) (bad:=fun k=>.inr (k:Int))
   (fun k a hk hp=>by
    have:=getL hk
    show Al l (l.length:Int) (k:Int)=_
    unfold Al Da
    simp only[Ew hk,cT,Ak,hk,obs,peta]
    rw[fl_e,Am6 (hb a (List.mem_of_getElem? hk)),obs,hp,obs,nT,cF,wrap1 (by omega)])
   (fun k a hk hp=>by
    show Al l (l.length:Int) (k:Int)=_
    unfold Al Da
    simp only[Ew hk,cT,Ak,hk,obs,peta]
    rw[fl_e,Am6 (hb a (List.mem_of_getElem? hk)),obs,hp,obs,nF,cT])
   (by
    show Al l (l.length:Int) (l.length:Int)=_
    unfold Al; simp only[Lc,cF])
  rw[show ((0:Nat):Int)=0 from rfl] at key
  cases hall:l.all goodP with
  | true=>rw[key.1 hall]; rfl
  | false =>
   obtain ⟨k,_,h⟩:=key.2 hall
   rw[h]
   simp only[Option.bind_some,Sum.elim_inr]
   have:decide ((k:Int)≥0)=true:=by simp
   rw[this]; rfl
 unfold CE goodR
 by_cases h:l.length≤40
 ·rw[decide_eq_true (by omega),cT,hc,obs,decide_eq_true h,Bool.not_not,Bool.true_and]
 ·rw[decide_eq_false (by omega),cF,decide_eq_false h,Bool.false_and]
theorem K8 {a:RF} (h:BrF a):Ei a=some (goodQ (toQ a)&&shQ 8 a):=by
 unfold Ei shQ
 simp only[rq_e,peta]
 by_cases h1:a.2.1.length≤8
 ·rw[decide_eq_true (by omega),cT,decide_eq_true h1,Bool.true_and]
  by_cases h2:a.2.2.2.length≤8
  ·rw[decide_eq_true (by omega),cT,decide_eq_true h2,Bool.and_true,Wl h,obs]
  ·rw[decide_eq_false (by omega),cF,decide_eq_false h2,Bool.and_false]
 ·rw[decide_eq_false (by omega),cF,decide_eq_false h1,Bool.false_and,Bool.and_false]
theorem Rx {a:RF} (h:BrF a):Dh a=some (goodQ (toQ a)&&shQ 2 a):=by
 unfold Dh shQ
 simp only[rq_e,peta]
 by_cases h1:a.2.1.length≤2
 ·rw[decide_eq_true (by omega),cT,decide_eq_true h1,Bool.true_and]
  by_cases h2:a.2.2.2.length≤2
  ·rw[decide_eq_true (by omega),cT,decide_eq_true h2,Bool.and_true,Wl h,obs]
  ·rw[decide_eq_false (by omega),cF,decide_eq_false h2,Bool.and_false]
 ·rw[decide_eq_false (by omega),cF,decide_eq_false h1,Bool.false_and,Bool.and_false]
theorem DT {l:List RPt} (hl:l.length≤100000) (hb:∀ x∈l,BrP x):Dd l=some (goodR l):=by
 have key:=GV (body:=fun (s:((List RPt)×((List RPt)×(Int×Int))))=>Bz s.1 s.2.1 s.2.2.1 s.2.2.2) (l:=l) (st:=fun k=>(l,l,(l.length:Int),(k:Int))) (p:=goodP) (fin:=.inl l) (bad:=fun k=>.inr false)
  (fun k a hk hp=>by
   have:=getL hk
   have hba:=hb a (List.mem_of_getElem? hk)
   unfold goodP at hp
   simp only[Bool.and_eq_true] at hp
   show Bz l l (l.length:Int) (k:Int)=_
   unfold Bz
   simp only[Ew hk,cT,Ak,hk,obs,peta]
   rw[fx_e,fy_e,K8 hba.1,obs,Ab9,hp.1.1,hp.2.1,Bool.and_self,nT,cF,K8 hba.2,obs,Ah7,hp.1.2,hp.2.2,Bool.and_self,nT,cF,wrap1 (by omega)])
  (fun k a hk hp=>by
   have hba:=hb a (List.mem_of_getElem? hk)
   show Bz l l (l.length:Int) (k:Int)=_
   unfold Bz
   simp only[Ew hk,cT,Ak,hk,obs,peta]
   rw[fx_e,fy_e,K8 hba.1,obs,Ab9]
   cases h1:goodQ a.1&&shQ 8 (fx a) with
   | false=>rw[nF,cT]
   | true =>
    have h2:(goodQ a.2&&shQ 8 (fy a))=false:=by
     unfold goodP at hp
     rw[Bool.and_eq_true] at h1
     rw[h1.1,h1.2,Bool.true_and,Bool.true_and] at hp
     exact hp
    rw[nT,cF,K8 hba.2,obs,Ah7,h2,nF,cT])
  (by
   show Bz l l (l.length:Int) (l.length:Int)=_
   unfold Bz; simp only[Lc,cF])
 rw[show ((0:Nat):Int)=0 from rfl] at key
 unfold Dd goodR
 cases hall:l.all goodP with
 | true =>
  rw[key.1 hall,obs,sEl,Bool.and_true]
  congr 1
  exact decide_eq_decide.2 (by omega)
 | false =>
  obtain ⟨k,_,h⟩:=key.2 hall
  rw[h,obs,sEr,Bool.and_false]
end Go.Proofs.YthipdlhknbhiiaaGreat.Ev

end
section
namespace Go.Proofs.YthipdlhknbhiiaaGreat.Ev
open Go
theorem appP {l:List RPt} {x:RPt} (h:l.length≤100000):appL 128 8 l [x]=some (l ++ [x]):=Rq (by simp[maxBytes]; omega) (by simp[maxBytes]; omega)
theorem Rn (p:Q2) (b:Bool):AR (fl (rp p)) b=some (rqF (crd b p)):=by cases b <;> rfl
theorem WJ (p:Q2) (b:Bool):Di (fl (rp p)) b=some (rqF (crd b p)):=by cases b <;> rfl
theorem C6 {k:Nat} {p:Q2} (h:SzP k p) (b:Bool):Sz k (crd b p):=by cases b; exact h.1; exact h.2
theorem Ax6:BC (1:Int)=some (rqF 1):=by rw[K6 (by omega) (by omega)]; rfl
section
variable {a c:Q2} {t:Rat} (ha:SzP 8 a) (hc:SzP 8 c) (ht:Sz 34 t)
include ha hc ht
end
section
variable {a c:Q2} {s:Rat} {b:Bool} (ha:SzP 8 a) (hc:SzP 8 c) (hs:Sz 8 s) (hne:crd b c≠crd b a)
include ha hc hs hne
end
theorem Ak2 {k n:Nat} (hk:k<n) (hn:n≤100000):Int.tmod (IntKind.wrap .i64 (IntKind.wrap .i64 ((k:Int) + (n:Int))-1)) (n:Int)=(((k + n-1)%n:Nat):Int):=by
 rw[wrapI (n:=(k:Int) + (n:Int)) (by omega) (by omega),wrapI (by omega) (by omega),Int.tmod_eq_emod_of_nonneg (by omega)]
 rw[show (k:Int) + (n:Int)-1=((k + n-1:Nat):Int) by omega]
 rfl
theorem Wg {k n:Nat} (hk:k<n):(k + 1 + n-1)%n=k:=by
 rw[show k + 1 + n-1=k + n by omega,Nat.add_mod_right,Nat.mod_eq_of_lt hk]
theorem Fm {ps:List Q2} {k:Nat} {p:Q2} (h:ps[k]? = some p):getI (ps.map rp) (k:Int)=some (rp p):=by
 rw[Ak,List.getElem?_map,h]; rfl
theorem Sf (b high:Bool) (s:Rat) (a c:Q2):(stepQ b high s a c).length≤2:=by
 unfold stepQ
 rw[List.length_append]
 split <;> split <;> simp
section
variable {ps:List Q2} {s:Rat} (hps:SzR ps) (hs:Sz 8 s) (b high:Bool)
include hps hs
end
end Go.Proofs.YthipdlhknbhiiaaGreat.Ev

end
section
namespace Go.Proofs.YthipdlhknbhiiaaGreat.Ev
open Go
theorem OP {p q:Q2} (h:rp p=rp q):p=q:=by
 unfold rp at h
 have h1:=AJ2 (congrArg Prod.fst h)
 have h2:=AJ2 (congrArg Prod.snd h)
 exact Prod.ext h1 h2
theorem Yh (p:Q2):goodP (rp p)=true↔SzP 8 p:=by
 rw[OZ]
 constructor
 ·rintro ⟨q,hq,e⟩
  rw[OP e]; exact hq
 ·intro h; exact ⟨p,h,rfl⟩
theorem El {m:List Q2}:goodR (m.map rp)=true↔SzR m:=by
 unfold goodR SzR
 rw[Bool.and_eq_true,decide_eq_true_eq,List.length_map,List.all_eq_true]
 constructor
 ·rintro ⟨h1,h2⟩
  exact ⟨h1,fun p hp=>(Yh p).1 (h2 _ (List.mem_map_of_mem hp))⟩
 ·rintro ⟨h1,h2⟩
  refine ⟨h1,fun x hx=>?_⟩
  obtain ⟨p,hp,rfl⟩:=List.mem_map.1 hx
  exact (Yh p).2 (h2 p hp)
theorem Ns {p:Q2} {k:Nat} (hk:k≤1000000) (h:SzP k p):BrP (rp p):=⟨M1 hk h.1,M1 hk h.2⟩
theorem RK {m:List Q2} {k:Nat} (hk:k≤1000000) (h:∀ p∈m,SzP k p):∀ x∈m.map rp,BrP x:=by
 intro x hx
 obtain ⟨p,hp,rfl⟩:=List.mem_map.1 hx
 exact Ns hk (h p hp)
theorem Vf {q:Rat} {k:Nat} (hk:k≤1000000) (h:Sz k q):EV (rqF q)=some (rqF q):=by
 unfold EV
 rw[show (rqF q).1=(big q.num).1 from rfl,show (rqF q).2.1=(big q.num).2 from rfl,show (rqF q).2.2.2=(big (q.den:Int)).2 from rfl,XM hk h.1,Ak9 hk h.2]
 rfl
theorem AF2 {p:Q2} (h:SzP 8 p):Gy (fl (rp p))=some (fl (rp p)):=by
 unfold Gy
 simp only[rq_e,peta,fl_x,fl_y,F1,F2]
 rw[Vf (by omega) h.1,obs,Vf (by omega) h.2,obs]
 rfl
theorem Ax2 {m:List Q2} (h:SzR m):FF (m.map rp)=some (m.map rp):=by
 have h40:=h.1
 obtain ⟨h1,h2⟩:=H7 (l:=m) (body:=fun (s:((List RPt)×((List RPt)×(Int×Int))))=>B7 s.1 s.2.1 s.2.2.1 s.2.2.2)
  (st:=fun k (b:List Q2)=>(b.map rp,(m.map rp,((m.length:Int),(k:Int))))) (step:=fun b p=>b ++ [p]) (fin:=fun b=>b.map rp) (I:=fun k b=>b.length=k)
  (by
   rintro k b p hk hI
   have hkl:=getL hk
   have hp:=h.2 p (List.mem_of_getElem? hk)
   refine ⟨?_,by simp[hI]⟩
   show B7 (b.map rp) (m.map rp) (m.length:Int) (k:Int)=_
   unfold B7
   rw[decide_eq_true (by omega),cT,Fm hk,obs]
   simp only[peta,fl_e]
   rw[AF2 hp,obs,un_e,MZ,appP (by simp; omega),obs,wrap1 (by omega)]
   simp)
  (by
   rintro b _
   show B7 (b.map rp) (m.map rp) (m.length:Int) (m.length:Int)=_
   unfold B7
   rw[decide_eq_false (by omega)]
   rfl) [] rfl
 have e:m.foldl (fun b p=>b ++ [p]) []=m:=by
  have:∀ (l acc:List Q2),l.foldl (fun b p=>b ++ [p]) acc=acc++l:=by
   intro l
   induction l with
   | nil=>intro acc; simp
   | cons x l ih=>intro acc; rw[List.foldl_cons,ih]; simp
  rw[this]; rfl
 rw[e] at h1
 have h1':loopM (fun (s:((List RPt)×((List RPt)×(Int×Int))))=>B7 s.1 s.2.1 s.2.2.1 s.2.2.2) ((List.nil:List RPt),(m.map rp,((m.length:Int),(0:Int))))=some (m.map rp):=h1
 unfold FF
 rw[List.length_map,h1',obs]
theorem Ar3 {p:Q2} (h:SzP 8 p):FL (fl (rp p))=some (fl (rp p),true):=by
 unfold FL
 simp only[rq_e,peta,fl_x,fl_y,F1,F2]
 rw[X6 (k:=8) (by omega) h.1,obs,X6 (k:=8) (by omega) h.2,obs,Fd (h.1.mono (by omega)),Fd (h.2.mono (by omega))]
 rfl
theorem AJ3 {m:List Q2} (h:SzR m):Hq (m.map rp)=some (m.map rp,true):=by
 have h40:=h.1
 obtain ⟨h1,h2⟩:=H7 (l:=m) (body:=fun (s:((List RPt)×((List RPt)×(Int×Int))))=>CB s.1 s.2.1 s.2.2.1 s.2.2.2)
  (st:=fun k (b:List Q2)=>(b.map rp,(m.map rp,((m.length:Int),(k:Int))))) (step:=fun b p=>b ++ [p]) (fin:=fun b=>.inl (b.map rp)) (I:=fun k b=>b.length=k)
  (by
   rintro k b p hk hI
   have hkl:=getL hk
   have hp:=h.2 p (List.mem_of_getElem? hk)
   refine ⟨?_,by simp[hI]⟩
   show CB (b.map rp) (m.map rp) (m.length:Int) (k:Int)=_
   unfold CB
   rw[decide_eq_true (by omega),cT,Fm hk,obs]
   simp only[peta,fl_e]
   rw[Ar3 hp,obs]
   simp only
   rw[nT,cF,un_e,MZ,appP (by simp; omega),obs,wrap1 (by omega)]
   simp)
  (by
   rintro b _
   show CB (b.map rp) (m.map rp) (m.length:Int) (m.length:Int)=_
   unfold CB
   rw[decide_eq_false (by omega)]
   rfl) [] rfl
 have e:m.foldl (fun b p=>b ++ [p]) []=m:=by
  have:∀ (l acc:List Q2),l.foldl (fun b p=>b ++ [p]) acc=acc++l:=by
   intro l
   induction l with
   | nil=>intro acc; simp
   | cons x l ih=>intro acc; rw[List.foldl_cons,ih]; simp
  rw[this]; rfl
 rw[e] at h1
 have h1':loopM (fun (s:((List RPt)×((List RPt)×(Int×Int))))=>CB s.1 s.2.1 s.2.2.1 s.2.2.2) ((List.nil:List RPt),(m.map rp,((m.length:Int),(0:Int))))=some (.inl (m.map rp)):=h1
 unfold Hq
 rw[List.length_map,h1',obs,sEl]
def outR (m:List Q2):List RPt×Bool:=if goodR (m.map rp)=true then (m.map rp,true) else ([],false)
theorem UP {m:List Q2} {k:Nat} (hk:k≤1000000) (hl:m.length≤100000) (h:∀ p∈m,SzP k p):CG (m.map rp)=some (outR m):=by
 unfold CG outR
 rw[CV (by simp; omega) (RK hk h),obs]
 by_cases hg:goodR (m.map rp)=true
 ·rw[if_pos hg,hg,nT,cF,Ax2 (El.1 hg),obs]
 ·rw[if_neg hg,Bool.eq_false_iff.2 hg,nF,cT]
theorem Au3 {m:List Q2} {k:Nat} (hk:k≤1000000) (hl:m.length≤100000) (h:∀ p∈m,SzP k p):FI (m.map rp)=some (outR m):=by
 unfold FI outR
 rw[DT (by simp; omega) (RK hk h),obs]
 by_cases hg:goodR (m.map rp)=true
 ·rw[if_pos hg,hg,nT,cF,AJ3 (El.1 hg)]
  rfl
 ·rw[if_neg hg,Bool.eq_false_iff.2 hg,nF,cT]
section
variable {ps:List Q2} {s:Rat} (hps:SzR ps) (hs:Sz 2 s) (b:Bool)
include hps hs
end
section
variable {l:List RPt} {a:RF} (hl:l.length≤1000) (hb:∀ x∈l,BrP x) (ha:BrF a) (h:(goodR l&&(goodQ (toQ a)&&shQ 2 a))=false) (b:Bool)
include hl hb ha h
end
def ringS (ps:List Q2):Rat:=match ps with | []=>0 | a::m=>chn crs a (m ++ [a])
theorem SO (ps:List Q2):ringS ps=area2 ps:=by
 cases ps with
 | nil=>rfl
 | cons a m =>
  have hl2:lastQ (a::m)=endQ a m:=by rw[←Lq a (a::m) (by simp)]; rfl
  show chn crs a (m ++ [a])=chn crs (lastQ (a::m)) (a::m)
  rw[AJ9,hl2,chn]
  grind
theorem AS6 {p q:Q2} (hp:SzP 8 p) (hq:SzP 8 q):Sz 33 (crs p q):=(Hi (J7 hp.1 hq.2) (J7 hq.1 hp.2)).mono (by omega)
section
variable {ps:List Q2} {f:Q2} (hps:SzR ps) (hf:ps[0]? = some f)
include hps hf
theorem AF1 {k:Nat} (hk:k<ps.length):∃ d,getI (ps.map rp) (Int.tmod (IntKind.wrap .i64 ((k:Int) + 1)) (ps.length:Int))=some (rp d)∧SzP 8 d∧∃ r,ps.drop (k + 1) ++ [f]=d::r∧(k + 1<ps.length→r=ps.drop (k + 2) ++ [f])∧(k + 1=ps.length→r = []):=by
 have h40:=hps.1
 rw[wrap1 (by omega),Int.tmod_eq_emod_of_nonneg (by omega)]
 by_cases h:k + 1<ps.length
 ·have e:((k + 1:Nat):Int)%(ps.length:Int)=((k + 1:Nat):Int):=Int.emod_eq_of_lt (by omega) (by omega)
  rw[e]
  have hg:ps[k + 1]? = some ps[k + 1]:=List.getElem?_eq_getElem h
  exact ⟨ps[k + 1],Fm hg,hps.2 _ (List.mem_of_getElem? hg),ps.drop (k + 2) ++ [f],by rw[List.drop_eq_getElem_cons h,List.cons_append],fun _=>rfl,fun h'=>by omega⟩
 ·have e:((k + 1:Nat):Int)%(ps.length:Int)=((0:Nat):Int):=by rw[show k + 1=ps.length by omega]; exact Int.emod_self
  rw[e]
  refine ⟨f,Fm hf,hps.2 _ (List.mem_of_getElem? hf),[],?_,fun h'=>absurd h' h,fun _=>rfl⟩
  rw[List.drop_eq_nil_of_le (by omega)]; rfl
theorem Y9:∀ (m k:Nat) (acc:Rat),k + m=ps.length→Sz (34*k + 1) acc →
  ∃ r,loopM (fun (s:(RF×(RF×((List RPt)×((List RPt)×(Int×Int))))))=>AU s.1 s.2.1 s.2.2.1 s.2.2.2.1 s.2.2.2.2.1 s.2.2.2.2.2) (zF,(rqF acc,(ps.map rp,(ps.map rp,((ps.length:Int),(k:Int))))))=some (zF,rqF r)∧Sz 1361 r ∧
   r=acc + (match ps.drop k with | []=>0 | c::_=>chn crs c (ps.drop (k + 1) ++ [f])):=by
 have h40:=hps.1
 intro m
 induction m with
 | zero =>
  intro k acc hk hacc
  refine ⟨acc,Ap ?_,hacc.mono (by omega),?_⟩
  ·show AU zF (rqF acc) (ps.map rp) (ps.map rp) (ps.length:Int) (k:Int)=_
   unfold AU
   rw[decide_eq_false (by omega)]
   rfl
  ·rw[List.drop_eq_nil_of_le (show ps.length≤k by omega)]
   simp only
   grind
 | succ m ih =>
  intro k acc hk hacc
  have hlt:k<ps.length:=by omega
  have hd:ps.drop k=ps[k]::ps.drop (k + 1):=List.drop_eq_getElem_cons hlt
  have hg:ps[k]? = some ps[k]:=List.getElem?_eq_getElem hlt
  generalize ps[k]=c at hd hg
  have sc:=hps.2 c (List.mem_of_getElem? hg)
  obtain ⟨d,hdg,sd,r,hr,hr1,hr2⟩:=AF1 hps hf hlt
  have hx:=AS6 sc sd
  have hsum:Sz (34*(k + 1) + 1) (acc + crs c d):=(Py hacc hx).mono (by omega)
  have hgo:AU zF (rqF acc) (ps.map rp) (ps.map rp) (ps.length:Int) (k:Int)=some (.inl (zF,(rqF (acc + crs c d),(ps.map rp,(ps.map rp,((ps.length:Int),((k + 1:Nat):Int))))))):=by
   unfold AU
   have hz:(((ps.length:Nat):Int)==0)=false:=beq_eq_false_iff_ne.2 (by omega)
   rw[decide_eq_true (by omega),cT,Fm hg,obs,List.length_map,hz,cF,hdg,obs]
   simp only[rq_e,peta,fx_e,fy_e,F1,F2]
   rw[Gp (k:=8) (by omega) sc.1 sd.2,obs,Gp (k:=8) (by omega) sd.1 sc.2,obs]
   try simp only[rq_e]
   rw[Lb (k:=16) (by omega) ((J7 sc.1 sd.2).mono (by omega)) ((J7 sd.1 sc.2).mono (by omega)),obs]
   try simp only[rq_e]
   rw[show c.1*d.2-d.1*c.2=crs c d from rfl,Gu (k:=1400) (by omega) (hacc.mono (by omega)) (hx.mono (by omega)),obs,wrap1 (by omega)]
  obtain ⟨q,g1,g2,g3⟩:=ih (k + 1) (acc + crs c d) (by omega) hsum
  refine ⟨q,(AX (f:=fun (s:(RF×(RF×((List RPt)×((List RPt)×(Int×Int))))))=>AU s.1 s.2.1 s.2.2.1 s.2.2.2.1 s.2.2.2.2.1 s.2.2.2.2.2) (s:=(zF,(rqF acc,(ps.map rp,(ps.map rp,((ps.length:Int),(k:Int))))))) hgo).trans g1,g2,?_⟩
  rw[g3,hd]
  simp only
  rw[hr,chn]
  by_cases h:k + 1<ps.length
  ·rw[hr1 h]
   have hd2:ps.drop (k + 1)=ps[k + 1]::ps.drop (k + 2):=List.drop_eq_getElem_cons h
   rw[hd2] at hr ⊢
   have:d=ps[k + 1]:=by rw[List.cons_append] at hr; exact (List.cons.inj hr).1.symm
   rw[this]
   simp only
   grind
  ·rw[hr2 (by omega),List.drop_eq_nil_of_le (show ps.length≤k + 1 by omega)]
   simp only[chn]
   grind
end
end Go.Proofs.YthipdlhknbhiiaaGreat.Ev

end
section
namespace Go.Proofs.YthipdlhknbhiiaaGreat.Ev
open Go
structure GP (p:Int×Int):Prop where
 a : -1000≤p.1
 b:p.1≤1001
 c : -2≤p.2
 d:p.2≤8
theorem AQ3 {B:Nat} {c:List Int×Int×Int} (h:Cur B c) (hB:B≤100000000000000):∃ c' v,Du c=some (c',v)∧Cur (B + 8) c'∧GP v:=by
 unfold Du
 obtain ⟨c1,v1,e1,q1⟩:=Je h (by omega) 40
 simp only[e1,Option.bind_some]
 cases v1
 ·obtain ⟨c2,v2,e2,q2,a2,b2⟩:=AD q1 (by omega) 9
  obtain ⟨c3,v3,e3,q3,a3,b3⟩:=AD q2 (by omega) 9
  simp only[cond_false,e2,e3,Option.bind_some]
  have b2:=b2 (by omega)
  have b3:=b3 (by omega)
  refine ⟨_,_,rfl,q3.mono (by omega),?_⟩
  rw[wrapI (by omega) (by omega),wrapI (by omega) (by omega)]
  constructor <;> simp only <;> omega
 ·obtain ⟨c2,v2,e2,q2,m2⟩:=Nr q1 (by omega) [-(1000:Int),1000,1001] (by simp) (by simp)
  obtain ⟨c3,v3,e3,q3,a3,b3⟩:=AD q2 (by omega) 5
  simp only[cond_true,e2,e3,Option.bind_some]
  have b3:=b3 (by omega)
  refine ⟨_,_,rfl,q3.mono (by omega),?_⟩
  simp at m2
  constructor <;> simp only <;> omega
structure GW (l:List (Int×Int)):Prop where
 pts:∀ p∈l,GP p
 lo : 3≤l.length
 hi:l.length≤13
theorem Ao8 {l:List (Int×Int)} {p:Int×Int} (h:∀ q∈l,GP q) (hp:GP p):∀ q∈l ++ [p],GP q:=by
 intro q hq
 rcases List.mem_append.1 hq with h1 | h1
 ·exact h q h1
 ·cases List.mem_singleton.1 h1; exact hp
theorem AH4 {B:Nat} {c:List Int×Int×Int} (h:Cur B c) (hB:B≤10000000000000):∃ c' l,CQ c=some (c',l)∧Cur (B + 500) c'∧GW l:=by
 unfold CQ
 obtain ⟨c0,v0,e0,q0,a0,b0⟩:=AD h (by omega) 4
 simp only[e0,Option.bind_some]
 by_cases h0:v0=0
 ·have:(v0==0)=true:=by simp[h0]
  obtain ⟨c1,v1,e1,q1,a1,b1⟩:=AD q0 (by omega) 6
  obtain ⟨c2,v2,e2,q2,a2,b2⟩:=AD q1 (by omega) 2
  obtain ⟨c3,v3,e3,q3,a3,b3⟩:=AD q2 (by omega) 3
  obtain ⟨c4,v4,e4,q4,a4,b4⟩:=AD q3 (by omega) 5
  obtain ⟨c5,v5,e5,q5,a5,b5⟩:=AD q4 (by omega) 2
  obtain ⟨c6,v6,e6,q6,a6,b6⟩:=AD q5 (by omega) 5
  have b1:=b1 (by omega); have b2:=b2 (by omega); have b3:=b3 (by omega); have b4:=b4 (by omega); have b5:=b5 (by omega); have b6:=b6 (by omega)
  simp only[this,cond_true,e1,e2,e3,e4,e5,e6,Option.bind_some]
  rw[wrapI (by omega) (by omega),wrapI (by omega) (by omega),wrapI (by omega) (by omega),wrapI (by omega) (by omega)]
  refine ⟨_,_,rfl,q6.mono (by omega),?_,by simp,by simp⟩
  intro p hp
  simp only[List.mem_cons,List.not_mem_nil,or_false] at hp
  rcases hp with rfl | rfl | rfl | rfl <;> constructor <;> simp only <;> omega
 ·have t0:(v0==0)=false:=by simp[h0]
  by_cases h1:v0=1
  ·have t1:(v0==1)=true:=by simp[h1]
   obtain ⟨c1,v1,e1,q1,a1,b1⟩:=AD q0 (by omega) 4
   obtain ⟨c2,v2,e2,q2,a2,b2⟩:=AD q1 (by omega) 4
   have b1:=b1 (by omega); have b2:=b2 (by omega)
   simp only[t0,t1,cond_true,cond_false,e1,e2,Option.bind_some]
   rw[wrapI (by omega) (by omega),wrapI (by omega) (by omega)]
   refine ⟨_,_,rfl,q2.mono (by omega),?_,by simp,by simp⟩
   intro p hp
   simp only[List.mem_cons,List.not_mem_nil,or_false] at hp
   rcases hp with rfl | rfl | rfl | rfl | rfl | rfl | rfl | rfl <;> constructor <;> simp only <;> omega
  ·have t1:(v0==1)=false:=by simp[h1]
   obtain ⟨c1,v1,e1,q1,a1,b1⟩:=AD q0 (by omega) 4
   have b1:=b1 (by omega)
   obtain ⟨n,hn,hn1⟩:∃ n:Nat,(3 + v1:Int)=(n:Int)∧3≤n∧n≤6:=⟨(3 + v1).toNat,by omega,by omega⟩
   simp only[t0,t1,cond_true,cond_false,e1,Option.bind_some]
   rw[wrapI (by omega) (by omega),hn]
   obtain ⟨⟨c2,l2⟩,e2,q2,g2,n2⟩:=Ig (body:=fun (s:(((List Int)×(Int×Int))×((List (Int×Int))×Int)))=>DO s.1 s.2.1 s.2.2)
    (st:=fun k (b:(List Int×Int×Int)×List (Int×Int))=>(b.1,b.2,(k:Int))) (fin:=fun b=>b) (I:=fun k b=>Cur (B + 100-8*k) b.1∧(∀ p∈b.2,GP p)∧b.2.length + k=n)
    (by
     rintro k ⟨c,l⟩ ⟨i1,i2,i3⟩
     obtain ⟨c',v,e,q,g⟩:=AQ3 i1 (by omega)
     unfold DO
     have:decide (((k + 1:Nat):Int)>0)=true:=decide_eq_true (by omega)
     simp only at i3
     simp only[this,cond_true,e,Option.bind_some,Rq (l:=l) (m:=[(v.1,v.2)]) (b:=16) (s:=2) (by simp[maxBytes]; omega) (by simp[maxBytes]; omega)]
     rw[wrapI (by omega) (by omega),show ((k + 1:Nat):Int)-1=(k:Int) by omega]
     exact ⟨(c',l ++ [(v.1,v.2)]),rfl,q.mono (by omega),Ao8 i2 g,by simp; omega⟩)
    (by
     rintro ⟨c,l⟩ ⟨i1,i2,i3⟩
     unfold DO
     rfl) n (c1,[]) ⟨q1.mono (by omega),by simp,by simp⟩
   obtain ⟨c3,v3,e3,q3⟩:=Je q2 (by omega) 20
   simp only at e2 n2 g2
   simp only[e2,Option.bind_some,e3]
   cases v3
   ·exact ⟨_,_,rfl,q3.mono (by omega),g2,by omega,by omega⟩
   ·obtain ⟨r,e4,q4,g4,n4,n5⟩:=EL (f:=fun (s:(((List Int)×(Int×Int))×(List (Int×Int))))=>FM s.1 s.2) (I:=fun s=>Cur (B + 102 + 10*s.2.length) s.1∧(∀ p∈s.2,GP p)∧3≤s.2.length∧s.2.length≤13)
     (R:=fun s=>Cur (B + 400) s.1∧(∀ p∈s.2,GP p)∧3≤s.2.length∧s.2.length≤13) (fun s=>20-s.2.length)
     (by
      rintro ⟨c,l⟩ ⟨i1,i2,i3,i4⟩
      unfold FM
      simp only at i1 i2 i3 i4
      obtain ⟨c',v,e,q,a,b⟩:=AD i1 (by omega) 2
      have b:=b (by omega)
      simp only[e,Option.bind_some]
      rw[wrapI (by omega) (by omega)]
      by_cases hlt:(l.length:Int)<12 + v
      ·have:decide ((l.length:Int)<12 + v)=true:=by simpa using hlt
       obtain ⟨c2,v2,e2,q2,g2⟩:=AQ3 q (by omega)
       simp only[this,cond_true,e2,Option.bind_some,Rq (l:=l) (m:=[(v2.1,v2.2)]) (b:=16) (s:=2) (by simp[maxBytes]; omega) (by simp[maxBytes]; omega)]
       refine .inl ⟨_,rfl,⟨q2.mono (by simp; omega),Ao8 i2 g2,by simp; omega,by simp; omega⟩,by simp; omega⟩
      ·have:decide ((l.length:Int)<12 + v)=false:=by simpa using hlt
       simp only[this,cond_false]
       exact .inr ⟨_,rfl,q.mono (by omega),i2,i3,i4⟩) (c3,l2) ⟨q3.mono (by omega),g2,by simp only; omega,by simp only; omega⟩
    simp only[cond_true,e4,Option.bind_some]
    exact ⟨_,_,rfl,q4.mono (by omega),g4,n4,n5⟩
end Go.Proofs.YthipdlhknbhiiaaGreat.Ev

end
section
namespace Go.Proofs.YthipdlhknbhiiaaGreat.Ev
open Go
theorem As6:BC (0:Int)=some (rqF 0):=by rw[K6 (by omega) (by omega)]; rfl
theorem Ax7:BC (2:Int)=some (rqF 2):=by rw[K6 (by omega) (by omega)]; rfl
theorem S2:Sz 1361 (2:Rat):=by
 have h:(((2:Int)).natAbs:Int)<B 1361:=Int.lt_of_lt_of_le (by rw[B1]; decide:(((2:Int)).natAbs:Int)<B 1) (G6 (by omega))
 have:=K0 (z:=2) h (by omega)
 exact this
theorem S0r:Sz 1 (0:Rat):=by
 have h:(((0:Int)).natAbs:Int)<B 1:=by rw[B1]; decide
 have:=K0 (z:=0) h (by omega)
 exact this
theorem AB3:(2:Rat)≠0:=by decide
theorem YU {ps:List Q2} (hps:SzR ps):EN (ps.map rp)=some (rqF (area2 ps/2))∧Sz 2722 (area2 ps/2):=by
 have h40:=hps.1
 have key:∃ r,loopM (fun (s:(RF×(RF×((List RPt)×((List RPt)×(Int×Int))))))=>AU s.1 s.2.1 s.2.2.1 s.2.2.2.1 s.2.2.2.2.1 s.2.2.2.2.2) (zF,(rqF 0,(ps.map rp,(ps.map rp,((ps.length:Int),(0:Int))))))=some (zF,rqF r)∧Sz 1361 r∧r=area2 ps:=by
  cases ps with
  | nil =>
   refine ⟨0,Ap ?_,S0r.mono (by omega),rfl⟩
   show AU zF (rqF 0) [] [] 0 0=_
   unfold AU
   rfl
  | cons f m =>
   obtain ⟨r,h1,h2,h3⟩:=Y9 hps (f:=f) rfl (f::m).length 0 0 (by omega) S0r
   refine ⟨r,h1,h2,?_⟩
   rw[h3,←SO]
   show (0:Rat) + chn crs f (m ++ [f])=chn crs f (m ++ [f])
   grind
 obtain ⟨r,h1,h2,h3⟩:=key
 rw[h3] at h1 h2
 refine ⟨?_,(AF7 h2 S2 AB3).mono (by omega)⟩
 have g1:loopM (fun (s:(RF×(RF×((List RPt)×((List RPt)×(Int×Int))))))=>AU s.1 s.2.1 s.2.2.1 s.2.2.2.1 s.2.2.2.2.1 s.2.2.2.2.2) ((false,([],(false,[]))),(rqF 0,(ps.map rp,(ps.map rp,((ps.length:Int),(0:Int))))))=some (zF,rqF (area2 ps)):=h1
 have hh:EM (rqF (area2 ps))=some (rqF (area2 ps/2)):=by
  unfold EM
  simp only[rq_e]
  rw[Ax7,obs]
  try simp only[rq_e]
  rw[Vk (k:=1361) (by omega) h2 S2 AB3,obs]
 unfold EN
 rw[As6,obs]
 try simp only[rq_e]
 rw[List.length_map,g1,obs]
 try simp only[rq_e]
 rw[hh,obs]
theorem IR {ps:List Q2} (hps:SzR ps):A3 (ps.map rp)=some (fitsQ (area2 ps/2)):=by
 have hp:=hps.1
 unfold A3
 rw[CV (by simp; omega) (RK (k:=8) (by omega) hps.2),obs,El.2 hps,nT,cF,(YU hps).1,obs]
 simp only[rq_e,peta]
 rw[F7,obs]
theorem J6 {m:List Q2} (h:SzR m):AA (m.map rp) (m.map rp)=some true:=by
 have h40:=h.1
 unfold AA
 rw[bne_self_eq_false,cF]
 obtain ⟨h1,h2⟩:=H7 (l:=m) (body:=fun (s:((List RPt)×((List RPt)×(Int×Int))))=>BG s.1 s.2.1 s.2.2.1 s.2.2.2)
  (st:=fun k (b:Unit)=>(m.map rp,(m.map rp,((m.length:Int),(k:Int))))) (step:=fun b p=>()) (fin:=fun b=>.inl ()) (I:=fun k b=>True)
  (by
   rintro k b p hk _
   have hkl:=getL hk
   have hp:=h.2 p (List.mem_of_getElem? hk)
   refine ⟨?_,trivial⟩
   show BG (m.map rp) (m.map rp) (m.length:Int) (k:Int)=_
   unfold BG
   rw[decide_eq_true (by omega),cT,Fm hk,obs,obs]
   simp only[peta,fx_e,fy_e,F1,F2,obs]
   rw[F5 (k:=8) (by omega) hp.1,obs,nT,cF,F5 (k:=8) (by omega) hp.2,obs,nT,cF,wrap1 (by omega)])
  (by
   rintro b _
   show BG (m.map rp) (m.map rp) (m.length:Int) (m.length:Int)=_
   unfold BG
   rw[decide_eq_false (by omega)]
   rfl) () trivial
 have h1':loopM (fun (s:((List RPt)×((List RPt)×(Int×Int))))=>BG s.1 s.2.1 s.2.2.1 s.2.2.2) (m.map rp,(m.map rp,((m.length:Int),(0:Int))))=_:=h1
 rw[List.length_map,h1']
 rfl
theorem FR:AA [] []=some true:=J6 (m:=[]) ⟨by simp,by simp⟩
theorem Q3 (m:List Q2):AA (outR m).1 (outR m).1=some true:=by
 unfold outR
 by_cases h:goodR (m.map rp)=true
 ·rw[if_pos h]; exact J6 (El.1 h)
 ·rw[if_neg h]; exact FR
def ShP (x:RPt):Prop:=ShF (fx x)∧ShF (fy x)
theorem ShP.br {x:RPt} (h:ShP x):BrP x:=⟨h.1.br,h.2.br⟩
theorem AT8 {B':Nat} {c:List Int×Int×Int} (h:Cur B' c) (hB:B'≤800000000):∃ c' x,DA c=some (c',fl x)∧Cur (B' + 1500) c'∧ShP x:=by
 unfold DA
 obtain ⟨c0,v0,e0,q0⟩:=Je h (by omega) 40
 simp only[e0,obs,peta]
 cases v0 with
 | true =>
  obtain ⟨c1,a,e1,q1,s1⟩:=AC8 q0 (by omega)
  obtain ⟨c2,b,e2,q2,s2⟩:=AC8 q1 (by omega)
  simp only[cT]
  rw[e1,obs,e2,obs]
  exact ⟨c2,(toQ a,toQ b),rfl,q2.mono (by omega),s1,s2⟩
 | false =>
  obtain ⟨c1,v1,e1,q1,a1,b1⟩:=AD q0 (by omega) 17
  obtain ⟨c2,v2,e2,q2,a2,b2⟩:=AD q1 (by omega) 3
  obtain ⟨c3,v3,e3,q3,a3,b3⟩:=AD q2 (by omega) 17
  obtain ⟨c4,v4,e4,q4,a4,b4⟩:=AD q3 (by omega) 3
  simp only[cF]
  rw[e1,obs,e2,obs,Rl,obs,e3,obs,e4,obs,Rl,obs]
  have s1:=OY (IntKind.wrap .i64 (v1-4)) (IntKind.wrap .i64 (1 + v2))
  have s2:=OY (IntKind.wrap .i64 (v3-4)) (IntKind.wrap .i64 (1 + v4))
  generalize ratOfV (IntKind.wrap .i64 (v1-4)) (IntKind.wrap .i64 (1 + v2))=a at s1
  generalize ratOfV (IntKind.wrap .i64 (v3-4)) (IntKind.wrap .i64 (1 + v4))=b at s2
  exact ⟨c4,(toQ a.1,toQ b.1),rfl,q4.mono (by omega),s1,s2⟩
theorem Av3:∀ (n:Nat) (B':Nat) (c:List Int×Int×Int) (l:List RPt),Cur B' c→B' + 1500*n≤700000000→l.length + n≤1000→(∀ x∈l,ShP x) →
  ∃ c' l',loopM (fun (s:((List Int×(Int×Int))×((List RPt)×Int)))=>Ba s.1 s.2.1 s.2.2) (c,(l,(n:Int)))=some (c',l')∧Cur (B' + 1500*n) c'∧l'.length=l.length + n∧∀ x∈l',ShP x:=by
 intro n
 induction n with
 | zero =>
  intro B' c l hc _ _ hl
  refine ⟨c,l,Ap ?_,hc.mono (by omega),rfl,hl⟩
  show Ba c l ((0:Nat):Int)=_
  unfold Ba
  rfl
 | succ n ih =>
  intro B' c l hc hB hlen hl
  obtain ⟨c1,x,e1,q1,s1⟩:=AT8 hc (by omega)
  obtain ⟨c',l',h1,h2,h3,h4⟩:=ih (B' + 1500) c1 (l ++ [x]) q1 (by omega) (by simp; omega) (by
   intro y hy
   rcases List.mem_append.1 hy with hy | hy
   ·exact hl y hy
   ·rw[List.mem_singleton.1 hy]; exact s1)
  refine ⟨c',l',?_,h2.mono (by omega),by rw[h3]; simp; omega,h4⟩
  have hgo:Ba c l ((n + 1:Nat):Int)=some (.inl (c1,(l ++ [x],(n:Int)))):=by
   unfold Ba
   rw[decide_eq_true (by omega)]
   simp only[cT,peta]
   rw[e1,obs]
   simp only
   rw[un_e,MZ,appP (by omega),obs,wrapI (by omega) (by omega),show ((n + 1:Nat):Int)-1=(n:Int) by omega]
  exact (AX (f:=fun (s:((List Int×(Int×Int))×((List RPt)×Int)))=>Ba s.1 s.2.1 s.2.2) (s:=(c,(l,((n + 1:Nat):Int)))) hgo).trans h1
theorem AO6 {x y:Int} (hx : -100000≤x∧x≤100000) (hy : -100000≤y∧y≤100000):∃ z,EY (x,y)=some (fl z)∧ShP z:=by
 have small:∀ n:Int,-100000≤n→n≤100000→Sz 2 (n:Rat):=fun n h1 h2=>K0 (by have:B 2=4294967296:=rfl; omega) (by omega)
 unfold EY
 simp only
 rw[Lm (by omega) (by omega),obs,Lm (by omega) (by omega),obs]
 refine ⟨rp ((x:Rat),(y:Rat)),rfl,?_,?_⟩
 ·exact ZE (k:=2) (by omega) (small x hx.1 hx.2)
 ·exact ZE (k:=2) (by omega) (small y hy.1 hy.2)
theorem Ay9 (p:Int×Int):∃ v,D0 p=some v:=by
 unfold D0
 rw[Ly,obs]
 cases (decide (-1000≤p.1)&&decide (p.1≤1000)) with
 | true=>rw[cT,Ly]; exact ⟨_,rfl⟩
 | false=>exact ⟨_,rfl⟩
theorem AE2 {l:List (Int×Int)} (hl:l.length≤1000):∃ v,Ff l=some v:=by
 have key:∀ (m k:Nat),k + m=l.length→∃ v,loopM (fun (s:((List (Int×Int))×(Int×Int)))=>Bk s.1 s.2.1 s.2.2) (l,((l.length:Int),(k:Int)))=some v:=by
  intro m
  induction m with
  | zero =>
   intro k hk
   refine ⟨.inl (),Ap ?_⟩
   show Bk l (l.length:Int) (k:Int)=_
   unfold Bk
   rw[decide_eq_false (by omega)]
   rfl
  | succ m ih =>
   intro k hk
   have hlt:k<l.length:=by omega
   have hg:l[k]? = some l[k]:=List.getElem?_eq_getElem hlt
   obtain ⟨v,hv⟩:=Ay9 l[k]
   have hb:Bk l (l.length:Int) (k:Int)=if v=true then some (.inl (l,((l.length:Int),((k + 1:Nat):Int)))) else some (.inr (.inr false)):=by
    unfold Bk
    rw[decide_eq_true (by omega),cT,Ak,hg,obs]
    simp only[peta]
    rw[hv,obs]
    cases v with
    | true=>rw[nT,cF,wrap1 (by omega),if_pos rfl]
    | false=>rw[nF,cT]; rfl
   by_cases h:v=true
   ·rw[if_pos h] at hb
    obtain ⟨w,hw⟩:=ih (k + 1) (by omega)
    exact ⟨w,(AX (f:=fun (s:((List (Int×Int))×(Int×Int)))=>Bk s.1 s.2.1 s.2.2) (s:=(l,((l.length:Int),(k:Int)))) hb).trans hw⟩
   ·rw[if_neg h] at hb
    exact ⟨_,Ap hb⟩
 obtain ⟨v,hv⟩:=key l.length 0 (by omega)
 have hv':loopM (fun (s:((List (Int×Int))×(Int×Int)))=>Bk s.1 s.2.1 s.2.2) (l,((l.length:Int),(0:Int)))=some v:=hv
 unfold Ff
 rw[hv',obs]
 cases v with
 | inl u=>exact ⟨_,rfl⟩
 | inr u=>exact ⟨_,rfl⟩
theorem Ay8 {w:List (Int×Int)} (h:GW w):∃ l ok,B8 w=some (l,ok)∧l.length≤100∧∀ x∈l,ShP x:=by
 have hhi:=h.hi
 obtain ⟨v,hv⟩:=AE2 (l:=w) (by omega)
 have hway:∃ v,E6 w=some v:=by
  unfold E6
  rw[Ly,obs]
  cases (decide ((3:Int)≤((w.length:Nat):Int))&&decide (((w.length:Nat):Int)≤12)) with
  | true=>rw[cT,hv,obs]; exact ⟨_,rfl⟩
  | false=>exact ⟨_,rfl⟩
 obtain ⟨u,hu⟩:=hway
 unfold B8
 rw[hu,obs]
 cases u with
 | false=>exact ⟨_,_,rfl,by simp,by simp⟩
 | true =>
  have key:∀ (m k:Nat) (l:List RPt),k + m=w.length→l.length=k→(∀ x∈l,ShP x)→∃ l',loopM (fun (s:((List RPt)×((List (Int×Int))×(Int×Int))))=>AF s.1 s.2.1 s.2.2.1 s.2.2.2) (l,(w,((w.length:Int),(k:Int))))=some l'∧l'.length=w.length∧∀ x∈l',ShP x:=by
   intro m
   induction m with
   | zero =>
    intro k l hk hl hs
    refine ⟨l,Ap ?_,by omega,hs⟩
    show AF l w (w.length:Int) (k:Int)=_
    unfold AF
    rw[decide_eq_false (by omega)]
    rfl
   | succ m ih =>
    intro k l hk hl hs
    have hlt:k<w.length:=by omega
    have hg:w[k]? = some w[k]:=List.getElem?_eq_getElem hlt
    have gp:=h.pts _ (List.mem_of_getElem? hg)
    obtain ⟨g1,g2,g3,g4⟩:=gp
    obtain ⟨z,hz,sz⟩:=AO6 (x:=w[k].1) (y:=w[k].2) (by omega) (by omega)
    have hb:AF l w (w.length:Int) (k:Int)=some (.inl (l ++ [z],(w,((w.length:Int),((k + 1:Nat):Int))))):=by
     unfold AF
     rw[decide_eq_true (by omega),cT,Ak,hg,obs,hz,obs,un_e,MZ,appP (by omega),obs,wrap1 (by omega)]
    obtain ⟨l',i1,i2,i3⟩:=ih (k + 1) (l ++ [z]) (by omega) (by simp; omega) (by
     intro y hy
     rcases List.mem_append.1 hy with hy | hy
     ·exact hs y hy
     ·rw[List.mem_singleton.1 hy]; exact sz)
    exact ⟨l',(AX (f:=fun (s:((List RPt)×((List (Int×Int))×(Int×Int))))=>AF s.1 s.2.1 s.2.2.1 s.2.2.2) (s:=(l,(w,((w.length:Int),(k:Int))))) hb).trans i1,i2,i3⟩
  obtain ⟨l',i1,i2,i3⟩:=key w.length 0 [] (by omega) rfl (by simp)
  have i1':loopM (fun (s:((List RPt)×((List (Int×Int))×(Int×Int))))=>AF s.1 s.2.1 s.2.2.1 s.2.2.2) ((List.nil:List RPt),(w,((w.length:Int),(0:Int))))=some l':=i1
  rw[nT,cF,i1',obs]
  exact ⟨_,_,rfl,by omega,i3⟩
theorem AP3 {B':Nat} {c:List Int×Int×Int} (h:Cur B' c) (hB:B'≤100000000):∃ c' l,C7 c=some (c',l)∧Cur (B' + 100000) c'∧l.length≤100∧∀ x∈l,ShP x:=by
 unfold C7
 obtain ⟨c0,v0,e0,q0⟩:=Je h (by omega) 2
 simp only[e0,obs,peta]
 cases v0 with
 | true =>
  obtain ⟨c1,w,e1,q1,g1⟩:=AH4 q0 (by omega)
  obtain ⟨l,ok,e2,n2,s2⟩:=Ay8 g1
  simp only[cT]
  rw[e1,obs,e2,obs]
  exact ⟨_,_,rfl,q1.mono (by omega),n2,s2⟩
 | false =>
  obtain ⟨c1,v1,e1,q1,a1,b1⟩:=AD q0 (by omega) 7
  have b1:=b1 (by omega)
  obtain ⟨c2,v2,e2,q2⟩:=Je q1 (by omega) 20
  simp only[cF]
  rw[e1,obs,e2,obs]
  have fin:∀ (c3:List Int×Int×Int) (v:Int),Cur (B' + 100) c3→0≤v→v≤50→∃ c' l,loopM (fun (s:((List Int×(Int×Int))×((List RPt)×Int)))=>Ba s.1 s.2.1 s.2.2) (c3,((List.nil:List RPt),v))=some (c',l)∧Cur (B' + 100000) c'∧l.length≤100∧∀ x∈l,ShP x:=by
   intro c3 v q3 hv0 hv1
   obtain ⟨n,rfl⟩:∃ n:Nat,v=(n:Int):=⟨v.toNat,by omega⟩
   obtain ⟨c',l',h1,h2,h3,h4⟩:=Av3 n (B' + 100) c3 [] q3 (by omega) (by simp; omega) (by simp)
   exact ⟨c',l',h1,h2.mono (by omega),by rw[h3]; simp; omega,h4⟩
  cases v2 with
  | true =>
   obtain ⟨c3,v3,e3,q3,a3,b3⟩:=AD q2 (by omega) 3
   have b3:=b3 (by omega)
   obtain ⟨c',l,h1,h2,h3,h4⟩:=fin c3 (39 + v3) (q3.mono (by omega)) (by omega) (by omega)
   simp only[cT]
   rw[e3,obs,wrapI (by omega) (by omega),obs,sEr,h1,obs]
   exact ⟨_,_,rfl,h2,h3,h4⟩
  | false =>
   obtain ⟨c',l,h1,h2,h3,h4⟩:=fin c2 v1 (q2.mono (by omega)) (by omega) (by omega)
   simp only[cF]
   rw[obs,sEr,h1,obs]
   exact ⟨_,_,rfl,h2,h3,h4⟩
end Go.Proofs.YthipdlhknbhiiaaGreat.Ev

end
section
namespace Go.Proofs.YthipdlhknbhiiaaGreat.Ev
open Go
structure Val (E:Q2→Q2→Rat):Prop where
 anti:∀ p q,E p q = -(E q p)
 split:∀ p q t,0≤t→t≤1→E p (mixQ p q t) + E (mixQ p q t) q=E p q
theorem Val.self {E:Q2→Q2→Rat} (h:Val E) (p:Q2):E p p=0:=by
 have:=h.anti p p
 grind
theorem W0:Val crs:=⟨fun p q=>by unfold crs; grind,fun p q t _ _=>by unfold crs mixQ; simp only; grind⟩
theorem TR (a c:Q2):mixQ a c 0=a:=by unfold mixQ; rw[Rat.zero_mul,Rat.zero_mul,Rat.add_zero,Rat.add_zero]
theorem Ak1 (a c:Q2):mixQ a c 1=c:=by
 unfold mixQ
 rw[Rat.one_mul,Rat.one_mul,show a.1 + (c.1-a.1)=c.1 by grind,show a.2 + (c.2-a.2)=c.2 by grind]
theorem Ao1 (a c:Q2) (t u:Rat):mixQ a (mixQ a c t) u=mixQ a c (u*t):=by
 unfold mixQ
 simp only
 rw[show a.1 + u*(a.1 + t*(c.1-a.1)-a.1)=a.1 + u*t*(c.1-a.1) by grind,show a.2 + u*(a.2 + t*(c.2-a.2)-a.2)=a.2 + u*t*(c.2-a.2) by grind]
theorem Nl (b:Bool) (a c:Q2) (t:Rat):crd b (mixQ a c t)=crd b a + t*(crd b c-crd b a):=by cases b <;> rfl
theorem R7 {x y:Rat} (h0 : 0≤x) (h:x≤y) (hy : 0<y) : 0≤x/y∧x/y≤1:=by
 have e:x/y*y=x:=Rat.div_mul_cancel (by intro h; rw[h] at hy; exact absurd hy (Rat.lt_irrefl))
 constructor
 ·refine Rat.le_of_mul_le_mul_right (c:=y) ?_ hy
  rw[e,Rat.zero_mul]; exact h0
 ·refine Rat.le_of_mul_le_mul_right (c:=y) ?_ hy
  rw[e,Rat.one_mul]; exact h
theorem Val.three {E:Q2→Q2→Rat} (h:Val E) {a c:Q2} {t u:Rat} (h0 : 0≤t) (h1:t≤u) (h2:u≤1):E a (mixQ a c t) + E (mixQ a c t) (mixQ a c u)=E a (mixQ a c u):=by
 by_cases hu:u=0
 ·have:t=0:=by grind
  rw[hu,this,TR,h.self]; grind
 ·have hu0 : 0<u:=by grind
  obtain ⟨d0,d1⟩:=R7 h0 h1 hu0
  have e:t/u*u=t:=Rat.div_mul_cancel hu
  have:=h.split a (mixQ a c u) (t/u) d0 d1
  rw[Ao1,e] at this
  exact this
def prj (b:Bool) (s:Rat) (p:Q2):Q2:=if b then (p.1,s) else (s,p.2)
theorem AI4 {b:Bool} {s:Rat} {p:Q2} (h:crd b p=s):prj b s p=p:=by
 unfold crd at h
 unfold prj
 cases b
 ·simp at h ⊢; rw[←h]
 ·simp at h ⊢; rw[←h]
theorem AM4 (b:Bool) (s:Rat) (p:Q2):crd b (prj b s p)=s:=by cases b <;> rfl
theorem WY {b:Bool} {p q:Q2} (h1:crd b p=crd b q) (h2:crd (!b) p=crd (!b) q):p=q:=by
 unfold crd at h1 h2
 cases b <;> simp at h1 h2
 ·exact Prod.ext h1 h2
 ·exact Prod.ext h2 h1
theorem Val.mid {E:Q2→Q2→Rat} (h:Val E) {b:Bool} {s:Rat} {p q r:Q2} (hp:crd b p=s) (hq:crd b q=s) (hr:crd b r=s) (h1:crd (!b) p≤crd (!b) q) (h2:crd (!b) q≤crd (!b) r):E p q + E q r=E p r:=by
 by_cases e:crd (!b) p=crd (!b) r
 ·have e1:p=q:=WY (by rw[hp,hq]) (by grind)
  have e2:q=r:=WY (by rw[hq,hr]) (by grind)
  rw[e1,e2,h.self]; grind
 ·have hlt : 0<crd (!b) r-crd (!b) p:=by grind
  obtain ⟨d0,d1⟩:=R7 (x:=crd (!b) q-crd (!b) p) (y:=crd (!b) r-crd (!b) p) (by grind) (by grind) hlt
  have hd:(crd (!b) q-crd (!b) p)/(crd (!b) r-crd (!b) p)*(crd (!b) r-crd (!b) p)=crd (!b) q-crd (!b) p:=Rat.div_mul_cancel (fun h=>by grind)
  have hm:mixQ p r ((crd (!b) q-crd (!b) p)/(crd (!b) r-crd (!b) p))=q:=by
   refine WY (b:=b) ?_ ?_
   ·rw[Nl,hp,hq,hr]; grind
   ·rw[Nl,hd]; grind
  have:=h.split p r _ d0 d1
  rw[hm] at this
  exact this
theorem Val.line {E:Q2→Q2→Rat} (h:Val E) {b:Bool} {s:Rat} {p q r:Q2} (hp:crd b p=s) (hq:crd b q=s) (hr:crd b r=s):E p q + E q r=E p r:=by
 have a1:=h.anti p q
 have a2:=h.anti q r
 have a3:=h.anti p r
 rcases Rat.le_total (a:=crd (!b) p) (b:=crd (!b) q) with k1 | k1 <;> rcases Rat.le_total (a:=crd (!b) q) (b:=crd (!b) r) with k2 | k2 <;> rcases Rat.le_total (a:=crd (!b) p) (b:=crd (!b) r) with k3 | k3
 ·exact h.mid hp hq hr k1 k2
 ·exact h.mid hp hq hr k1 k2
 ·have:=h.mid hp hr hq k3 k2
  grind
 ·have:=h.mid hr hp hq k3 k1
  grind
 ·have:=h.mid hq hp hr k1 k3
  grind
 ·have:=h.mid hq hr hp k2 k3
  grind
 ·have:=h.mid hr hq hp k2 k1
  grind
 ·have:=h.mid hr hq hp k2 k1
  grind
section
variable (E:Q2→Q2→Rat) (b high:Bool) (s:Rat)
def phi (p:Q2):Rat:=E (prj b s (0,0)) (prj b s p)
def gE (p q:Q2):Rat:=E p q-(phi E b s q-phi E b s p)
def pieceE (a c:Q2):Rat :=
 bif ins b high s a then (bif ins b high s c then gE E b s a c else gE E b s a (cutQ b s a c)) else (bif ins b high s c then gE E b s (cutQ b s a c) c else 0)
end
section
variable {E:Q2→Q2→Rat} (h:Val E) {b high:Bool} {s:Rat}
include h
theorem Xk {p q:Q2} (hp:crd b p=s) (hq:crd b q=s):gE E b s p q=0:=by
 unfold gE phi
 rw[AI4 hp,AI4 hq]
 have:=h.line (b:=b) (s:=s) (p:=prj b s (0,0)) (q:=p) (r:=q) (AM4 b s _) hp hq
 grind
theorem Am1 (p:Q2):gE E b s p p=0:=by unfold gE; rw[h.self]; grind
theorem XP (p q:Q2):gE E b s p q = -(gE E b s q p):=by
 unfold gE
 have:=h.anti p q
 grind
theorem RP (p q:Q2) (t:Rat) (h0 : 0≤t) (h1:t≤1):gE E b s p (mixQ p q t) + gE E b s (mixQ p q t) q=gE E b s p q:=by
 have:=h.split p q t h0 h1
 unfold gE
 generalize mixQ p q t=m at *
 grind
theorem AD6 {a c:Q2} {t u:Rat} (h0 : 0≤t) (h1:t≤u) (h2:u≤1):gE E b s a (mixQ a c t) + gE E b s (mixQ a c t) (mixQ a c u)=gE E b s a (mixQ a c u):=by
 have:=h.three (a:=a) (c:=c) h0 h1 h2
 unfold gE
 generalize mixQ a c t=m at *
 generalize mixQ a c u=n at *
 grind
theorem AC7 {a c q:Q2} (hA:At b high s a q):chn (gE E b s) q (stepQ b high s a c)=pieceE E b high s a c∧At b high s c (endQ q (stepQ b high s a c)):=by
 unfold At at hA ⊢
 unfold stepQ pieceE
 have hm:ins b high s a≠ins b high s c→crd b (cutQ b s a c)=s:=fun h=>XA (GL h)
 cases h1:ins b high s a <;> cases h2:ins b high s c <;> rw[h1] at hA hm <;> rw[h2] at hm <;> simp only[if_true,Bool.false_eq_true,if_false,reduceCtorEq] at hA ⊢
 ·simp only[List.nil_append,chn,endQ,cond_false,if_true,List.append_nil]
  exact ⟨trivial,hA⟩
 ·have hm:=hm (by simp)
  simp only[List.cons_append,List.nil_append,chn,endQ,cond_false,cond_true]
  rw[Xk h hA hm]
  refine ⟨by grind,trivial⟩
 ·have hm:=hm (by simp)
  simp only[List.append_nil,chn,endQ,cond_false,cond_true]
  rw[hA]
  exact ⟨by grind,hm⟩
 ·simp only[List.nil_append,chn,endQ,cond_true,if_true]
  rw[hA]
  exact ⟨by grind,trivial⟩
theorem R9:∀ (l:List Q2) (a q:Q2),At b high s a q→chn (gE E b s) q (clipFrom b high s a l)=chn (pieceE E b high s) a l∧At b high s (endQ a l) (endQ q (clipFrom b high s a l))
 | [],a,q,hA=>⟨rfl,hA⟩
 | c::l,a,q,hA=>by
  obtain ⟨h1,h2⟩:=AC7 h (c:=c) hA
  obtain ⟨h3,h4⟩:=R9 l c _ h2
  rw[clipFrom,MG,Qy,h1,h3]
  exact ⟨rfl,h4⟩
end
theorem Aa5 (E:Q2→Q2→Rat) (b:Bool) (s:Rat):∀ (a:Q2) (l:List Q2),chn (gE E b s) a l=chn E a l-(phi E b s (endQ a l)-phi E b s a)
 | a,[]=>by simp only[chn,endQ]; grind
 | a,c::l=>by
  rw[chn,chn,Aa5 E b s c l,endQ]
  unfold gE
  generalize phi E b s (endQ c l)=x
  generalize phi E b s a=y
  generalize phi E b s c=z
  grind
def sumE (E:Q2→Q2→Rat) (l:List Q2):Rat:=chn E (lastQ l) l
theorem Aw2 (l:List Q2):area2 l=sumE crs l:=rfl
theorem Dz {E:Q2→Q2→Rat} (h:Val E) (b high:Bool) (s:Rat) (l:List Q2):sumE E (clipQ b high s l)=sumE (pieceE E b high s) l:=by
 obtain ⟨q,hq⟩:=AN1 b high s (lastQ l)
 obtain ⟨h1,h2⟩:=R9 h l (lastQ l) q hq
 rw[OO] at h2
 unfold sumE
 by_cases he:clipQ b high s l = []
 ·have he':clipFrom b high s (lastQ l) l = []:=he
  rw[he]
  rw[he'] at h1
  rw[←h1]
  rfl
 ·have hl:endQ q (clipFrom b high s (lastQ l) l)=lastQ (clipQ b high s l):=Lq _ _ he
  rw[hl] at h2
  obtain ⟨h3,_⟩:=R9 h l (lastQ l) _ h2
  have h4:=Aa5 E b s (lastQ (clipQ b high s l)) (clipQ b high s l)
  rw[OO] at h4
  have h5:chn (gE E b s) (lastQ (clipQ b high s l)) (clipQ b high s l)=chn (pieceE E b high s) (lastQ l) l:=h3
  rw[h5] at h4
  rw[h4]
  grind
theorem AF6 (E:Q2→Q2→Rat) (b:Bool) (s:Rat) (l:List Q2):sumE E l=sumE (gE E b s) l:=by
 unfold sumE
 rw[Aa5,OO]
 grind
theorem An2 {b:Bool} {s:Rat} {a c:Q2} {t:Rat} (ht:t≠0) (hc:crd b c≠crd b a):cutQ b s a (mixQ a c t)=cutQ b s a c:=by
 unfold cutQ
 rw[Ao1,Nl]
 congr 1
 have hd:crd b c-crd b a≠0:=fun e=>hc (by grind)
 have hd2:crd b a + t*(crd b c-crd b a)-crd b a≠0:=fun e=>by
  have:t*(crd b c-crd b a)=0:=by grind
  rcases Rat.mul_eq_zero.1 this with h | h
  ·exact ht h
  ·exact hd h
 have e1:=Rat.div_mul_cancel (a:=s-crd b a) hd2
 have e2:=Rat.div_mul_cancel (a:=s-crd b a) hd
 generalize (s-crd b a)/(crd b a + t*(crd b c-crd b a)-crd b a)=u at *
 generalize (s-crd b a)/(crd b c-crd b a)=v at *
 have e3:(u*t-v)*(crd b c-crd b a)=0:=by grind
 rcases Rat.mul_eq_zero.1 e3 with h | h
 ·grind
 ·exact absurd h hd
theorem M5 {b:Bool} {s:Rat} {a c:Q2} (hc:crd b c≠crd b a):cutQ b s a c=cutQ b s c a:=by
 have hd:crd b c-crd b a≠0:=fun e=>hc (by grind)
 have hd2:crd b a-crd b c≠0:=fun e=>hc (by grind)
 have e1:=Rat.div_mul_cancel (a:=s-crd b a) hd
 have e2:=Rat.div_mul_cancel (a:=s-crd b c) hd2
 unfold cutQ mixQ
 generalize (s-crd b a)/(crd b c-crd b a)=u at *
 generalize (s-crd b c)/(crd b a-crd b c)=v at *
 have e3:(u + v-1)*(crd b c-crd b a)=0:=by grind
 have e4:v=1-u:=by
  rcases Rat.mul_eq_zero.1 e3 with h | h
  ·grind
  ·exact absurd h hd
 rw[e4,show a.1 + u*(c.1-a.1)=c.1 + (1-u)*(a.1-c.1) by grind,show a.2 + u*(c.2-a.2)=c.2 + (1-u)*(a.2-c.2) by grind]
theorem ZI (a c:Q2) (t:Rat):mixQ a c t=mixQ c a (1-t):=by
 unfold mixQ
 rw[show a.1 + t*(c.1-a.1)=c.1 + (1-t)*(a.1-c.1) by grind,show a.2 + t*(c.2-a.2)=c.2 + (1-t)*(a.2-c.2) by grind]
theorem ST {b high:Bool} {s:Rat} {a c:Q2} {t:Rat} (h0 : 0≤t) (h1:t≤1) (x:Bool) (ha:ins b high s a=x) (hc:ins b high s c=x):ins b high s (mixQ a c t)=x:=by
 unfold ins at *
 rw[Nl]
 have k1 : 0≤1-t:=by grind
 generalize crd b a=p at *
 generalize crd b c=q at *
 have e:p + t*(q-p)=(1-t)*p + t*q:=by grind
 rw[e]
 have low:∀ z:Rat,p≤z→q≤z→(1-t)*p + t*q≤z:=by
  intro z hp hq
  have m1:=Rat.mul_le_mul_of_nonneg_left hp k1
  have m2:=Rat.mul_le_mul_of_nonneg_left hq h0
  have e2:(1-t)*z + t*z=z:=by grind
  grind
 have up:∀ z:Rat,z≤p→z≤q→z≤(1-t)*p + t*q:=by
  intro z hp hq
  have m1:=Rat.mul_le_mul_of_nonneg_left hp k1
  have m2:=Rat.mul_le_mul_of_nonneg_left hq h0
  have e2:(1-t)*z + t*z=z:=by grind
  grind
 have lowS:p<s→q<s→(1-t)*p + t*q<s:=by
  intro hp hq
  rcases Rat.le_total (a:=p) (b:=q) with g | g
  ·have:=low q g Rat.le_refl
   grind
  ·have:=low p Rat.le_refl g
   grind
 have upS:s<p→s<q→s<(1-t)*p + t*q:=by
  intro hp hq
  rcases Rat.le_total (a:=p) (b:=q) with g | g
  ·have:=up p Rat.le_refl g
   grind
  ·have:=up q g Rat.le_refl
   grind
 cases high <;> cases x <;> simp only[if_true,Bool.false_eq_true,if_false,decide_eq_true_eq,decide_eq_false_iff_not,Rat.not_le] at ha hc ⊢
 ·exact upS ha hc
 ·exact low s ha hc
 ·exact lowS ha hc
 ·exact up s ha hc
section
variable {E:Q2→Q2→Rat} (h:Val E) {b high:Bool} {s:Rat}
include h
theorem Tt (a:Q2):pieceE E b high s a a=0:=by
 unfold pieceE
 cases ins b high s a
 ·rfl
 ·simp only[cond_true]; exact Am1 h a
theorem Ja (a c:Q2):pieceE E b high s a c = -(pieceE E b high s c a):=by
 unfold pieceE
 cases h1:ins b high s a <;> cases h2:ins b high s c <;> simp only[cond_true,cond_false]
 ·grind
 ·have hne:=GL (b:=b) (high:=high) (s:=s) (a:=a) (c:=c) (by rw[h1,h2]; simp)
  rw[M5 hne]
  exact XP h _ _
 ·have hne:=GL (b:=b) (high:=high) (s:=s) (a:=a) (c:=c) (by rw[h1,h2]; simp)
  rw[M5 hne]
  exact XP h _ _
 ·exact XP h _ _
theorem J1 {a c:Q2} {t:Rat} (h0 : 0≤t) (h1:t≤1) (ha:ins b high s a=true):pieceE E b high s a (mixQ a c t) + pieceE E b high s (mixQ a c t) c=pieceE E b high s a c:=by
 by_cases ht0:t=0
 ·rw[ht0,TR,Tt h]; grind
 by_cases ht1:t=1
 ·rw[ht1,Ak1,Tt h]; grind
 cases hc:ins b high s c with
 | true =>
  have hm:=ST h0 h1 true ha hc
  unfold pieceE
  rw[ha,hc,hm]
  simp only[cond_true]
  exact RP h a c t h0 h1
 | false =>
  have hne:=GL (b:=b) (high:=high) (s:=s) (a:=a) (c:=c) (by rw[ha,hc]; simp)
  cases hm:ins b high s (mixQ a c t) with
  | false =>
   have e:=An2 (b:=b) (s:=s) ht0 hne
   unfold pieceE
   rw[ha,hc,hm]
   simp only[cond_true,cond_false]
   rw[e]; grind
  | true =>
   have hne2:=GL (b:=b) (high:=high) (s:=s) (a:=mixQ a c t) (c:=c) (by rw[hm,hc]; simp)
   have e:cutQ b s (mixQ a c t) c=cutQ b s a c:=by
    rw[M5 hne2,ZI a c t,An2 (fun h=>ht1 (by grind)) (fun h=>hne h.symm),←M5 hne]
   unfold pieceE
   rw[ha,hc,hm]
   simp only[cond_true,cond_false]
   rw[e]
   have hd:crd b c-crd b a≠0:=fun e=>hne (by grind)
   have e1:=Rat.div_mul_cancel (a:=s-crd b a) hd
   have hcm:=Nl b a c t
   unfold ins at ha hc hm
   have hu:t≤(s-crd b a)/(crd b c-crd b a)∧(s-crd b a)/(crd b c-crd b a)≤1:=by
    rw[hcm] at hm
    generalize (s-crd b a)/(crd b c-crd b a)=u at *
    generalize crd b a=p at *
    generalize crd b c=q at *
    cases high with
    | false =>
     simp only[Bool.false_eq_true,if_false,decide_eq_true_eq,decide_eq_false_iff_not,Rat.not_le] at ha hc hm
     have hpos : 0<q-p:=by grind
     constructor
     ·refine Rat.le_of_mul_le_mul_right (c:=q-p) ?_ hpos
      rw[e1]; grind
     ·refine Rat.le_of_mul_le_mul_right (c:=q-p) ?_ hpos
      rw[e1]; grind
    | true =>
     simp only[if_true,decide_eq_true_eq,decide_eq_false_iff_not,Rat.not_le] at ha hc hm
     have hpos : 0<p-q:=by grind
     have e2:u*(p-q)=p-s:=by grind
     constructor
     ·refine Rat.le_of_mul_le_mul_right (c:=p-q) ?_ hpos
      rw[e2]; grind
     ·refine Rat.le_of_mul_le_mul_right (c:=p-q) ?_ hpos
      rw[e2]; grind
   exact AD6 h h0 hu.1 hu.2
theorem Ix:Val (pieceE E b high s):=by
 refine ⟨Ja h,fun a c t h0 h1=>?_⟩
 cases ha:ins b high s a with
 | true=>exact J1 h h0 h1 ha
 | false =>
  cases hc:ins b high s c with
  | true =>
   have:=J1 h (a:=c) (c:=a) (t:=1-t) (by grind) (by grind) hc
   rw[←ZI a c t] at this
   have a1:=Ja h (b:=b) (high:=high) (s:=s) a (mixQ a c t)
   have a2:=Ja h (b:=b) (high:=high) (s:=s) (mixQ a c t) c
   have a3:=Ja h (b:=b) (high:=high) (s:=s) a c
   grind
  | false =>
   have hm:=ST h0 h1 false ha hc
   unfold pieceE
   rw[ha,hc,hm]
   simp only[cond_false]
   grind
theorem Ah3 (a c:Q2):pieceE E b false s a c + pieceE E b true s a c=gE E b s a c:=by
 have hcut:cutQ b s a c=mixQ a c ((s-crd b a)/(crd b c-crd b a)):=rfl
 have ha:crd b a=s→cutQ b s a c=a:=by
  intro h1
  rw[hcut,h1,show s-s=(0:Rat) by grind,Rat.div_def,Rat.zero_mul,TR]
 have hcc:crd b c=s→crd b c≠crd b a→cutQ b s a c=c:=by
  intro h1 h2
  have hd:crd b c-crd b a≠0:=fun e=>h2 (by grind)
  rw[hcut,←h1,Rat.div_def,Rat.mul_inv_cancel _ hd,Ak1]
 have hself:=Am1 h (b:=b) (s:=s)
 have hline:=@Xk E h b s a c
 have flo:∀ p:Q2,crd b p<s→ins b false s p=true∧ins b true s p=false:=fun p h=>⟨decide_eq_true (Rat.le_of_lt h),decide_eq_false (by grind)⟩
 have fon:∀ p:Q2,crd b p=s→ins b false s p=true∧ins b true s p=true:=fun p h=>⟨decide_eq_true (by rw[h]; exact Rat.le_refl),decide_eq_true (by rw[h]; exact Rat.le_refl)⟩
 have fhi:∀ p:Q2,s<crd b p→ins b false s p=false∧ins b true s p=true:=fun p h=>⟨decide_eq_false (by grind),decide_eq_true (Rat.le_of_lt h)⟩
 have strict:∀ x y:Rat,0<x→x<y→0≤x/y∧x/y≤1:=fun x y h1 h2=>R7 (Rat.le_of_lt h1) (Rat.le_of_lt h2) (by grind)
 unfold pieceE
 rcases tri (crd b a) s with h1 | h1 | h1
 ·obtain ⟨a1,a2⟩:=flo a h1
  rcases tri (crd b c) s with h2 | h2 | h2
  ·obtain ⟨c1,c2⟩:=flo c h2
   simp only[a1,a2,c1,c2,cond_true,cond_false,Rat.add_zero]
  ·obtain ⟨c1,c2⟩:=fon c h2
   simp only[a1,a2,c1,c2,cond_true,cond_false]
   rw[hcc h2 (by rw[h2]; intro e; rw[e] at h1; exact absurd h1 (Rat.lt_irrefl)),hself,Rat.add_zero]
  ·obtain ⟨c1,c2⟩:=fhi c h2
   simp only[a1,a2,c1,c2,cond_true,cond_false]
   obtain ⟨d0,d1⟩:=R7 (x:=s-crd b a) (y:=crd b c-crd b a) (by grind) (by grind) (by grind)
   exact RP h a c _ d0 d1
 ·obtain ⟨a1,a2⟩:=fon a h1
  rcases tri (crd b c) s with h2 | h2 | h2
  ·obtain ⟨c1,c2⟩:=flo c h2
   simp only[a1,a2,c1,c2,cond_true,cond_false]
   rw[ha h1,hself,Rat.add_zero]
  ·obtain ⟨c1,c2⟩:=fon c h2
   simp only[a1,a2,c1,c2,cond_true,cond_false]
   rw[hline h1 h2,Rat.add_zero]
  ·obtain ⟨c1,c2⟩:=fhi c h2
   simp only[a1,a2,c1,c2,cond_true,cond_false]
   rw[ha h1,hself,Rat.zero_add]
 ·obtain ⟨a1,a2⟩:=fhi a h1
  have hdd:(s-crd b a)/(crd b c-crd b a)=(crd b a-s)/(crd b a-crd b c):=by
   by_cases hd:crd b c-crd b a=0
   ·have hd':crd b a-crd b c=0:=by grind
    rw[hd,hd',Rat.div_def,Rat.div_def,Rat.inv_zero,Rat.mul_zero,Rat.mul_zero]
   ·have e1:=Rat.div_mul_cancel (a:=s-crd b a) hd
    have e2:=Rat.div_mul_cancel (a:=crd b a-s) (b:=crd b a-crd b c) (fun e=>hd (by grind))
    generalize (s-crd b a)/(crd b c-crd b a)=u at *
    generalize (crd b a-s)/(crd b a-crd b c)=v at *
    have e3:(u-v)*(crd b c-crd b a)=0:=by grind
    rcases Rat.mul_eq_zero.1 e3 with h | h
    ·grind
    ·exact absurd h hd
  rcases tri (crd b c) s with h2 | h2 | h2
  ·obtain ⟨c1,c2⟩:=flo c h2
   simp only[a1,a2,c1,c2,cond_true,cond_false]
   obtain ⟨d0,d1⟩:=R7 (x:=crd b a-s) (y:=crd b a-crd b c) (by grind) (by grind) (by grind)
   rw[Rat.add_comm,hcut,hdd]
   exact RP h a c _ d0 d1
  ·obtain ⟨c1,c2⟩:=fon c h2
   simp only[a1,a2,c1,c2,cond_true,cond_false]
   rw[hcc h2 (by rw[h2]; intro e; rw[e] at h1; exact absurd h1 (Rat.lt_irrefl)),hself,Rat.zero_add]
  ·obtain ⟨c1,c2⟩:=fhi c h2
   simp only[a1,a2,c1,c2,cond_true,cond_false,Rat.zero_add]
end
theorem ZH {E:Q2→Q2→Rat} (h:Val E) (b:Bool) (s:Rat) (l:List Q2):sumE E (clipQ b false s l) + sumE E (clipQ b true s l)=sumE E l:=by
 rw[Dz h,Dz h,AF6 E b s l]
 exact Aj7 _ _ (gE E b s) (Ah3 h) _ _
end Go.Proofs.YthipdlhknbhiiaaGreat.Ev

end
section
namespace Go.Proofs.YthipdlhknbhiiaaGreat.Ev
open Go
theorem Yl {E:Q2→Q2→Rat} (h:Val E) {b:Bool} {s:Rat}:∀ (l:List Q2) (a:Q2),crd b a=s→(∀ p∈l,crd b p=s)→chn (gE E b s) a l=0
 | [],a,_,_=>rfl
 | c::l,a,ha,hl=>by
  have hc:=hl c (by simp)
  rw[chn,Xk h ha hc,Yl h l c hc (fun p hp=>hl p (List.mem_cons_of_mem _ hp))]
  grind
theorem AE0 {E:Q2→Q2→Rat} (h:Val E) {b:Bool} {s:Rat} {l:List Q2} (hl:∀ p∈l,crd b p=s):sumE E l=0:=by
 rw[AF6 E b s]
 cases hm:l with
 | nil=>rfl
 | cons c m =>
  have hne:l≠[]:=by rw[hm]; simp
  rw[←hm]
  exact Yl h l _ (hl _ (Lh hne)) hl
theorem VR {b high:Bool} {s:Rat}:∀ (l:List Q2) (a:Q2) (p:Q2),p∈clipFrom b high s a l→(p∈l∧ins b high s p=true)∨crd b p=s
 | [],a,p,h=>by cases h
 | c::l,a,p,h=>by
  rw[clipFrom] at h
  rcases List.mem_append.1 h with h | h
  ·unfold stepQ at h
   rcases List.mem_append.1 h with h | h
   ·by_cases e:ins b high s a=ins b high s c
    ·rw[if_pos e] at h; cases h
    ·rw[if_neg e] at h
     rw[List.mem_singleton.1 h]
     exact .inr (XA (GL e))
   ·by_cases e:ins b high s c=true
    ·rw[if_pos e] at h
     rw[List.mem_singleton.1 h]
     exact .inl ⟨by simp,e⟩
    ·rw[if_neg e] at h; cases h
  ·rcases VR l c p h with h | h
   ·exact .inl ⟨List.mem_cons_of_mem _ h.1,h.2⟩
   ·exact .inr h
theorem AP6 {E:Q2→Q2→Rat} (h:Val E) {b:Bool} {s t:Rat} (hst:s≤t) (l:List Q2):sumE E (clipQ b true t (clipQ b false s l))=0:=by
 refine AE0 h (b:=b) (s:=t) fun p hp=>?_
 rcases VR _ _ p hp with ⟨h1,h2⟩ | h1
 ·have h3:=C3 _ _ p h1
  rw[Xj] at h3
  rw[Ag0] at h2
  have h3:=of_decide_eq_true h3
  have h2:=of_decide_eq_true h2
  grind
 ·exact h1
theorem At6 {E:Q2→Q2→Rat} (h:Val E) {b:Bool} {s t:Rat} (hst:s≤t) (l:List Q2):sumE E (clipQ b true t (clipQ b true s l))=sumE E (clipQ b true t l):=by
 have h1:=ZH (Ix h (b:=b) (high:=true) (s:=t)) b s l
 rw[←Dz h,←Dz h,←Dz h,AP6 h hst] at h1
 grind
def boxQ (lo hi:Q2) (l:List Q2):List Q2:=clipQ true false hi.2 (clipQ true true lo.2 (clipQ false false hi.1 (clipQ false true lo.1 l)))
theorem Aw0 (lo hi:Q2) (mid:Rat) (h1:lo.1≤mid) (h2:mid≤hi.1) (l:List Q2):area2 (boxQ lo (mid,hi.2) l) + area2 (boxQ (mid,lo.2) hi l)=area2 (boxQ lo hi l):=by
 have hW:Val (pieceE (pieceE crs true false hi.2) true true lo.2):=Ix (Ix W0)
 have key:∀ m:List Q2,area2 (clipQ true false hi.2 (clipQ true true lo.2 m))=sumE (pieceE (pieceE crs true false hi.2) true true lo.2) m:=by
  intro m
  rw[Aw2,Dz W0,Dz (Ix W0)]
 unfold boxQ
 simp only
 rw[key,key,key]
 generalize pieceE (pieceE crs true false hi.2) true true lo.2=W at hW
 have hU:Val (pieceE W false false hi.1):=Ix hW
 have s1:=ZH hU false mid (clipQ false true lo.1 l)
 rw[At6 hU h1] at s1
 have s2:sumE (pieceE W false false hi.1) (clipQ false false mid (clipQ false true lo.1 l))=sumE W (clipQ false false mid (clipQ false true lo.1 l)):=by
  rw[←Dz hW]
  rw[NE (b:=false) (high:=false) (s:=hi.1) (fun p hp=>by
   have h3:=C3 _ _ p hp
   rw[Xj] at h3 ⊢
   exact decide_eq_true (Rat.le_trans (of_decide_eq_true h3) h2))]
 rw[s2,←Dz hW,←Dz hW] at s1
 exact s1
theorem Az8 {b high b' high':Bool} {s s':Rat} {a c:Q2} (hne:ins b high s a≠ins b high s c) (ha:ins b' high' s' a=true) (hc:ins b' high' s' c=true):ins b' high' s' (cutQ b s a c)=true:=by
 have hcr:=GL hne
 have hd:crd b c-crd b a≠0:=fun e=>hcr (by grind)
 have e1:=Rat.div_mul_cancel (a:=s-crd b a) hd
 have hu : 0≤(s-crd b a)/(crd b c-crd b a)∧(s-crd b a)/(crd b c-crd b a)≤1:=by
  unfold ins at hne
  generalize (s-crd b a)/(crd b c-crd b a)=u at *
  generalize crd b a=p at *
  generalize crd b c=q at *
  have hor:(p≤s∧s≤q∧0<q-p)∨(q≤s∧s≤p∧0<p-q):=by
   cases high with
   | false =>
    simp only[Bool.false_eq_true,if_false] at hne
    by_cases k1:p≤s <;> by_cases k2:q≤s
    ·exact absurd (by rw[decide_eq_true k1,decide_eq_true k2]) hne
    ·left; grind
    ·right; grind
    ·exact absurd (by rw[decide_eq_false k1,decide_eq_false k2]) hne
   | true =>
    simp only[if_true] at hne
    by_cases k1:s≤p <;> by_cases k2:s≤q
    ·exact absurd (by rw[decide_eq_true k1,decide_eq_true k2]) hne
    ·right; grind
    ·left; grind
    ·exact absurd (by rw[decide_eq_false k1,decide_eq_false k2]) hne
  rcases hor with ⟨k1,k2,k3⟩ | ⟨k1,k2,k3⟩
  ·constructor
   ·refine Rat.le_of_mul_le_mul_right (c:=q-p) ?_ k3
    rw[e1]; grind
   ·refine Rat.le_of_mul_le_mul_right (c:=q-p) ?_ k3
    rw[e1]; grind
  ·have e2:u*(p-q)=p-s:=by grind
   constructor
   ·refine Rat.le_of_mul_le_mul_right (c:=p-q) ?_ k3
    rw[e2]; grind
   ·refine Rat.le_of_mul_le_mul_right (c:=p-q) ?_ k3
    rw[e2]; grind
 exact ST hu.1 hu.2 true ha hc
theorem Wh {b high b' high':Bool} {s s':Rat}:∀ (l:List Q2) (a:Q2),ins b' high' s' a=true→(∀ p∈l,ins b' high' s' p=true)→∀ p∈clipFrom b high s a l,ins b' high' s' p=true
 | [],a,_,_,p,h=>by cases h
 | c::l,a,ha,hl,p,h=>by
  have hc:=hl c (by simp)
  rw[clipFrom] at h
  rcases List.mem_append.1 h with h | h
  ·unfold stepQ at h
   rcases List.mem_append.1 h with h | h
   ·by_cases e:ins b high s a=ins b high s c
    ·rw[if_pos e] at h; cases h
    ·rw[if_neg e] at h
     rw[List.mem_singleton.1 h]
     exact Az8 e ha hc
   ·by_cases e:ins b high s c=true
    ·rw[if_pos e] at h
     rw[List.mem_singleton.1 h]
     exact hc
    ·rw[if_neg e] at h; cases h
  ·exact Wh l c hc (fun q hq=>hl q (List.mem_cons_of_mem _ hq)) p h
theorem Fi {b high b' high':Bool} {s s':Rat} {l:List Q2} (hl:∀ p∈l,ins b' high' s' p=true):∀ p∈clipQ b high s l,ins b' high' s' p=true:=by
 cases hm:l with
 | nil=>intro p hp; cases hp
 | cons c m =>
  have hne:l≠[]:=by rw[hm]; simp
  rw[←hm]
  exact Wh l _ (hl _ (Lh hne)) hl
theorem As9 (lo hi:Q2) (l:List Q2):boxQ lo hi (boxQ lo hi l)=boxQ lo hi l:=by
 have h1:∀ p∈clipQ false true lo.1 l,ins false true lo.1 p=true:=C3 _ _
 have h2:∀ p∈clipQ false false hi.1 (clipQ false true lo.1 l),ins false false hi.1 p=true:=C3 _ _
 have h3:∀ p∈clipQ true true lo.2 (clipQ false false hi.1 (clipQ false true lo.1 l)),ins true true lo.2 p=true:=C3 _ _
 have h4:∀ p∈boxQ lo hi l,ins true false hi.2 p=true:=C3 _ _
 have k1:∀ p∈boxQ lo hi l,ins false true lo.1 p=true:=Fi (Fi (Fi h1))
 have k2:∀ p∈boxQ lo hi l,ins false false hi.1 p=true:=Fi (Fi h2)
 have k3:∀ p∈boxQ lo hi l,ins true true lo.2 p=true:=Fi h3
 generalize boxQ lo hi l=m at *
 unfold boxQ
 rw[NE k1,NE k2,NE k3,NE h4]
end Go.Proofs.YthipdlhknbhiiaaGreat.Ev

end
section
namespace Go.Proofs.YthipdlhknbhiiaaGreat.Ev
open Go
theorem S1K:Sz 1 (1:Rat):=by have:=K0 (z:=1) (We (k:=1) (by omega)) (by omega); exact this
def SzN (K:Nat) (ps:List Q2):Prop:=ps.length≤1000∧∀ p∈ps,SzP K p
theorem Lg {K:Nat} (hK:K≤2972) {p:Q2} {s:Rat} (hp:SzP K p) (hs:Sz K s) (b high:Bool):DW high b (rqF s) (fl (rp p))=some (high,(b,(rqF s,ins b high s p))):=by
 have hc:=C6 hp b
 unfold DW
 simp only[rq_e,peta]
 cases high with
 | true =>
  simp only[cT]
  rw[Rn,obs,BS (k:=K) (by omega) hc hs,obs,Ag0]
  have:(!decide (crd b p<s))=decide (s≤crd b p):=by
   rw[Bool.eq_iff_iff]; simp[Rat.not_lt]
  rw[this]
 | false =>
  simp only[cF]
  rw[Rn,obs,BS (k:=K) (by omega) hs hc,obs,Xj]
  have:(!decide (s<crd b p))=decide (crd b p≤s):=by
   rw[Bool.eq_iff_iff]; simp[Rat.not_lt]
  rw[this]
section
variable {K:Nat} (hK:K≤2972) {a c:Q2} {t:Rat} (ha:SzP K a) (hc:SzP K c) (ht:Sz (4*K + 2) t)
include hK ha hc ht
theorem AU1:MQ (fl (rp a)) (fl (rp c)) (rqF t)=some (fl (rp (mixQ a c t))):=by
 have h1:Sz (4*K + 4) (1-t):=(Hi S1K ht).mono (by omega)
 have m1:∀ x:Rat,Sz K x→Sz (5*K + 4) ((1-t)*x):=fun x hx=>(J7 h1 hx).mono (by omega)
 have m2:∀ x:Rat,Sz K x→Sz (5*K + 4) (t*x):=fun x hx=>(J7 ht hx).mono (by omega)
 unfold MQ
 simp only[rq_e,peta,fl_x,fl_y,F1,F2]
 rw[Ax6,obs]
 try simp only[rq_e]
 rw[Lb (k:=4*K + 2) (by omega) (S1K.mono (by omega)) ht,obs]
 try simp only[rq_e]
 rw[Gp (k:=4*K + 4) (by omega) h1 (ha.1.mono (by omega)),obs,Gp (k:=4*K + 4) (by omega) (ht.mono (by omega)) (hc.1.mono (by omega)),obs]
 try simp only[rq_e]
 rw[Gu (k:=5*K + 4) (by omega) (m1 _ ha.1) (m2 _ hc.1),obs,Gp (k:=4*K + 4) (by omega) h1 (ha.2.mono (by omega)),obs,Gp (k:=4*K + 4) (by omega) (ht.mono (by omega)) (hc.2.mono (by omega)),obs]
 try simp only[rq_e]
 rw[Gu (k:=5*K + 4) (by omega) (m1 _ ha.2) (m2 _ hc.2),obs]
 unfold mixQ
 rw[show a.1 + t*(c.1-a.1)=(1-t)*a.1 + t*c.1 by grind,show a.2 + t*(c.2-a.2)=(1-t)*a.2 + t*c.2 by grind]
 rfl
theorem AS2:GI (fl (rp a)) (fl (rp c)) (rqF t)=some (fl (rp (mixQ a c t))):=by
 have key:∀ x y:Rat,Sz K x→Sz K y→D4 (rqF x) (rqF y) (rqF t)=some (rqF (x + t*(y-x))):=by
  intro x y hx hy
  unfold D4
  simp only[rq_e]
  rw[XE (k:=K) (by omega) hy hx,obs]
  try simp only[rq_e]
  have h1:Sz (4*K + 2) (y-x):=(Hi hy hx).mono (by omega)
  rw[AP1 (k:=4*K + 2) (by omega) ht h1,obs]
  try simp only[rq_e]
  rw[Rs (k:=6*K + 3) (by omega) (hx.mono (by omega)) ((J7 ht (Hi hy hx)).mono (by omega)),obs]
 unfold GI
 simp only[rq_e,peta,fl_x,fl_y,F1,F2]
 rw[key _ _ ha.1 hc.1,obs,key _ _ ha.2 hc.2,obs]
 rfl
theorem AK5:SzP (7*K + 4) (mixQ a c t):=by
 have key:∀ x y:Rat,Sz K x→Sz K y→Sz (7*K + 4) (x + t*(y-x)):=fun x y hx hy=>(Py hx (J7 ht (Hi hy hx))).mono (by omega)
 exact ⟨key _ _ ha.1 hc.1,key _ _ ha.2 hc.2⟩
end
section
variable {K:Nat} (hK:K≤2972) {a c:Q2} {s:Rat} {b:Bool} (ha:SzP K a) (hc:SzP K c) (hs:Sz K s) (hne:crd b c≠crd b a)
include hK ha hc hs hne
theorem AB7:Sz (4*K + 2) ((s-crd b a)/(crd b c-crd b a)) :=
 (AF7 (Hi hs (C6 ha b)) (Hi (C6 hc b) (C6 ha b)) (fun e=>hne (by grind))).mono (by omega)
theorem AO7:SzP (7*K + 4) (cutQ b s a c):=AK5 hK ha hc (AB7 hK ha hc hs hne)
theorem AE7:C0 (rqF (s-crd b a)) (rqF (crd b c-crd b a))=some (rqF ((s-crd b a)/(crd b c-crd b a))) :=
 Vk (k:=2*K + 1) (by omega) ((Hi hs (C6 ha b)).mono (by omega)) ((Hi (C6 hc b) (C6 ha b)).mono (by omega)) (fun e=>hne (by grind))
theorem Ar4:GQ (fl (rp a)) (fl (rp c)) b (rqF s)=some (fl (rp (cutQ b s a c))):=by
 have hon:=XA (s:=s) hne
 unfold GQ
 simp only[rq_e,peta]
 rw[WJ,obs]
 try simp only[rq_e]
 rw[XE (k:=K) (by omega) hs (C6 ha b),obs,WJ,obs]
 try simp only[rq_e]
 rw[XE (k:=K) (by omega) (C6 hc b) (C6 ha b),obs]
 try simp only[rq_e]
 rw[AL1 (k:=2*K + 1) (by omega) ((Hi hs (C6 ha b)).mono (by omega)) ((Hi (C6 hc b) (C6 ha b)).mono (by omega)) (fun e=>hne (by grind)),obs]
 try simp only[rq_e]
 rw[AS2 hK ha hc (AB7 hK ha hc hs hne),obs,show mixQ a c ((s-crd b a)/(crd b c-crd b a))=cutQ b s a c from rfl]
 generalize cutQ b s a c=m at hon
 cases b with
 | true =>
  rw[cT]
  have:m.2=s:=hon
  rw[←this]
  rfl
 | false =>
  rw[cF]
  have:m.1=s:=hon
  rw[←this]
  rfl
end
theorem Al7 {K:Nat} (hK:K≤2972) {p:Q2} {s:Rat} (hp:SzP K p) (hs:Sz K s) (b high:Bool):∃ v,Ec (fl (rp p)) b (rqF s) high=some v∧decide (v≤0)=ins b high s p:=by
 have hc:=C6 hp b
 unfold Ec
 simp only[rq_e,peta]
 rw[WJ,obs]
 try simp only[rq_e]
 rw[LH (k:=K) (by omega) hc hs,obs]
 have h1:=@Am8 (crd b p) s
 have h2:=@Ls (crd b p) s
 have hb : -1≤cmpQ (crd b p) s∧cmpQ (crd b p) s≤1:=by unfold cmpQ; split <;> (try split) <;> omega
 cases high with
 | true =>
  refine ⟨_,rfl,?_⟩
  rw[wrapI (by omega) (by omega),Ag0]
  refine decide_eq_decide.2 ?_
  rw[←Rat.not_lt,←h1]
  omega
 | false =>
  refine ⟨_,rfl,?_⟩
  rw[Xj]
  refine decide_eq_decide.2 ?_
  rw[←Rat.not_lt,←h2]
  omega
section
variable {K:Nat} (hK:K≤2972) {ps:List Q2} {s:Rat} (hps:SzN K ps) (hs:Sz K s) (b high:Bool)
include hK hps hs
theorem XR:∀ (m k:Nat) (a:Q2) (out:List Q2),k + m=ps.length→(k<ps.length→ps[(k + ps.length-1)%ps.length]? = some a)→out.length≤2*k →
  loopM (fun (s:(Bool×(RF×(Bool×((List (RQ×RQ))×((List (RQ×RQ))×((List (RQ×RQ))×(Int×Int))))))))=>CW s.1 s.2.1 s.2.2.1 s.2.2.2.1 s.2.2.2.2.1 s.2.2.2.2.2.1 s.2.2.2.2.2.2.1 s.2.2.2.2.2.2.2)
   (b,(rqF s,(high,(out.map rp,(ps.map rp,(ps.map rp,((ps.length:Int),(k:Int))))))))=some ((out++clipFrom b high s a (ps.drop k)).map rp):=by
 intro m
 induction m with
 | zero =>
  intro k a out hk _ _
  refine Ap ?_
  show CW b (rqF s) high (out.map rp) (ps.map rp) (ps.map rp) (ps.length:Int) (k:Int)=_
  unfold CW
  rw[decide_eq_false (by omega),List.drop_eq_nil_of_le (by omega),clipFrom,List.append_nil]
  rfl
 | succ m ih =>
  intro k a out hk ha hout
  have h40:=hps.1
  have hlt:k<ps.length:=by omega
  have ha:=ha hlt
  have hd:ps.drop k=ps[k]::ps.drop (k + 1):=List.drop_eq_getElem_cons hlt
  have hg:ps[k]? = some ps[k]:=List.getElem?_eq_getElem hlt
  generalize ps[k]=c at hd hg
  have sa:=hps.2 a (List.mem_of_getElem? ha)
  have sc:=hps.2 c (List.mem_of_getElem? hg)
  have hgo:CW b (rqF s) high (out.map rp) (ps.map rp) (ps.map rp) (ps.length:Int) (k:Int)=some (.inl (b,(rqF s,(high,((out++stepQ b high s a c).map rp,(ps.map rp,(ps.map rp,((ps.length:Int),((k + 1:Nat):Int))))))))):=by
   unfold CW
   have hz:(((ps.length:Nat):Int)==0)=false:=beq_eq_false_iff_ne.2 (by omega)
   rw[decide_eq_true (by omega),cT,Fm hg,obs,List.length_map,hz,cF,Ak2 hlt (by omega),Fm ha,obs]
   simp only[rq_e,peta,fl_e]
   rw[Lg hK sa hs,obs]
   simp only
   rw[Lg hK sc hs,obs]
   simp only
   unfold stepQ
   have ol:(out.map rp).length≤100000:=by rw[List.length_map]; omega
   by_cases hne:ins b high s a=ins b high s c
   ·rw[show (ins b high s a==ins b high s c)=true from beq_iff_eq.2 hne,nT,cF,obs,sEr,if_pos hne]
    simp only[rq_e,peta]
    rw[Lg hK sc hs,obs]
    simp only
    cases hi:ins b high s c with
    | true =>
     rw[cT,un_e,MZ,appP ol,obs,wrap1 (by omega)]
     simp
    | false =>
     rw[cF,wrap1 (by omega)]
     simp
   ·have hcut:=GL hne
    rw[show (ins b high s a==ins b high s c)=false from beq_eq_false_iff_ne.2 hne,nF,cT,Rn,obs]
    try simp only[rq_e]
    rw[Lb (k:=K) (by omega) hs (C6 sa b),obs,Rn,obs,obs]
    try simp only[rq_e]
    rw[Lb (k:=K) (by omega) (C6 sc b) (C6 sa b),obs]
    try simp only[rq_e]
    rw[AE7 hK sa sc hs hcut,obs]
    try simp only[rq_e]
    rw[AU1 hK sa sc (AB7 hK sa sc hs hcut),obs,show mixQ a c ((s-crd b a)/(crd b c-crd b a))=cutQ b s a c from rfl,un_e,MZ,appP ol,obs,obs,sEr,if_neg hne]
    simp only[rq_e,peta]
    rw[Lg hK sc hs,obs]
    simp only
    cases hi:ins b high s c with
    | true =>
     rw[cT,un_e,MZ,appP (by simp; omega),obs,wrap1 (by omega)]
     simp
    | false =>
     rw[cF,wrap1 (by omega)]
     simp
  refine (AX (f:=fun (s:(Bool×(RF×(Bool×((List (RQ×RQ))×((List (RQ×RQ))×((List (RQ×RQ))×(Int×Int))))))))=>CW s.1 s.2.1 s.2.2.1 s.2.2.2.1 s.2.2.2.2.1 s.2.2.2.2.2.1 s.2.2.2.2.2.2.1 s.2.2.2.2.2.2.2)
   (s:=(b,(rqF s,(high,(out.map rp,(ps.map rp,(ps.map rp,((ps.length:Int),(k:Int))))))))) hgo).trans ?_
  have hst:=Sf b high s a c
  rw[ih (k + 1) c (out++stepQ b high s a c) (by omega) (fun h=>by rw[Wg hlt]; exact hg) (by rw[List.length_append]; omega),hd,clipFrom,List.append_assoc]
theorem WL:∀ (m k:Nat) (a:Q2) (out:List Q2),k + m=ps.length→(k<ps.length→ps[(k + ps.length-1)%ps.length]? = some a)→out.length≤2*k →
  loopM (fun (s:(RF×((List (RQ×RQ))×((List (RQ×RQ))×(Bool×(Bool×((List (RQ×RQ))×(Int×Int))))))))=>BL s.1 s.2.1 s.2.2.1 s.2.2.2.1 s.2.2.2.2.1 s.2.2.2.2.2.1 s.2.2.2.2.2.2.1 s.2.2.2.2.2.2.2)
   (rqF s,(out.map rp,(ps.map rp,(b,(high,(ps.map rp,((ps.length:Int),(k:Int))))))))=some ((out++clipFrom b high s a (ps.drop k)).map rp):=by
 intro m
 induction m with
 | zero =>
  intro k a out hk _ _
  refine Ap ?_
  show BL (rqF s) (out.map rp) (ps.map rp) b high (ps.map rp) (ps.length:Int) (k:Int)=_
  unfold BL
  rw[decide_eq_false (by omega),List.drop_eq_nil_of_le (by omega),clipFrom,List.append_nil]
  rfl
 | succ m ih =>
  intro k a out hk ha hout
  have h40:=hps.1
  have hlt:k<ps.length:=by omega
  have ha:=ha hlt
  have hd:ps.drop k=ps[k]::ps.drop (k + 1):=List.drop_eq_getElem_cons hlt
  have hg:ps[k]? = some ps[k]:=List.getElem?_eq_getElem hlt
  generalize ps[k]=c at hd hg
  have sa:=hps.2 a (List.mem_of_getElem? ha)
  have sc:=hps.2 c (List.mem_of_getElem? hg)
  have hgo:BL (rqF s) (out.map rp) (ps.map rp) b high (ps.map rp) (ps.length:Int) (k:Int)=some (.inl (rqF s,((out++stepQ b high s a c).map rp,(ps.map rp,(b,(high,(ps.map rp,((ps.length:Int),((k + 1:Nat):Int))))))))):=by
   unfold BL
   have hz:(((ps.length:Nat):Int)==0)=false:=beq_eq_false_iff_ne.2 (by omega)
   obtain ⟨v,v1,v2⟩:=Al7 hK sa hs b high
   obtain ⟨w,w1,w2⟩:=Al7 hK sc hs b high
   rw[decide_eq_true (by omega),cT,Fm hg,obs,List.length_map,hz,cF,Ak2 hlt (by omega),Fm ha,obs]
   simp only[rq_e,peta,fl_e]
   rw[v1,obs,w1,obs,v2,w2]
   unfold stepQ
   have ol:(out.map rp).length≤100000:=by rw[List.length_map]; omega
   by_cases hne:ins b high s a=ins b high s c
   ·rw[show (ins b high s a==ins b high s c)=true from beq_iff_eq.2 hne,nT,cF,if_pos hne]
    cases hi:ins b high s c with
    | true =>
     rw[cT,appP ol,obs,wrap1 (by omega)]
     simp
    | false =>
     rw[cF,wrap1 (by omega)]
     simp
   ·have hcut:=GL hne
    rw[show (ins b high s a==ins b high s c)=false from beq_eq_false_iff_ne.2 hne,nF,cT,Ar4 hK sa sc hs hcut,obs,un_e,MZ,appP ol,obs,if_neg hne]
    cases hi:ins b high s c with
    | true =>
     rw[cT,appP (by simp; omega),obs,wrap1 (by omega)]
     simp
    | false =>
     rw[cF,wrap1 (by omega)]
     simp
  refine (AX (f:=fun (s:(RF×((List (RQ×RQ))×((List (RQ×RQ))×(Bool×(Bool×((List (RQ×RQ))×(Int×Int))))))))=>BL s.1 s.2.1 s.2.2.1 s.2.2.2.1 s.2.2.2.2.1 s.2.2.2.2.2.1 s.2.2.2.2.2.2.1 s.2.2.2.2.2.2.2)
   (s:=(rqF s,(out.map rp,(ps.map rp,(b,(high,(ps.map rp,((ps.length:Int),(k:Int))))))))) hgo).trans ?_
  have hst:=Sf b high s a c
  rw[ih (k + 1) c (out++stepQ b high s a c) (by omega) (fun h=>by rw[Wg hlt]; exact hg) (by rw[List.length_append]; omega),hd,clipFrom,List.append_assoc]
theorem YX (h : 0<ps.length):ps[(0 + ps.length-1)%ps.length]? = some (lastQ ps):=by
 rw[Nat.zero_add,Nat.mod_eq_of_lt (by omega),←List.getLast?_eq_getElem?]
 unfold lastQ
 cases hl:ps.getLast? with
 | none=>rw[List.getLast?_eq_none_iff.1 hl] at h; simp at h
 | some x=>rfl
theorem Ri:Fw (ps.map rp) b high (rqF s)=some ((clipQ b high s ps).map rp):=by
 have h:=XR hK hps hs b high ps.length 0 (lastQ ps) [] (by omega) (fun h=>YX hK hps hs h) (by simp)
 rw[List.drop_zero,List.nil_append] at h
 have h':loopM (fun (s:(Bool×(RF×(Bool×((List (RQ×RQ))×((List (RQ×RQ))×((List (RQ×RQ))×(Int×Int))))))))=>CW s.1 s.2.1 s.2.2.1 s.2.2.2.1 s.2.2.2.2.1 s.2.2.2.2.2.1 s.2.2.2.2.2.2.1 s.2.2.2.2.2.2.2)
   (b,(rqF s,(high,((List.nil:List RPt),(ps.map rp,(ps.map rp,((ps.length:Int),(0:Int))))))))=_:=h
 unfold Fw
 simp only[rq_e,peta]
 rw[List.length_map,h',obs]
 rfl
theorem IS:Cs (ps.map rp) b (rqF s) high=some ((clipQ b high s ps).map rp):=by
 have h:=WL hK hps hs b high ps.length 0 (lastQ ps) [] (by omega) (fun h=>YX hK hps hs h) (by simp)
 rw[List.drop_zero,List.nil_append] at h
 have h':loopM (fun (s:(RF×((List (RQ×RQ))×((List (RQ×RQ))×(Bool×(Bool×((List (RQ×RQ))×(Int×Int))))))))=>BL s.1 s.2.1 s.2.2.1 s.2.2.2.1 s.2.2.2.2.1 s.2.2.2.2.2.1 s.2.2.2.2.2.2.1 s.2.2.2.2.2.2.2)
   (rqF s,((List.nil:List RPt),(ps.map rp,(b,(high,(ps.map rp,((ps.length:Int),(0:Int))))))))=_:=h
 unfold Cs
 simp only[rq_e,peta]
 rw[List.length_map,h',obs]
 rfl
theorem Nz:(clipQ b high s ps).length≤2*ps.length∧∀ p∈clipQ b high s ps,SzP (7*K + 4) p:=by
 have h40:=hps.1
 have h2:=hps.2
 have key:∀ (l:List Q2) (a:Q2),SzP K a→(∀ p∈l,SzP K p)→(clipFrom b high s a l).length≤2*l.length∧∀ p∈clipFrom b high s a l,SzP (7*K + 4) p:=by
  intro l
  induction l with
  | nil=>intro a _ _; exact ⟨by simp[clipFrom],fun p hp=>by simp[clipFrom] at hp⟩
  | cons c l ih =>
   intro a ha hl
   have hc:=hl c (by simp)
   obtain ⟨i1,i2⟩:=ih c hc (fun p hp=>hl p (List.mem_cons_of_mem _ hp))
   have hst:=Sf b high s a c
   rw[clipFrom]
   refine ⟨by rw[List.length_append,List.length_cons]; omega,fun p hp=>?_⟩
   rcases List.mem_append.1 hp with hp | hp
   ·unfold stepQ at hp
    rcases List.mem_append.1 hp with hp | hp
    ·by_cases e:ins b high s a=ins b high s c
     ·rw[if_pos e] at hp; cases hp
     ·rw[if_neg e] at hp
      rw[List.mem_singleton.1 hp]
      exact AO7 hK ha hc hs (GL e)
    ·by_cases e:ins b high s c=true
     ·rw[if_pos e] at hp
      rw[List.mem_singleton.1 hp]
      exact hc.mono (by omega)
     ·rw[if_neg e] at hp; cases hp
   ·exact i2 p hp
 by_cases hn:ps = []
 ·unfold clipQ
  rw[hn]
  exact ⟨by simp[clipFrom],fun p hp=>by simp[clipFrom] at hp⟩
 ·obtain ⟨k1,k2⟩:=key ps (lastQ ps) (h2 _ (Lh hn)) h2
  exact ⟨k1,k2⟩
end
end Go.Proofs.YthipdlhknbhiiaaGreat.Ev

end
section
namespace Go.Proofs.YthipdlhknbhiiaaGreat.Ev
open Go
theorem fl_q (x:RPt):((fl x).1,((fl x).2.1,((fl x).2.2.1,((fl x).2.2.2.1,fy x))))=fl x:=(rfl)
theorem fl_p (p:Q2):((fl (rp p)).1,((fl (rp p)).2.1,((fl (rp p)).2.2.1,((fl (rp p)).2.2.2.1,rqF p.2))))=fl (rp p):=(rfl)
section
variable {ps:List Q2} {lo hi:Q2} (hps:SzR ps) (hlo:SzP 2 lo) (hhi:SzP 2 hi)
include hps hlo hhi
theorem LD:SzN 8 ps∧SzN 60 (clipQ false true lo.1 ps)∧SzN 424 (clipQ false false hi.1 (clipQ false true lo.1 ps))∧SzN 2972 (clipQ true true lo.2 (clipQ false false hi.1 (clipQ false true lo.1 ps))) ∧
  ((boxQ lo hi ps).length≤640∧∀ p∈boxQ lo hi ps,SzP 20808 p):=by
 have h40:=hps.1
 have s0:SzN 8 ps:=⟨by omega,hps.2⟩
 obtain ⟨l1,z1⟩:=Nz (K:=8) (by omega) s0 (hlo.1.mono (by omega)) false true
 have s1:SzN 60 (clipQ false true lo.1 ps):=⟨by omega,fun p hp=>(z1 p hp).mono (by omega)⟩
 obtain ⟨l2,z2⟩:=Nz (K:=60) (by omega) s1 (hhi.1.mono (by omega)) false false
 have s2:SzN 424 (clipQ false false hi.1 (clipQ false true lo.1 ps)):=⟨by omega,fun p hp=>(z2 p hp).mono (by omega)⟩
 obtain ⟨l3,z3⟩:=Nz (K:=424) (by omega) s2 (hlo.2.mono (by omega)) true true
 have s3:SzN 2972 (clipQ true true lo.2 (clipQ false false hi.1 (clipQ false true lo.1 ps))):=⟨by omega,fun p hp=>(z3 p hp).mono (by omega)⟩
 obtain ⟨l4,z4⟩:=Nz (K:=2972) (by omega) s3 (hhi.2.mono (by omega)) true false
 refine ⟨s0,s1,s2,s3,?_,fun p hp=>(z4 p hp).mono (by omega)⟩
 unfold boxQ
 omega
theorem Ax5:FB (ps.map rp) (fl (rp lo)) (fl (rp hi))=some ((boxQ lo hi ps).map rp):=by
 obtain ⟨s0,s1,s2,s3,_⟩:=LD hps hlo hhi
 unfold FB
 simp only[rq_e,peta,fl_x,fl_y,F1,F2,fl_p]
 rw[Ri (K:=8) (by omega) s0 (hlo.1.mono (by omega)),obs,Ri (K:=60) (by omega) s1 (hhi.1.mono (by omega)),obs,Ri (K:=424) (by omega) s2 (hlo.2.mono (by omega)),obs,Ri (K:=2972) (by omega) s3 (hhi.2.mono (by omega)),obs]
 rfl
theorem AB4:Hu (ps.map rp) (fl (rp lo)) (fl (rp hi))=some ((boxQ lo hi ps).map rp):=by
 obtain ⟨s0,s1,s2,s3,_⟩:=LD hps hlo hhi
 unfold Hu
 simp only[rq_e,peta,fl_x,fl_y,F1,F2,fl_p]
 rw[IS (K:=8) (by omega) s0 (hlo.1.mono (by omega)),obs,IS (K:=60) (by omega) s1 (hhi.1.mono (by omega)),obs,IS (K:=424) (by omega) s2 (hlo.2.mono (by omega)),obs,IS (K:=2972) (by omega) s3 (hhi.2.mono (by omega)),obs]
 rfl
end
def good2 (x:RPt):Bool:=(goodQ x.1&&goodQ x.2)&&(shQ 2 (fx x)&&shQ 2 (fy x))
theorem Gl {x:RPt}:good2 x=true↔∃ p,SzP 2 p∧x=rp p:=by
 constructor
 ·intro h
  unfold good2 at h
  simp only[Bool.and_eq_true] at h
  obtain ⟨⟨h1,h2⟩,h3,h4⟩:=h
  obtain ⟨a,ha,e1⟩:=Ie.1 h1
  obtain ⟨c,hc,e2⟩:=Ie.1 h2
  have exy:x=(rq a,rq c):=by rw[←e1,←e2]
  have ex:fx x=rqF a:=by rw[exy]; rfl
  have ey:fy x=rqF c:=by rw[exy]; rfl
  rw[ex,QC (by omega)] at h3
  rw[ey,QC (by omega)] at h4
  exact ⟨(a,c),⟨of_decide_eq_true h3,of_decide_eq_true h4⟩,by unfold rp; rw[←e1,←e2]⟩
 ·rintro ⟨p,hp,rfl⟩
  unfold good2
  rw[F1,F2,QC (by omega),QC (by omega),decide_eq_true hp.1,decide_eq_true hp.2,Bool.and_true,Bool.and_true,Bool.and_eq_true]
  exact ⟨Ka (hp.1.mono (by omega)),Ka (hp.2.mono (by omega))⟩
theorem EK {x:RPt} (h:BrP x):Dl (fl x) 2=some (good2 x):=by
 have hl:Bx [x.1,x.2]=some (goodQ x.1&&goodQ x.2):=by
  rw[OA (by simp) (by
   intro a ha
   simp at ha
   rcases ha with rfl | rfl
   ·exact h.1
   ·exact h.2)]
  simp
 have e:((((fl x).1,(fl x).2.1),((fl x).2.2.1,(fl x).2.2.2.1)):RQ)=x.1:=rfl
 have e':((((fl x).2.2.2.2.1,(fl x).2.2.2.2.2.1),(fl x).2.2.2.2.2.2):RQ)=x.2:=rfl
 unfold Dl good2
 simp only[peta]
 rw[e,e',hl,obs]
 have s1:=I6 (fx x) 2
 have s2:=I6 (fy x) 2
 rw[show ((2:Nat):Int)=2 from rfl] at s1 s2
 cases hg:goodQ x.1&&goodQ x.2 with
 | false=>rfl
 | true =>
  rw[cT]
  try simp only[fl_x,fl_y]
  rw[s1,obs,Bool.true_and]
  cases shQ 2 (fx x) with
  | false=>rfl
  | true=>rw[cT,s2,obs,Bool.true_and]
theorem Gg {x:RPt} (h:BrP x):Gw (fl x)=some (good2 x):=by
 unfold Gw good2
 simp only[peta,fl_x,fl_y]
 rw[Rx h.1,obs,Ab9]
 cases h1:goodQ x.1 with
 | false=>rw[Bool.false_and,cF,Bool.false_and,Bool.false_and]
 | true =>
  cases h2:shQ 2 (fx x) with
  | false=>rw[Bool.and_false,cF,Bool.false_and,Bool.and_false]
  | true=>rw[Bool.and_true,cT,Rx h.2,obs,Ah7,Bool.true_and,Bool.true_and]
section
variable {ps:List Q2} {lo hi:Q2} (hps:SzR ps) (hlo:SzP 2 lo) (hhi:SzP 2 hi) (hx:lo.1≤hi.1) (hy:lo.2≤hi.2)
include hps hlo hhi hx hy
theorem VI:Ar (ps.map rp) (fl (rp lo)) (fl (rp hi))=some (outR (boxQ lo hi ps)):=by
 have hp:=hps.1
 obtain ⟨_,_,_,_,c1,c2⟩:=LD hps hlo hhi
 unfold Ar
 simp only[rq_e,peta,fl_x,fl_y,F1,F2,fl_p]
 rw[CV (by simp; omega) (RK (k:=8) (by omega) hps.2),obs,El.2 hps,nT,cF,EK (Ns (k:=2) (by omega) hlo),obs,Gl.2 ⟨lo,hlo,rfl⟩,nT,cF,EK (Ns (k:=2) (by omega) hhi),obs,Gl.2 ⟨hi,hhi,rfl⟩,nT,cF,
  BS (k:=2) (by omega) hhi.1 hlo.1,obs,decide_eq_false (Rat.not_lt.2 hx),cF,BS (k:=2) (by omega) hhi.2 hlo.2,obs,decide_eq_false (Rat.not_lt.2 hy),cF,Ax5 hps hlo hhi,obs,UP (k:=20808) (by omega) (by omega) c2,obs]
theorem Ay4:A1 (ps.map rp) (fl (rp lo)) (fl (rp hi))=some (outR (boxQ lo hi ps)):=by
 have hp:=hps.1
 obtain ⟨_,_,_,_,c1,c2⟩:=LD hps hlo hhi
 have nx:¬cmpQ lo.1 hi.1>0:=fun h=>Rat.not_lt.2 hx (Ls.1 h)
 have ny:¬cmpQ lo.2 hi.2>0:=fun h=>Rat.not_lt.2 hy (Ls.1 h)
 unfold A1
 simp only[rq_e,peta,fl_x,fl_y,F1,F2,fl_p]
 rw[DT (by simp; omega) (RK (k:=8) (by omega) hps.2),obs,El.2 hps,nT,cF,Gg (Ns (k:=2) (by omega) hlo),obs,Gl.2 ⟨lo,hlo,rfl⟩,nT,cF,Gg (Ns (k:=2) (by omega) hhi),obs,Gl.2 ⟨hi,hhi,rfl⟩,nT,cF,
  LH (k:=2) (by omega) hlo.1 hhi.1,obs,decide_eq_false nx,cF,LH (k:=2) (by omega) hlo.2 hhi.2,obs,decide_eq_false ny,cF,AB4 hps hlo hhi,obs,Au3 (k:=20808) (by omega) (by omega) c2,obs]
end
theorem AA7 {m:List Q2} (h:(outR m).2=true):SzR m∧outR m=(m.map rp,true):=by
 unfold outR at h ⊢
 by_cases hg:goodR (m.map rp)=true
 ·rw[if_pos hg]; exact ⟨El.1 hg,rfl⟩
 ·rw[if_neg hg] at h; cases h
theorem JX {l:List RPt} {a c:RPt} (hl:l.length≤1000) (hb:∀ x∈l,BrP x) (ha:BrP a) (hc:BrP c):∃ f,Ar l (fl a) (fl c)=some f∧A1 l (fl a) (fl c)=some f∧AA f.1 f.1=some true ∧
  (f.2=true→∃ ps lo hi,SzR ps∧SzP 2 lo∧SzP 2 hi∧lo.1≤hi.1∧lo.2≤hi.2∧l=ps.map rp∧a=rp lo∧c=rp hi∧SzR (boxQ lo hi ps)∧f=((boxQ lo hi ps).map rp,true)):=by
 have bad:Ar l (fl a) (fl c)=some ([],false)→A1 l (fl a) (fl c)=some ([],false)→∃ f,Ar l (fl a) (fl c)=some f∧A1 l (fl a) (fl c)=some f∧AA f.1 f.1=some true ∧
  (f.2=true→∃ ps lo hi,SzR ps∧SzP 2 lo∧SzP 2 hi∧lo.1≤hi.1∧lo.2≤hi.2∧l=ps.map rp∧a=rp lo∧c=rp hi∧SzR (boxQ lo hi ps)∧f=((boxQ lo hi ps).map rp,true)) :=
  fun h1 h2=>⟨_,h1,h2,FR,fun h=>by cases h⟩
 cases hg:goodR l with
 | false =>
  refine bad ?_ ?_
  ·unfold Ar
   rw[CV (by omega) hb,obs,hg,nF,cT]
  ·unfold A1
   rw[DT (by omega) hb,obs,hg,nF,cT]
 | true =>
  cases g1:good2 a with
  | false =>
   refine bad ?_ ?_
   ·unfold Ar
    simp only[rq_e,peta]
    rw[CV (by omega) hb,obs,hg,nT,cF,EK ha,obs,g1,nF,cT]
   ·unfold A1
    simp only[rq_e,peta]
    rw[DT (by omega) hb,obs,hg,nT,cF,Gg ha,obs,g1,nF,cT]
  | true =>
   cases g2:good2 c with
   | false =>
    refine bad ?_ ?_
    ·unfold Ar
     simp only[rq_e,peta]
     rw[CV (by omega) hb,obs,hg,nT,cF,EK ha,obs,g1,nT,cF,EK hc,obs,g2,nF,cT]
    ·unfold A1
     simp only[rq_e,peta]
     rw[DT (by omega) hb,obs,hg,nT,cF,Gg ha,obs,g1,nT,cF,Gg hc,obs,g2,nF,cT]
   | true =>
    obtain ⟨ps,hps,el⟩:=At0.1 hg
    obtain ⟨lo,hlo,ea⟩:=Gl.1 g1
    obtain ⟨hi,hhi,ec⟩:=Gl.1 g2
    by_cases hx:lo.1≤hi.1
    ·by_cases hy:lo.2≤hi.2
     ·have q1:=VI hps hlo hhi hx hy
      have q2:=Ay4 hps hlo hhi hx hy
      rw[←el,←ea,←ec] at q1 q2
      refine ⟨_,q1,q2,Q3 _,fun h=>?_⟩
      obtain ⟨o1,o2⟩:=AA7 h
      exact ⟨ps,lo,hi,hps,hlo,hhi,hx,hy,el,ea,ec,o1,o2⟩
     ·have hy':=Rat.not_le.1 hy
      refine bad ?_ ?_
      ·unfold Ar
       simp only[rq_e,peta]
       rw[CV (by omega) hb,obs,hg,nT,cF,EK ha,obs,g1,nT,cF,EK hc,obs,g2,nT,cF,ea,ec]
       simp only[rq_e,peta,fl_x,fl_y,F1,F2,fl_p]
       rw[BS (k:=2) (by omega) hhi.1 hlo.1,obs,decide_eq_false (Rat.not_lt.2 hx),cF,BS (k:=2) (by omega) hhi.2 hlo.2,obs,decide_eq_true hy',cT]
      ·unfold A1
       simp only[rq_e,peta]
       rw[DT (by omega) hb,obs,hg,nT,cF,Gg ha,obs,g1,nT,cF,Gg hc,obs,g2,nT,cF,ea,ec]
       simp only[rq_e,peta,fl_x,fl_y,F1,F2,fl_p]
       have nx:¬cmpQ lo.1 hi.1>0:=fun h=>Rat.not_lt.2 hx (Ls.1 h)
       rw[LH (k:=2) (by omega) hlo.1 hhi.1,obs,decide_eq_false nx,cF,LH (k:=2) (by omega) hlo.2 hhi.2,obs,decide_eq_true (Ls.2 hy'),cT]
    ·have hx':=Rat.not_le.1 hx
     refine bad ?_ ?_
     ·unfold Ar
      simp only[rq_e,peta]
      rw[CV (by omega) hb,obs,hg,nT,cF,EK ha,obs,g1,nT,cF,EK hc,obs,g2,nT,cF,ea,ec]
      simp only[rq_e,peta,fl_x,fl_y,F1,F2,fl_p]
      rw[BS (k:=2) (by omega) hhi.1 hlo.1,obs,decide_eq_true hx',cT]
     ·unfold A1
      simp only[rq_e,peta]
      rw[DT (by omega) hb,obs,hg,nT,cF,Gg ha,obs,g1,nT,cF,Gg hc,obs,g2,nT,cF,ea,ec]
      simp only[rq_e,peta,fl_x,fl_y,F1,F2,fl_p]
      rw[LH (k:=2) (by omega) hlo.1 hhi.1,obs,decide_eq_true (Ls.2 hx'),cT]
theorem AH8:goodQ (toQ zF)=false:=by decide
theorem AG3 (x y:Rat):∃ w,Cy (fitsQ x).1 (fitsQ y).1=some w∧((fitsQ x).2=true→(fitsQ y).2=true→w=fitsQ (x + y)):=by
 by_cases hx:Sz 40 x
 ·by_cases hy:Sz 40 y
  ·rw[Fd hx,Fd hy]
   exact ⟨_,AK1 hx hy,fun _ _=>rfl⟩
  ·rw[Lw hy]
   refine ⟨_,NU (Ak8 x).br Ak3.br (by rw[AH8,Bool.and_false]),fun _ h=>by cases h⟩
 ·rw[Lw hx]
  refine ⟨_,NU Ak3.br (Ak8 y).br (by rw[AH8,Bool.false_and]),fun h=>by cases h⟩
end Go.Proofs.YthipdlhknbhiiaaGreat.Ev

end
section
namespace Go.Proofs.YthipdlhknbhiiaaGreat.Ev
open Go
section
variable {α β:Type}
def rot (l:List α):List α:=l.tail++l.head?.toList
theorem AM7 (l:List α):(rot l).length=l.length:=by cases l <;> simp[rot]
theorem AK7 (l:List α) {k:Nat} (h:k<l.length):(rot l)[k]? = l[(k + 1)%l.length]? := by
 cases l with
 | nil=>simp at h
 | cons a t =>
  simp only[rot,List.tail_cons,List.head?_cons,Option.toList_some,List.length_cons] at *
  by_cases hk:k<t.length
  ·rw[List.getElem?_append_left hk,Nat.mod_eq_of_lt (by omega),List.getElem?_cons_succ]
  ·have:k=t.length:=by omega
   subst this
   rw[List.getElem?_append_right (by omega),Nat.sub_self,Nat.mod_self]
   rfl
theorem AP9 {l:List α} {a : α}:a∈rot l↔a∈l:=by
 cases l with
 | nil=>simp[rot]
 | cons b t=>simp[rot]; exact or_comm
def ring (l:List α):List (α×α):=l.zip (rot l)
theorem S4 (l:List α):(ring l).length=l.length:=by simp[ring,AM7]
theorem AE9 {l:List α} {k:Nat} {p : α×α} (h:(ring l)[k]? = some p):k<l.length∧l[k]? = some p.1∧l[(k + 1)%l.length]? = some p.2:=by
 have hk:=(List.getElem?_eq_some_iff.1 h).1
 rw[S4] at hk
 unfold ring at h
 rw[List.getElem?_zip_eq_some] at h
 rw[AK7 l hk] at h
 exact ⟨hk,h⟩
theorem S3 {l:List α} {p : α×α} (h:p∈ring l):p.1∈l∧p.2∈l:=by
 unfold ring at h
 have:=List.of_mem_zip (show (p.1,p.2)∈_ from h)
 exact ⟨this.1,AP9.1 this.2⟩
def tot (f : α→Int):List α→Int
 | []=>0
 | a::l=>f a + tot f l
theorem Ai5 (f : α→Int) (l m:List α):tot f (l++m)=tot f l + tot f m:=by
 induction l with
 | nil=>simp[tot]
 | cons a l ih=>simp only[List.cons_append,tot,ih]; omega
theorem VG {f : α→Int} {B:Int}:∀ {l:List α},(∀ a∈l,-B≤f a∧f a≤B)→-(B*l.length)≤tot f l∧tot f l≤B*l.length
 | [],_=>by simp[tot]
 | a::l,h=>by
  have h1:=h a (List.mem_cons_self ..)
  have h2:=VG (l:=l) (fun b hb=>h b (List.mem_cons_of_mem _ hb))
  have:B*((a::l).length:Int)=B*l.length + B:=by rw[List.length_cons,Int.natCast_add,Int.mul_add]; simp
  simp only[tot]
  omega
theorem Ut (f : α→Int) {l:List α} {k:Nat} {a : α} (h:l[k]? = some a):tot f (l.take (k + 1))=tot f (l.take k) + f a:=by
 rw[List.take_add_one,h,Ai5]
 simp[tot]
theorem Ss {f : α→Int} {B:Int} (hB : 0≤B) {l:List α} (h:∀ a∈l,-B≤f a∧f a≤B) (k:Nat) : -(B*l.length)≤tot f (l.take k)∧tot f (l.take k)≤B*l.length:=by
 have h1:=VG (l:=l.take k) (fun a ha=>h a (List.mem_of_mem_take ha))
 have h2:((l.take k).length:Int)≤l.length:=by simp; omega
 have h3:=Int.mul_le_mul_of_nonneg_left h2 hB
 omega
end
section
variable {α:Type}
def walk (f : α→α→Int):List α→Int
 | []=>0
 | [_]=>0
 | a::b::l=>f a b + walk f (b::l)
theorem As3 (f : α→α→Int) (a : α) (t:List α):tot (fun p : α×α=>f p.1 p.2) (ring (a::t))=walk f (a::t ++ [a]):=by
 have key:∀ (t:List α) (a b : α),tot (fun p : α×α=>f p.1 p.2) ((a::t).zip (t ++ [b]))=walk f (a::t ++ [b]):=by
  intro t
  induction t with
  | nil=>intro a b; simp[tot,walk]
  | cons c t ih =>
   intro a b
   simp only[List.cons_append,List.zip_cons_cons,tot,walk]
   rw[←List.cons_append,ih c b]
 have h:=key t a a
 simpa[ring,rot] using h
end
def areaI (l:List (Int×Int)):Int:=tot (fun p:(Int×Int)×(Int×Int)=>p.1.1*p.2.2-p.2.1*p.1.2) (ring l)
end Go.Proofs.YthipdlhknbhiiaaGreat.Ev

end
section
namespace Go.Proofs.YthipdlhknbhiiaaGreat.Ev
open Go
abbrev P2:=Int×Int
def within (a b c:Int):Bool:=decide (b≤a)&&decide (a≤c)
theorem YI (a b c:Int):BE a b c=some (within a b c):=by
 unfold BE within
 by_cases h:a≥b <;> simp[h]
theorem AF5 (a b c:Int):CI a b c=some (within a b c):=by
 unfold CI within
 by_cases h:a≥b <;> simp[h]
theorem Ac4 {a b c:Int}:within a b c=true↔b≤a∧a≤c:=by simp[within]
def goodPt (p:P2):Bool:=within p.1 (-1000) 1000&&within p.2 (-1000) 1000
theorem Ys (p:P2):GU p=some (goodPt p):=by
 unfold GU goodPt
 simp only[YI,Option.bind_some]
 cases within p.1 (-1000) 1000 <;> rfl
theorem Y5 (p:P2):D0 p=some (goodPt p):=by
 unfold D0 goodPt
 simp only[AF5,Option.bind_some]
 cases within p.1 (-1000) 1000 <;> rfl
theorem R3 {p:P2}:goodPt p=true↔-1000≤p.1∧p.1≤1000∧-1000≤p.2∧p.2≤1000:=by
 simp only[goodPt,Bool.and_eq_true,Ac4]
 omega
theorem TZ {k:Nat} {α:Type} {l:List α} {a : α} (h:l[k]? = some a):decide ((k:Int)<(l.length:Int))=true:=by have:=getL h; simpa using this
theorem Ae6 {α:Type} (l:List α):decide ((l.length:Int)<(l.length:Int))=false:=by simp
theorem AI8 {l:List P2} (hl:Short l):GX l=some (l.all goodPt):=by
 unfold GX AN A0
 unfold Short at hl
 have key:=GV (body:=fun s:List (Int×Int)×Int×Int=>Ax s.1 s.2.1 s.2.2) (l:=l) (st:=fun k=>(l,(l.length:Int),(k:Int))) (p:=goodPt) (fin:=.inl ()) (bad:=fun k=>.inr (k:Int))
  (fun k a hk hp=>by
   have:=getL hk
   unfold Ax EA
   simp only[TZ hk,cond_true,Ak,hk,Option.bind_some,Ys,hp,Bool.not_true,cond_false,wrap1 (show k<4611686018427387904 by omega)])
  (fun k a hk hp=>by
   unfold Ax EA
   simp only[TZ hk,cond_true,Ak,hk,Option.bind_some,Ys,hp,Bool.not_false])
  (by unfold Ax; simp only[Ae6,cond_false])
 cases hall:l.all goodPt with
 | true =>
  have h:=key.1 hall
  rw[show ((0:Nat):Int)=0 from rfl] at h
  simp only[h,Option.bind_some,Sum.elim_inl]
  rfl
 | false =>
  obtain ⟨k,_,h⟩:=key.2 hall
  rw[show ((0:Nat):Int)=0 from rfl] at h
  simp only[h,Option.bind_some,Sum.elim_inr]
  have:decide ((k:Int)≥0)=true:=by simp
  rw[this]; rfl
theorem AP0 {l:List P2} (hl:Short l):Ff l=some (l.all goodPt):=by
 unfold Ff
 unfold Short at hl
 have key:=GV (body:=fun s:List (Int×Int)×Int×Int=>Bk s.1 s.2.1 s.2.2) (l:=l) (st:=fun k=>(l,(l.length:Int),(k:Int))) (p:=goodPt) (fin:=.inl ()) (bad:=fun k=>.inr false)
  (fun k a hk hp=>by
   have:=getL hk
   unfold Bk
   simp only[TZ hk,cond_true,Ak,hk,Option.bind_some,Y5,hp,Bool.not_true,cond_false,wrap1 (show k<4611686018427387904 by omega)])
  (fun k a hk hp=>by
   unfold Bk
   simp only[TZ hk,cond_true,Ak,hk,Option.bind_some,Y5,hp,Bool.not_false])
  (by unfold Bk; simp only[Ae6,cond_false])
 cases hall:l.all goodPt with
 | true =>
  have h:=key.1 hall
  rw[show ((0:Nat):Int)=0 from rfl] at h
  simp only[h,Option.bind_some,Sum.elim_inl]
 | false =>
  obtain ⟨k,_,h⟩:=key.2 hall
  rw[show ((0:Nat):Int)=0 from rfl] at h
  simp only[h,Option.bind_some,Sum.elim_inr]
theorem Vx {x y B C:Int} (hx : -B≤x∧x≤B) (hy : -C≤y∧y≤C) : -(B*C)≤x*y∧x*y≤B*C:=by
 have hB : 0≤B:=by omega
 have hC : 0≤C:=by omega
 constructor
 ·by_cases h : 0≤x
  ·have h1:=Int.mul_le_mul_of_nonneg_left (show -C≤y by omega) h
   have h2:=Int.mul_le_mul_of_nonneg_right (show x≤B by omega) hC
   have:x * -C = -(x*C):=Int.mul_neg ..
   omega
  ·have h1:=Int.mul_le_mul_of_nonneg_left (show y≤C by omega) (show 0≤-x by omega)
   have h2:=Int.mul_le_mul_of_nonneg_right (show -x≤B by omega) hC
   have : -x*y = -(x*y):=Int.neg_mul ..
   omega
 ·by_cases h : 0≤x
  ·have h1:=Int.mul_le_mul_of_nonneg_left (show y≤C by omega) h
   have h2:=Int.mul_le_mul_of_nonneg_right (show x≤B by omega) hC
   omega
  ·have h1:=Int.mul_le_mul_of_nonneg_left (show -C≤y by omega) (show 0≤-x by omega)
   have h2:=Int.mul_le_mul_of_nonneg_right (show -x≤B by omega) hC
   have e1 : -x * -C=x*C:=Int.neg_mul_neg ..
   have e2 : -x*y = -(x*y):=Int.neg_mul ..
   have e3 : -x*C = -(x*C):=Int.neg_mul ..
   omega
section
variable {a b c d p:P2} (ha:goodPt a=true) (hb:goodPt b=true) (hc:goodPt c=true) (hd:goodPt d=true) (hp:goodPt p=true)
include ha hb hc
end
end Go.Proofs.YthipdlhknbhiiaaGreat.Ev

end
section
namespace Go.Proofs.YthipdlhknbhiiaaGreat.Ev
open Go
def isWay (l:List P2):Bool:=(decide (3≤l.length)&&decide (l.length≤12))&&l.all goodPt
theorem Gv {l:List P2}:isWay l=true↔(3≤l.length∧l.length≤12)∧∀ p∈l,goodPt p=true:=by
 simp[isWay,List.all_eq_true,and_assoc]
theorem RY (l:List P2):within (l.length:Int) 3 12=(decide (3≤l.length)&&decide (l.length≤12)):=by
 unfold within
 congr 1 <;> rw[decide_eq_decide] <;> omega
theorem Xy {l:List P2} (h:Short l):Gj l=some (isWay l):=by
 unfold Gj isWay
 simp only[YI,Option.bind_some,AI8 h,RY]
 cases (decide (3≤l.length)&&decide (l.length≤12)) <;> rfl
theorem Al8 {l:List P2} (h:Short l):E6 l=some (isWay l):=by
 unfold E6 isWay
 simp only[AF5,Option.bind_some,AP0 h,RY]
 cases (decide (3≤l.length)&&decide (l.length≤12)) <;> rfl
theorem AP5 {l:List P2} {k:Nat} (h:k<l.length) (hs:Short l):H4 l (k:Int)=some (((k + 1)%l.length:Nat):Int):=by
 unfold H4
 unfold Short at hs
 have:((l.length:Int)==0)=false:=by simp; intro h2; rw[h2] at h; simp at h
 simp only[this,cond_false]
 rw[wrap1 (by omega),Int.tmod_eq_emod_of_nonneg (by omega)]
 simp
theorem Ry {p q:P2} (hp:goodPt p=true) (hq:goodPt q=true):(-1000000≤p.1*q.2∧p.1*q.2≤1000000)∧(-1000000≤q.1*p.2∧q.1*p.2≤1000000):=by
 rw[R3] at hp hq
 have h1:=Vx (x:=p.1) (y:=q.2) (B:=1000) (C:=1000) (by omega) (by omega)
 have h2:=Vx (x:=q.1) (y:=p.2) (B:=1000) (C:=1000) (by omega) (by omega)
 omega
theorem Wm {l:List P2} (hg:∀ p∈l,goodPt p=true) (hl:l.length≤1000) (k:Nat) : -2000000000≤tot (fun p:P2×P2=>p.1.1*p.2.2-p.2.1*p.1.2) ((ring l).take k)∧tot (fun p:P2×P2=>p.1.1*p.2.2-p.2.1*p.1.2) ((ring l).take k)≤2000000000:=by
 have:=Ss (f:=fun p:P2×P2=>p.1.1*p.2.2-p.2.1*p.1.2) (B:=2000000) (by omega) (l:=ring l) (fun a ha=>by
  have:=S3 ha
  have:=Ry (hg _ this.1) (hg _ this.2)
  omega) k
 rw[S4] at this
 omega
theorem Qo {l:List P2} (hg:∀ p∈l,goodPt p=true) (hl:l.length≤1000):DK l=some (areaI l)∧-2000000000≤areaI l∧areaI l≤2000000000:=by
 unfold DK
 have hlen:(ring l).length=l.length:=S4 l
 have hall:(ring l).take (ring l).length=ring l:=List.take_length
 obtain ⟨h1,h2⟩:=H7 (l:=ring l) (body:=fun (s:((List (Int×Int))×(Int×((List (Int×Int))×(Int×Int)))))=>DN s.1 s.2.1 s.2.2.1 s.2.2.2.1 s.2.2.2.2)
  (st:=fun k (b:Int)=>(l,(b,(l,((l.length:Int),(k:Int)))))) (step:=fun b p=>b + (p.1.1*p.2.2-p.2.1*p.1.2)) (fin:=fun b=>b) (I:=fun k b=>b=tot (fun p:P2×P2=>p.1.1*p.2.2-p.2.1*p.1.2) ((ring l).take k))
  (by
   rintro k b p hk rfl
   have hb:=Ry (hg _ (S3 (List.mem_of_getElem? hk)).1) (hg _ (S3 (List.mem_of_getElem? hk)).2)
   have ht:=Wm hg hl k
   obtain ⟨g1,g2,g3⟩:=AE9 hk
   unfold DN
   simp only[TZ g2,cond_true,Ak,g2,AP5 g1 (show l.length<1099511627776 by omega),g3,Option.bind_some,wrap1 (show k<4611686018427387904 by omega)]
   rw[wrapI (n:=p.1.1*p.2.2) (by omega) (by omega),wrapI (n:=p.2.1*p.1.2) (by omega) (by omega),wrapI (n:=p.1.1*p.2.2-p.2.1*p.1.2) (by omega) (by omega),wrapI (by omega) (by omega)]
   exact ⟨rfl,(Ut _ hk).symm⟩)
  (by
   rintro b rfl
   unfold DN
   rw[hlen]
   simp only[Ae6,cond_false]) 0 rfl
 have h0:((0:Nat):Int)=0:=rfl
 rw[h0] at h1
 rw[h2,hall] at h1
 refine ⟨?_,?_⟩
 ·rw[h1]; rfl
 ·have:=Wm hg hl (ring l).length
  rw[hall] at this
  exact this
theorem X2 {l:List P2} (h:Short l):CJ l=some (if isWay l=true then (areaI l,true) else (0,false)):=by
 unfold CJ
 simp only[Xy h,Option.bind_some]
 cases hw:isWay l with
 | false=>simp
 | true =>
  obtain ⟨⟨_,w1⟩,w2⟩:=Gv.1 hw
  simp only[Bool.not_true,cond_false,(Qo w2 (by omega)).1,Option.bind_some]
  rfl
end Go.Proofs.YthipdlhknbhiiaaGreat.Ev

end
section
namespace Go.Proofs.YthipdlhknbhiiaaGreat.Ev
open Go
def ptQ (p:Int×Int):Q2:=((p.1:Rat),(p.2:Rat))
theorem IC {n:Int} (h1 : -100000≤n) (h2:n≤100000):Sz 2 (n:Rat):=K0 (by have:B 2=4294967296:=rfl; omega) (by omega)
def SmP (p:Int×Int):Prop:=(-100000≤p.1∧p.1≤100000)∧(-100000≤p.2∧p.2≤100000)
theorem AQ9 {p:Int×Int} (h:SmP p):SzP 2 (ptQ p):=⟨IC h.1.1 h.1.2,IC h.2.1 h.2.2⟩
theorem GP.sm {p:Int×Int} (h:GP p):SmP p:=by
 obtain ⟨a,b,c,d⟩:=h
 unfold SmP
 omega
theorem AJ4 {p:Int×Int} (h:SmP p):EY p=some (fl (rp (ptQ p))):=by
 obtain ⟨⟨h1,h2⟩,h3,h4⟩:=h
 unfold EY
 try simp only
 rw[Lm (by omega) (by omega),obs,Lm (by omega) (by omega),obs]
 rfl
theorem AG4 {w:List (Int×Int)} (hl:w.length≤1000) (h:∀ p∈w,SmP p):Ha w=some ((w.map ptQ).map rp):=by
 have key:∀ (m k:Nat) (l:List RPt),k + m=w.length→l.length=k→loopM (fun (s:((List RPt)×((List (Int×Int))×(Int×Int))))=>BZ s.1 s.2.1 s.2.2.1 s.2.2.2) (l,(w,((w.length:Int),(k:Int))))=some (l++((w.drop k).map ptQ).map rp):=by
  intro m
  induction m with
  | zero =>
   intro k l hk hlk
   refine Ap ?_
   show BZ l w (w.length:Int) (k:Int)=_
   unfold BZ
   rw[decide_eq_false (by omega),List.drop_eq_nil_of_le (by omega)]
   simp[cF]
  | succ m ih =>
   intro k l hk hlk
   have hlt:k<w.length:=by omega
   have hg:w[k]? = some w[k]:=List.getElem?_eq_getElem hlt
   have hd:w.drop k=w[k]::w.drop (k + 1):=List.drop_eq_getElem_cons hlt
   have gp:=h _ (List.mem_of_getElem? hg)
   generalize w[k]=p at hg hd gp
   obtain ⟨⟨g1,g2⟩,g3,g4⟩:=gp
   have hb:BZ l w (w.length:Int) (k:Int)=some (.inl (l ++ [rp (ptQ p)],(w,((w.length:Int),((k + 1:Nat):Int))))):=by
    unfold BZ
    rw[decide_eq_true (by omega),cT,Ak,hg,obs]
    try simp only
    rw[K6 (by omega) (by omega),obs,K6 (by omega) (by omega),obs]
    simp only[peta]
    have e:(((((rqF (p.1:Rat)).1,(rqF (p.1:Rat)).2.1),(rqF (p.1:Rat)).2.2),(((rqF (p.2:Rat)).1,(rqF (p.2:Rat)).2.1),(rqF (p.2:Rat)).2.2)):RPt)=rp (ptQ p):=rfl
    rw[e,appP (by omega),obs,wrap1 (by omega)]
   refine (AX (f:=fun (s:((List RPt)×((List (Int×Int))×(Int×Int))))=>BZ s.1 s.2.1 s.2.2.1 s.2.2.2) (s:=(l,(w,((w.length:Int),(k:Int))))) hb).trans ?_
   rw[ih (k + 1) _ (by omega) (by simp; omega),hd]
   simp
 have k0:=key w.length 0 [] (by omega) rfl
 have k0':loopM (fun (s:((List RPt)×((List (Int×Int))×(Int×Int))))=>BZ s.1 s.2.1 s.2.2.1 s.2.2.2) ((List.nil:List RPt),(w,((w.length:Int),(0:Int))))=_:=k0
 unfold Ha
 rw[k0',obs]
 rfl
theorem UR {w:List (Int×Int)} (hl:w.length≤1000) (h:∀ p∈w,SmP p):loopM (fun (s:((List RPt)×((List (Int×Int))×(Int×Int))))=>AF s.1 s.2.1 s.2.2.1 s.2.2.2) ((List.nil:List RPt),(w,((w.length:Int),(0:Int))))=some ((w.map ptQ).map rp):=by
 have key:∀ (m k:Nat) (l:List RPt),k + m=w.length→l.length=k→loopM (fun (s:((List RPt)×((List (Int×Int))×(Int×Int))))=>AF s.1 s.2.1 s.2.2.1 s.2.2.2) (l,(w,((w.length:Int),(k:Int))))=some (l++((w.drop k).map ptQ).map rp):=by
  intro m
  induction m with
  | zero =>
   intro k l hk hlk
   refine Ap ?_
   show AF l w (w.length:Int) (k:Int)=_
   unfold AF
   rw[decide_eq_false (by omega),List.drop_eq_nil_of_le (by omega)]
   simp[cF]
  | succ m ih =>
   intro k l hk hlk
   have hlt:k<w.length:=by omega
   have hg:w[k]? = some w[k]:=List.getElem?_eq_getElem hlt
   have hd:w.drop k=w[k]::w.drop (k + 1):=List.drop_eq_getElem_cons hlt
   have gp:=h _ (List.mem_of_getElem? hg)
   generalize w[k]=p at hg hd gp
   have hb:AF l w (w.length:Int) (k:Int)=some (.inl (l ++ [rp (ptQ p)],(w,((w.length:Int),((k + 1:Nat):Int))))):=by
    unfold AF
    rw[decide_eq_true (by omega),cT,Ak,hg,obs]
    simp only[peta]
    rw[AJ4 gp,obs,un_e,MZ,appP (by omega),obs,wrap1 (by omega)]
   refine (AX (f:=fun (s:((List RPt)×((List (Int×Int))×(Int×Int))))=>AF s.1 s.2.1 s.2.2.1 s.2.2.2) (s:=(l,(w,((w.length:Int),(k:Int))))) hb).trans ?_
   rw[ih (k + 1) _ (by omega) (by simp; omega),hd]
   simp
 exact key w.length 0 [] (by omega) rfl
theorem Ah4 {w:List (Int×Int)} (h:isWay w=true):∀ p∈w,SmP p:=by
 intro p hp
 have:=(Gv.1 h).2 p hp
 rw[R3] at this
 unfold SmP
 omega
theorem Al4 {w:List (Int×Int)} (h:isWay w=true):SzR (w.map ptQ):=by
 have h12:=(Gv.1 h).1.2
 refine ⟨by rw[List.length_map]; omega,fun p hp=>?_⟩
 obtain ⟨q,hq,rfl⟩:=List.mem_map.1 hp
 exact (AQ9 (Ah4 h q hq)).mono (by omega)
theorem Ai8 {w:List (Int×Int)} (hs:Short w):∃ f,DU w=some f∧B8 w=some f∧AA f.1 f.1=some true∧f.2=isWay w∧(isWay w=true→f=((w.map ptQ).map rp,true)):=by
 cases hw:isWay w with
 | false =>
  refine ⟨([],false),?_,?_,FR,rfl,fun h=>by cases h⟩
  ·unfold DU
   rw[Xy hs,obs,hw,nF,cT]
  ·unfold B8
   rw[Al8 hs,obs,hw,nF,cT]
 | true =>
  have h12:=(Gv.1 hw).1.2
  refine ⟨((w.map ptQ).map rp,true),?_,?_,J6 (Al4 hw),rfl,fun h=>rfl⟩
  ·unfold DU
   rw[Xy hs,obs,hw,nT,cF,AG4 (by omega) (Ah4 hw),obs]
  ·unfold B8
   rw[Al8 hs,obs,hw,nT,cF,UR (by omega) (Ah4 hw),obs]
theorem YP:∀ (l:List (Int×Int)) (a:Int×Int),chn crs (ptQ a) (l.map ptQ)=((walk (fun p q:Int×Int=>p.1*q.2-q.1*p.2) (a::l):Int):Rat)
 | [],a=>by simp[chn,walk]
 | c::l,a=>by
  rw[List.map_cons,chn,YP l c]
  simp only[walk]
  unfold crs ptQ
  rw[Rat.intCast_add,Rat.intCast_sub,Rat.intCast_mul,Rat.intCast_mul]
theorem AF9 (w:List (Int×Int)):area2 (w.map ptQ)=((areaI w:Int):Rat):=by
 rw[←SO]
 cases w with
 | nil=>rfl
 | cons a t =>
  have h:=As3 (fun p q:Int×Int=>p.1*q.2-q.1*p.2) a t
  have e:areaI (a::t)=walk (fun p q:Int×Int=>p.1*q.2-q.1*p.2) (a::t ++ [a]):=h
  rw[e]
  have:=YP (t ++ [a]) a
  rw[List.map_append] at this
  exact this
end Go.Proofs.YthipdlhknbhiiaaGreat.Ev

end
section
namespace Go.Proofs.YthipdlhknbhiiaaGreat.Ev
open Go
theorem ZF {B':Nat} {c:List Int×Int×Int} (h:Cur B' c) (hB:B'≤800000000):∃ c' q,BX c=some (c',rqF q)∧Cur (B' + 10) c'∧Sz 4 q:=by
 unfold BX
 obtain ⟨c2,v2,e2,q2,a2,b2⟩:=AD h (by omega) 17
 obtain ⟨c3,v3,e3,q3,a3,b3⟩:=AD q2 (by omega) 2
 have b2:=b2 (by omega); have b3:=b3 (by omega)
 simp only[peta]
 rw[e2,obs,e3,obs,Rl,obs,wrapI (by omega) (by omega),wrapI (by omega) (by omega),SU (by omega) (by omega) (by omega)]
 exact ⟨c3,_,rfl,q3.mono (by omega),Uj (by omega) (by omega) (by omega)⟩
theorem AJ6 {l:List Int} (h:Cur 0 (l,0,0)):∃ r x y,BY l=some (r,(fl x,fl y))∧r.length≤100∧(∀ p∈r,ShP p)∧BrP x∧BrP y:=by
 unfold BY
 obtain ⟨c0,r,e0,q0,n0,s0⟩:=AP3 h (by omega)
 obtain ⟨c1,a,e1,q1,s1⟩:=ZF q0 (by omega)
 obtain ⟨c2,b,e2,q2,s2⟩:=ZF q1 (by omega)
 obtain ⟨c3,v3,e3,q3,a3,b3⟩:=AD q2 (by omega) 6
 obtain ⟨c4,v4,e4,q4,a4,b4⟩:=AD q3 (by omega) 9
 obtain ⟨c5,v5,e5,q5,a5,b5⟩:=AD q4 (by omega) 6
 have b3:=b3 (by omega); have b4:=b4 (by omega); have b5:=b5 (by omega)
 have ht : 0≤Int.tdiv v4 8∧Int.tdiv v4 8≤1:=by
  rw[Int.tdiv_eq_ediv_of_nonneg a4]
  omega
 simp only[peta,rq_e]
 rw[e0,obs]
 try simp only
 rw[e1,obs]
 try simp only[rq_e]
 rw[e2,obs]
 try simp only[rq_e]
 rw[e3,obs]
 try simp only
 rw[e4,obs]
 try simp only
 generalize Int.tdiv v4 8=t at ht
 rw[wrapI (n:=t) (by omega) (by omega),wrapI (n:=v3-t) (by omega) (by omega),Lm (by omega) (by omega),obs]
 try simp only[rq_e]
 rw[Rs (k:=4) (by omega) s1 ((IC (by omega) (by omega)).mono (by omega)),obs,e5,obs]
 try simp only
 rw[Lm (by omega) (by omega),obs]
 try simp only[rq_e]
 rw[Rs (k:=4) (by omega) s2 ((IC (by omega) (by omega)).mono (by omega)),obs]
 have z1:Sz 9 (a + ((v3-t:Int):Rat)):=(Py s1 ((IC (n:=v3-t) (by omega) (by omega)).mono (show 2≤4 by omega))).mono (by omega)
 have z2:Sz 9 (b + ((v5:Int):Rat)):=(Py s2 ((IC (n:=v5) (by omega) (by omega)).mono (show 2≤4 by omega))).mono (by omega)
 exact ⟨r,rp (a,b),rp (a + ((v3-t:Int):Rat),b + ((v5:Int):Rat)),rfl,n0,s0,Ns (k:=4) (by omega) ⟨s1,s2⟩,Ns (k:=9) (by omega) ⟨z1,z2⟩⟩
theorem Ah1 {b:List Int} (hb:Cur 0 (b,0,0)) :
  (((Cg b)).bind fun x20 =>
  ((DU x20)).bind fun x21 =>
  ((B8 x20)).bind fun x22 =>
  bif (!(x21.2==x22.2)) then
   some false
  else
  ((AA x21.1 x22.1)).bind fun x23 =>
  bif (!x23) then
   some false
  else
  bif x21.2 then
   ((CJ x20)).bind fun x24 =>
   ((A3 x21.1)).bind fun x25 =>
   ((Gt x24.1 (2:Int))).bind fun x26 =>
   bif x24.2 then
    bif x25.2 then
     bif x26.2 then
      ((A9 x25.1 x26.1)).bind fun x27 =>
      some x27
     else
     some false
    else
    some false
   else
   some false
  else
  some true)=some true:=by
 have hd:∃ w,Cg b=some w∧GW w:=by
  obtain ⟨c1,w,e1,q1,g1⟩:=AH4 hb (by omega)
  unfold Cg
  rw[e1,obs]
  exact ⟨w,rfl,g1⟩
 obtain ⟨w,e,gw⟩:=hd
 have h13:=gw.hi
 have hs:Short w:=by unfold Short; omega
 obtain ⟨f,f1,f2,f3,f4,f5⟩:=Ai8 hs
 rw[e,obs,f1,obs,f2,obs,beq_self_eq_true,nT,cF,f3,obs,nT,cF,f4]
 cases hw:isWay w with
 | false=>rw[cF]
 | true =>
  have h12:=(Gv.1 hw).1.2
  have hgood:=(Gv.1 hw).2
  obtain ⟨_,k1,k2⟩:=Qo hgood (by omega)
  rw[f5 hw,cT,X2 hs,obs,if_pos hw]
  simp only
  have hq:Rat.divInt (areaI w) 2=area2 (w.map ptQ)/2:=by rw[AF9,Rat.divInt_eq_div]; rfl
  have hsz:Sz 4 (area2 (w.map ptQ)/2):=by rw[←hq]; exact Uj (by omega) (by omega) (by omega)
  rw[IR (Al4 hw),obs,AO3,obs,SU (by omega) (by omega) (by omega),hq,Fd (hsz.mono (by omega)),cT,cT,cT]
  simp only
  rw[F5 (k:=4) (by omega) hsz,obs]
theorem As7 {T:Type} (S:T) (f f5 f6:List RPt×Bool) (h5:f5.2=true→f6.2=true→∃ m m5 m6,SzR m∧SzR m5∧SzR m6∧f.1=m.map rp∧f5.1=m5.map rp∧f6.1=m6.map rp∧area2 m5 + area2 m6=area2 m) :
  (bif f5.2 then
      bif f6.2 then
       ((A3 f5.1)).bind fun x7 =>
       ((A3 f6.1)).bind fun x8 =>
       ((Cy x7.1 x8.1)).bind fun x9 =>
       ((A3 f.1)).bind fun x10 =>
       bif x7.2 then
        bif x8.2 then
         bif x9.2 then
          bif x10.2 then
           ((A9 x9.1 x10.1)).bind fun x11 =>
           bif (!x11) then
            some (Sum.inl (Sum.inl false))
           else
           some (Sum.inr S)
          else
          some (Sum.inr S)
         else
         some (Sum.inr S)
        else
        some (Sum.inr S)
       else
       some (Sum.inr S)
      else
      some (Sum.inr S)
     else
     some (Sum.inr S))=(some (Sum.inr S):Option ((Bool ⊕ List Int) ⊕ T)):=by
 cases k5:f5.2 with
 | false=>rw[cF]
 | true =>
  cases k6:f6.2 with
  | false=>rw[cT,cF]
  | true =>
   obtain ⟨m,m5,m6,s,s5,s6,e,e5,e6,hsum⟩:=h5 k5 k6
   obtain ⟨w,hw,hw2⟩:=AG3 (area2 m5/2) (area2 m6/2)
   rw[cT,cT,e5,e6,e,IR s5,obs,IR s6,obs,hw,obs,IR s,obs]
   have hh:area2 m5/2 + area2 m6/2=area2 m/2:=by
    rw[←hsum,Rat.div_def,Rat.div_def,Rat.div_def,Rat.add_mul]
   rw[hh] at hw2
   cases j1:(fitsQ (area2 m5/2)).2 with
   | false=>rw[cF]
   | true =>
    cases j2:(fitsQ (area2 m6/2)).2 with
    | false=>rw[cT,cF]
    | true =>
     have hw3:=hw2 j1 j2
     rw[cT,cT,hw3]
     cases j3:(fitsQ (area2 m/2)).2 with
     | false=>rw[cF]
     | true=>rw[cT,cT,Sv,obs,nT,cF]
theorem As0 {a:List Int} (ha:Cur 0 (a,0,0)):∃ (l:List RPt) (x y:RPt) (f:List RPt×Bool),BY a=some (l,(fl x,fl y))∧(Ar l (fl x) (fl y)=some f∧A1 l (fl x) (fl y)=some f∧AA f.1 f.1=some true) ∧
  (f.2=true→Ar f.1 (fl x) (fl y)=some f∧∃ v:RF×Bool,Ce (fx x) (fx y)=some v∧(v.2=true→∃ z:RPt×RPt,(v.1.1,(v.1.2.1,(v.1.2.2.1,(v.1.2.2.2,fy y))))=fl z.1∧(v.1.1,(v.1.2.1,(v.1.2.2.1,(v.1.2.2.2,fy x))))=fl z.2 ∧
   ∃ f5 f6:List RPt×Bool,Ar l (fl x) (fl z.1)=some f5∧Ar l (fl z.2) (fl y)=some f6∧(f5.2=true→f6.2=true→∃ m m5 m6,SzR m∧SzR m5∧SzR m6∧f.1=m.map rp∧f5.1=m5.map rp∧f6.1=m6.map rp∧area2 m5 + area2 m6=area2 m))):=by
 obtain ⟨l,x,y,e,n0,s0,bx,by_⟩:=AJ6 ha
 have hb:∀ p∈l,BrP p:=fun p hp=>(s0 p hp).br
 obtain ⟨f,f1,f2,f3,f4⟩:=JX (by omega) hb bx by_
 refine ⟨l,x,y,f,e,⟨f1,f2,f3⟩,fun h=>?_⟩
 obtain ⟨ps,lo,hi,hps,hlo,hhi,hx,hy,el,ex,ey,hm,ef⟩:=f4 h
 have hout:outR (boxQ lo hi ps)=((boxQ lo hi ps).map rp,true):=by
  unfold outR
  rw[if_pos (El.2 hm)]
 have again:=VI hm hlo hhi hx hy
 rw[As9,hout,←ex,←ey] at again
 have hfx:fx x=rqF lo.1:=by rw[ex]; rfl
 have hfy:fx y=rqF hi.1:=by rw[ey]; rfl
 refine ⟨by rw[ef]; exact again,betV lo.1 hi.1,by rw[hfx,hfy]; exact WR (hlo.1.mono (by omega)) (hhi.1.mono (by omega)),fun hv=>?_⟩
 obtain ⟨s,hs,ev,g1,g2,_⟩:=AO8 hv
 refine ⟨(rp (s,hi.2),rp (s,lo.2)),by rw[ev,ey]; rfl,by rw[ev,ex]; rfl,?_⟩
 have bs:BrP (rp (s,hi.2)):=Ns (k:=40) (by omega) ⟨hs,hhi.2.mono (by omega)⟩
 have bs':BrP (rp (s,lo.2)):=Ns (k:=40) (by omega) ⟨hs,hlo.2.mono (by omega)⟩
 obtain ⟨f5,p1,_,_,p4⟩:=JX (by omega) hb bx bs
 obtain ⟨f6,q1,_,_,q4⟩:=JX (by omega) hb bs' by_
 refine ⟨f5,f6,p1,q1,fun h5 h6=>?_⟩
 obtain ⟨ps5,lo5,hi5,_,_,_,_,_,el5,ex5,ey5,hm5,ef5⟩:=p4 h5
 obtain ⟨ps6,lo6,hi6,_,_,_,_,_,el6,ex6,ey6,hm6,ef6⟩:=q4 h6
 have inj:∀ u v:List Q2,u.map rp=v.map rp→u=v:=by
  intro u
  induction u with
  | nil=>intro v hv; cases v with
   | nil=>rfl
   | cons a t=>cases hv
  | cons b u ih=>intro v hv; cases v with
   | nil=>cases hv
   | cons a t =>
    rw[List.map_cons,List.map_cons] at hv
    obtain ⟨i1,i2⟩:=List.cons.inj hv
    rw[OP i1,ih t i2]
 have e1:ps5=ps:=inj _ _ (by rw[←el5,←el])
 have e2:ps6=ps:=inj _ _ (by rw[←el6,←el])
 have e3:lo5=lo:=OP (by rw[←ex5,←ex])
 have e4:hi5=(s,hi.2):=OP (by rw[←ey5])
 have e5:lo6=(s,lo.2):=OP (by rw[←ex6])
 have e6:hi6=hi:=OP (by rw[←ey6,←ey])
 rw[e1,e3,e4] at ef5 hm5
 rw[e2,e5,e6] at ef6 hm6
 refine ⟨_,_,_,hm,hm5,hm6,by rw[ef],by rw[ef5],by rw[ef6],?_⟩
 exact Aw0 lo hi s (Rat.le_of_lt g1) (Rat.le_of_lt g2) ps
theorem pureFnBoxes {a b:List Int} (ha:∀ x∈a,0≤x∧x≤255) (hb:∀ x∈b,0≤x∧x≤255) (la:a.length≤1000000000000000) (lb:b.length≤1000000000000000):Fx a b=some true:=by
 unfold Fx
 rw[wrapI (by omega) (by omega)]
 by_cases hl:(a.length:Int) + (b.length:Int)>1048576
 ·rw[decide_eq_true hl]; rfl
 rw[decide_eq_false hl,cF]
 have ca:Cur 0 (a,0,0):=.start ha (by omega)
 have cb:Cur 0 (b,0,0):=.start hb (by omega)
 have last:=Ah1 cb
 obtain ⟨l,x,y,f,e,⟨f1,f2,f3⟩,inn⟩:=As0 ca
 rw[e,obs]
 simp only[rq_e,peta,fl_x,fl_y,fl_q]
 rw[f1,obs,f2,obs,beq_self_eq_true,nT,cF,f3,obs,nT,cF]
 cases h:f.2 with
 | false =>
  rw[cF,obs,sEr]
  exact last
 | true =>
  obtain ⟨i1,v,i2,i3⟩:=inn h
  rw[cT,i2,obs]
  cases hv:v.2 with
  | false =>
   rw[cF,obs,sEr]
   simp only[peta]
   rw[i1,obs,h,nT,cF,f3,obs,nT,cF,obs,sEr]
   exact last
  | true =>
   obtain ⟨z,z1,z2,f5,f6,j5,j6,j7⟩:=i3 hv
   rw[cT,z1,z2,j5,obs,j6,obs]
   have mid:=As7 (fl x,(fl y,(b,f.1))) f f5 f6 j7
   rw[mid,obs,sEr]
   simp only[peta]
   rw[i1,obs,h,nT,cF,f3,obs,nT,cF,obs,sEr]
   exact last
end Go.Proofs.YthipdlhknbhiiaaGreat.Ev

end
section
namespace Go.Proofs.YthipdlhknbhiiaaGreat.Ev
open Go Go.RowKit Go.ChangeShapes Go.WideShapes Go.ChangeAt
def shs:List Sh:=[.sl 1 (.int .u8),.sl 1 (.int .u8)]
theorem fits:FitsL Tryz.prog [22,22] shs:=by
 have h:Fits Tryz.prog 22 (.sl 1 (.int .u8)):=.sl Tryz.underlying22 (by kernel_rfl) (by kernel_rfl) (.int Tryz.underlying5)
 exact ⟨h,h,trivial⟩
theorem bytes_wf {l:List Int} (h:WFC (.sl 1 (.int .u8)) l):(∀ x∈l,0≤x∧x≤255)∧l.length≤1000000000000000:=by
 have h1:∀ x∈l,(Lit.int .u8 x).wf=true:=h.1
 have h2:l.length*1≤maxBytes:=h.2
 refine ⟨fun x hx=>?_,by unfold maxBytes at h2; omega⟩
 have:=h1 x hx
 simp[Lit.wf,IntKind.min,IntKind.max,IntKind.bits,IntKind.signed] at this
 omega
theorem own:ownKnob Tryz.prog.godebug=none:=by kernel_rfl
theorem laid:laidOutB Tryz.prog=true:=by kernel_rfl
set_option maxRecDepth 100000 in
theorem lifted (os:Os) (started:os.Started) (H:Type) (enc:TypeId×Value→H) :
  ReturnsInHanded {} Tryz.checked os 3 .any (Rows.fnBoxesSpec.pre6 enc Tryz.prog Tryz.f3 Rows.fnBoxesRow.domain false) (Rows.fnBoxesSpec.post enc Tryz.prog Tryz.f3 false true false false):=by
 refine returnsInHanded_of_change_sized (C:=Tryz.checked) own started (by kernel_rfl) Tryz.func3 (ChangeSpec.witness6 (enc:=enc) (C:=Tryz.checked) false ⟨#[],#[.slice none 0 0,.slice none 0 0],[]⟩ 8 (by kernel_rfl) (by kernel_rfl) (by kernel_rfl) (by kernel_rfl)) ?_
 intro W base args ds gs before hval hW hcnd hsz _
 exact WW (P:=Tryz.prog) (J:=[]) (cf:=cf0) (ext:=ext0) (F:=fun x=>Fx x.1 x.2) (shs:=shs) (by kernel_rfl) AA8 XF (fun d=>by kernel_rfl)
  (fun d hd=>pureFnBoxes (bytes_wf hd.1).1 (bytes_wf hd.2.1).1 (bytes_wf hd.1).2 (bytes_wf hd.2.1).2) rfl rfl rfl (by kernel_rfl) fits laid
  (fun t ht=>by
   have:t=22:=by simpa using ht
   subst this
   exact ⟨by kernel_rfl,of_decide_eq_true (by kernel_rfl)⟩) rfl
  (fun ds hl=>by
   match ds,hl with
   | [_,_],_=>rfl) (fun x hx=>absurd hx (List.not_mem_nil)) hval hW hsz
theorem over:Rows.fnBoxesRow.holds Tryz.pinned (OpenSpec.ofChange Rows.fnBoxesSpec) :=
 OpenClaim.holds_of_wide 3 Tryz.f3 rfl rfl rfl rfl rfl rfl rfl ⟨rfl,rfl,rfl,rfl,rfl⟩ rfl rfl rfl rfl rfl (by kernel_rfl) Tryz.func3 (by kernel_rfl)
  (of_decide_eq_true (by kernel_rfl)) (by unfold Func.isWrapper; first | (rw[if_pos (by decide +kernel)]; kernel_rfl) | (rw[if_neg (by decide +kernel)]; exact ⟨rfl,rfl⟩))
  (fun os started H enc _=>lifted os started H enc)
end Go.Proofs.YthipdlhknbhiiaaGreat.Ev
namespace Go.Proofs.YthipdlhknbhiiaaGreat
theorem fnBoxes_holds:Rows.FnBoxesSaid:=Ev.over
#print axioms fnBoxes_holds
end Go.Proofs.YthipdlhknbhiiaaGreat

end
