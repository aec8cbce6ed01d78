/- Whatever comes in, the law of this claim answers true, and nothing that was handed in changes. -/
import Derived.Test.YthipdlhknbhiiaaGreatKE
import Derived.KernelRfl
import Derived.Test.YthipdlhknbhiiaaGreatRows
import Derived.WalkKit
import Derived.ProofKit
import Derived.OpenShut
import Derived.ShutString
import Derived.ChangeOld
import Derived.Below
import Derived.SizedLaws
import Derived.Test.YthipdlhknbhiiaaGreatChecked
set_option linter.unusedVariables false
set_option linter.unusedSimpArgs false
set_option linter.unusedSectionVars false
section
namespace Go.Proofs.YthipdlhknbhiiaaGreat.Ev
open Go
theorem Fy (n:Nat):big (n:Int)=(false,lim n):=by unfold big; rw[decide_eq_false (by omega),Int.natAbs_natCast]
theorem X7 (n:Nat):big (-(n:Int))=(decide (n≠0),lim n):=by unfold big; congr 1; exact decide_eq_decide.2 (by omega); congr 1; omega
theorem ZF (x y:Int):((!(decide (x<0)==decide (y<0)))&&decide (x.natAbs/y.natAbs≠0),lim (x.natAbs/y.natAbs))=big (x.tdiv y):=by
 rcases Int.lt_or_le x 0 with hx | hx
 ·obtain ⟨a,rfl⟩:∃ a:Nat,x = -(a:Int):=⟨x.natAbs,by omega⟩
  rcases Int.lt_or_le y 0 with hy | hy
  ·obtain ⟨b,rfl⟩:∃ b:Nat,y = -(b:Int):=⟨y.natAbs,by omega⟩
   rw[Int.neg_tdiv,Int.tdiv_neg,Int.neg_neg,←Int.ofNat_tdiv,Fy,decide_eq_true hx,decide_eq_true hy,Int.natAbs_neg,Int.natAbs_neg]; rfl
  ·obtain ⟨b,rfl⟩:∃ b:Nat,y=(b:Int):=⟨y.natAbs,by omega⟩
   rw[Int.neg_tdiv,←Int.ofNat_tdiv,X7,decide_eq_true hx,decide_eq_false (show ¬(b:Int)<0 by omega),Int.natAbs_neg]; rfl
 ·obtain ⟨a,rfl⟩:∃ a:Nat,x=(a:Int):=⟨x.natAbs,by omega⟩
  rcases Int.lt_or_le y 0 with hy | hy
  ·obtain ⟨b,rfl⟩:∃ b:Nat,y = -(b:Int):=⟨y.natAbs,by omega⟩
   rw[Int.tdiv_neg,←Int.ofNat_tdiv,X7,decide_eq_false (show ¬(a:Int)<0 by omega),decide_eq_true hy,Int.natAbs_neg]; rfl
  ·obtain ⟨b,rfl⟩:∃ b:Nat,y=(b:Int):=⟨y.natAbs,by omega⟩
   rw[←Int.ofNat_tdiv,Fy,decide_eq_false (show ¬(a:Int)<0 by omega),decide_eq_false (show ¬(b:Int)<0 by omega)]; rfl
theorem Yo (x y:Int):(decide (x<0)&&decide (x.natAbs%y.natAbs≠0),lim (x.natAbs%y.natAbs))=big (x.tmod y):=by
 have hy:x.tmod y=x.tmod (y.natAbs:Int):=by
  rcases Int.natAbs_eq y with h | h
  ·rw[←h]
  ·rw[h,Int.tmod_neg,Int.natAbs_neg,Int.natAbs_natCast]
 rw[hy]
 rcases Int.lt_or_le x 0 with hx | hx
 ·obtain ⟨a,rfl⟩:∃ a:Nat,x = -(a:Int):=⟨x.natAbs,by omega⟩
  rw[Int.neg_tmod,←Int.ofNat_tmod,X7,decide_eq_true hx,Int.natAbs_neg]; rfl
 ·obtain ⟨a,rfl⟩:∃ a:Nat,x=(a:Int):=⟨x.natAbs,by omega⟩
  rw[←Int.ofNat_tmod,Fy,decide_eq_false (show ¬(a:Int)<0 by omega)]; rfl
theorem Hr {a b:Nat} (h:a≤b):(lim a).length≤(lim b).length:=Ah.2 (Int.lt_of_le_of_lt (by omega) (Ah.1 (Nat.le_refl (lim b).length)))
section
variable {x y:Int} {k:Nat}
theorem LI (hk:k≤90000) (hx:(x.natAbs:Int)<B k) (hy:(y.natAbs:Int)<B k) (h0:y≠0):Ee (big x) (big y)=some (big (x.tdiv y),big (x.tmod y)):=by
 have lx:=Nat.le_trans (Ah.2 hx) hk
 have ly:=Nat.le_trans (Ah.2 hy) hk
 have l1:=Hr (Nat.div_le_self x.natAbs y.natAbs)
 have l2:=Hr (Nat.mod_le x.natAbs y.natAbs)
 unfold Ee
 rw[show (big x).2=lim x.natAbs from rfl,show (big y).2=lim y.natAbs from rfl,Ti (by omega) lx ly]
 simp only[Option.bind_some]
 rw[FA (Aq _) (by unfold Brief; omega),FA (Aq _) (by unfold Brief; omega),Aj,Aj,Int.toNat_natCast,Int.toNat_natCast]
 simp only[Option.bind_some]
 rw[show (big x).1=decide (x<0) from rfl,show (big y).1=decide (y<0) from rfl,ZF,Yo]
theorem Am6 (hk:k≤90000) (hx:(x.natAbs:Int)<B k) (hy:(y.natAbs:Int)<B k) (h0:y≠0):Gk (big x) (big y)=some (big (x.tdiv y),big (x.tmod y)):=by
 have lx:=Nat.le_trans (Ah.2 hx) hk
 have ly:=Nat.le_trans (Ah.2 hy) hk
 have l1:=Hr (Nat.div_le_self x.natAbs y.natAbs)
 have l2:=Hr (Nat.mod_le x.natAbs y.natAbs)
 unfold Gk
 rw[show (big x).2=lim x.natAbs from rfl,show (big y).2=lim y.natAbs from rfl,NU (by omega) lx ly]
 simp only[Option.bind_some]
 rw[C6 (Aq _) (by unfold Brief; omega),C6 (Aq _) (by unfold Brief; omega),Aj,Aj,Int.toNat_natCast,Int.toNat_natCast]
 simp only[Option.bind_some]
 rw[show (big x).1=decide (x<0) from rfl,show (big y).1=decide (y<0) from rfl,ZF,Yo]
end
theorem P1 {b:Nat} (h:b≠0):decide ((((lim b).length:Nat):Int)>0)=true:=by rw[KJ,H1]; simp[h]
theorem Ai0 (s:Bool×List Int):∀ (n a b:Nat),b<n→(lim a).length≤90000→(lim b).length≤90000 →
  loopM (fun (s:((Bool×(List Int))×((List Int)×(List Int))))=>Fz s.1 s.2.1 s.2.2) (s,(lim a,lim b))=some (s,lim (Nat.gcd a b)):=by
 intro n
 induction n with
 | zero=>intro a b h; omega
 | succ n ih =>
  intro a b h ha hb
  by_cases h0:b=0
  ·subst h0
   rw[Nat.gcd_zero_right]
   refine Am ?_
   unfold Fz
   rw[Bh]
   rfl
  ·have hm:=Nat.mod_lt a (show b>0 by omega)
   rw[AH (s':=(s,(lim b,lim (a%b))))]
   ·rw[ih b (a%b) (by omega) hb (Nat.le_trans (Hr (Nat.mod_le _ _)) ha),Nat.gcd_comm b,←Nat.gcd_rec,Nat.gcd_comm b]
   ·unfold Fz
    dsimp only
    rw[P1 h0,Ti h0 ha hb]
    rfl
theorem Ac9:∀ (n a b:Nat),b<n→(lim a).length≤90000→(lim b).length≤90000 →
  loopM (fun (s:((List Int)×(List Int)))=>HB s.1 s.2) (lim a,lim b)=some (lim (Nat.gcd a b)):=by
 intro n
 induction n with
 | zero=>intro a b h; omega
 | succ n ih =>
  intro a b h ha hb
  by_cases h0:b=0
  ·subst h0
   rw[Nat.gcd_zero_right]
   refine Am ?_
   unfold HB
   rw[Bh]
   rfl
  ·have hm:=Nat.mod_lt a (show b>0 by omega)
   rw[AH (s':=(lim b,lim (a%b)))]
   ·rw[ih b (a%b) (by omega) hb (Nat.le_trans (Hr (Nat.mod_le _ _)) ha),Nat.gcd_comm b,←Nat.gcd_rec,Nat.gcd_comm b]
   ·unfold HB
    dsimp only
    rw[P1 h0,NU h0 ha hb]
    rfl
theorem Am9 {a b:Nat} (ha:(lim a).length≤90000) (hb:(lim b).length≤90000):(lim (Nat.gcd a b)).length≤90000:=by
 by_cases h:a=0
 ·subst h; rw[Nat.gcd_zero_left]; exact hb
 ·exact Nat.le_trans (Hr (Nat.gcd_le_left b (by omega))) ha
section
variable {x y:Int} {k:Nat}
theorem Vr (hk:k≤90000) (hx:(x.natAbs:Int)<B k) (hy:(y.natAbs:Int)<B k):Ej (big x) (big y)=some (big (Int.gcd x y:Nat)):=by
 have lx:=Nat.le_trans (Ah.2 hx) hk
 have ly:=Nat.le_trans (Ah.2 hy) hk
 have lg:=Am9 lx ly
 unfold Ej
 rw[show (big x).2=lim x.natAbs from rfl,show (big y).2=lim y.natAbs from rfl,Ai0 _ _ _ _ (Nat.lt_succ_self _) lx ly]
 simp only[Option.bind_some]
 rw[FA (Aq _) (by unfold Brief; omega),Aj,Int.toNat_natCast,Fy]
 rfl
theorem Ap2 (hk:k≤90000) (hx:(x.natAbs:Int)<B k) (hy:(y.natAbs:Int)<B k):Gn (big x).2 (big y).2=some (lim (Int.gcd x y)):=by
 have lx:=Nat.le_trans (Ah.2 hx) hk
 have ly:=Nat.le_trans (Ah.2 hy) hk
 have lg:=Am9 lx ly
 unfold Gn
 rw[show (big x).2=lim x.natAbs from rfl,show (big y).2=lim y.natAbs from rfl,Ac9 _ _ _ (Nat.lt_succ_self _) lx ly]
 simp only[Option.bind_some]
 rw[EY (by unfold Brief; omega)]
 simp only[Option.bind_some]
 rw[J4 (PE _)]
 rfl
end
end Go.Proofs.YthipdlhknbhiiaaGreat.Ev

end
section
namespace Go.Proofs.YthipdlhknbhiiaaGreat.Ev
open Go
theorem peta {α β:Type} (p : α×β):(p.1,p.2)=p:=by cases p; rfl
theorem VC {a:Bool×List Int} (h:a.2.length≤1000000):Ey a a=some true:=by
 have hb:EW a.2 a.2=some true:=by
  unfold EW
  rw[bne_self_eq_false]
  simp only[cond_false]
  obtain ⟨h1,h2⟩:=LS (l:=a.2) (body:=fun (s:((List Int)×((List Int)×(Int×Int))))=>EH s.1 s.2.1 s.2.2.1 s.2.2.2)
   (st:=fun k (b:Unit)=>(a.2,(a.2,((a.2.length:Int),(k:Int))))) (step:=fun b p=>()) (fin:=fun b=>.inl ()) (I:=fun k b=>True)
   (by
    rintro k b p hk _
    have hkl:=getL hk
    unfold EH
    simp only[EP hk,cond_true,Ak,hk,Option.bind_some,bne_self_eq_false,cond_false,wrap1 (show k<4611686018427387904 by omega)]
    exact ⟨trivial,trivial⟩)
   (by
    rintro b _
    unfold EH
    simp only[Lw,cond_false]) () trivial
  rw[show ((0:Nat):Int)=0 from rfl] at h1
  rw[h1]
  rfl
 unfold Ey
 rw[beq_self_eq_true,hb]
 rfl
section
variable {x y:Int} (hx:(x.natAbs:Int)<B 40) (hy:(y.natAbs:Int)<B 40)
include hx hy
end
section
variable {a b:Bool×List Int} (ha:Brief a.2) (hb:Brief b.2) (h:(goodB a&&goodB b)=false)
include ha hb h
end
end Go.Proofs.YthipdlhknbhiiaaGreat.Ev

end
section
namespace Go.Proofs.YthipdlhknbhiiaaGreat.Ev
open Go
def Few (n:Nat) (l:List Int):Prop:=LB l∧l.length≤n
theorem AC9 {s1:Bool×List Int} {c:List Int×Int×Int}:∀ (n:Nat) (k B':Nat) (c:List Int×Int×Int) (l:List Int),Cur B' c→B' + 6*n≤100000000000→n≤1000→Few k l→k + n≤1000 →
  ∃ c' l',loopM (fun (s:(((List Int)×(Int×Int))×((Bool×(List Int))×((List Int)×Int))))=>CP s.1 s.2.1 s.2.2.1 s.2.2.2) (c,(s1,(l,(n:Int))))=some (c',(s1,l'))∧Cur (B' + 6*n) c'∧Few (k + n) l':=by
 intro n
 induction n with
 | zero =>
  intro k B' c l hc hB hn hl hk
  exact ⟨c,l,Am (by unfold CP; rfl),hc.mono (by omega),hl⟩
 | succ n ih =>
  intro k B' c l hc hB hn hl hk
  obtain ⟨c1,v1,e1,q1,a1,b1⟩:=Aw hc (by omega) 256
  obtain ⟨c2,v2,e2,q2,a2,b2⟩:=Aw q1 (by omega) 256
  have b1:=b1 (by omega)
  have b2:=b2 (by omega)
  obtain ⟨c3,v3,e3,q3,m3⟩:=EU q2 (by omega) [0,1,65535,32768,256*v1 + v2,7] (by simp) (by simp)
  have hv : 0≤v3∧v3<65536:=by simp at m3; omega
  obtain ⟨c',l',h1,h2,h3⟩:=ih (k + 1) (B' + 6) c3 (l ++ [v3]) (q3.mono (by omega)) (by omega) (by omega) ⟨hl.1.append (LB.cons hv LB.nil),by simp; exact hl.2⟩ (by omega)
  refine ⟨c',l',?_,h2.mono (by omega),by rw[show k + (n + 1)=k + 1 + n by omega]; exact h3⟩
  rw[AH (s':=(c3,(s1,(l ++ [v3],(n:Int)))))]
  ·exact h1
  ·unfold CP
   have hd:decide (((n + 1:Nat):Int)>0)=true:=decide_eq_true (by omega)
   have hl2:=hl.2
   simp only[hd,cond_true,e1,e2,Option.bind_some,wrapI (n:=256*v1) (by omega) (by omega),wrapI (n:=256*v1 + v2) (by omega) (by omega),e3,app1 (show l.length≤100000000 from by omega)]
   rw[wrapI (by omega) (by omega),show ((n + 1:Nat):Int)-1=(n:Int) by omega]
theorem AF1 {B':Nat} {c:List Int×Int×Int} (h:Cur B' c) (hB:B'≤1000000000):∃ c' b,CW c=some (c',b)∧Cur (B' + 300) c'∧b.2.length≤100:=by
 unfold CW
 obtain ⟨c0,v0,e0,q0,a0,b0⟩:=Aw h (by omega) 6
 have b0:=b0 (by omega)
 obtain ⟨c1,v1,e1,q1⟩:=Fp q0 (by omega) 12
 simp only[e0,e1,Option.bind_some]
 have fin:∀ (c2:List Int×Int×Int) (n:Nat),Cur (B' + 6) c2→n≤41→∃ c' b,((loopM (fun (s:(((List Int)×(Int×Int))×((Bool×(List Int))×((List Int)×Int))))=>CP s.1 s.2.1 s.2.2.1 s.2.2.2) (c2,((false,[]),([],(n:Int))))).bind fun x6 =>
  ((Ap (x6.1.1,(x6.1.2.1,x6.1.2.2)) (3:Int))).bind fun x7 =>
  ((AE x7.2 x6.2.2)).bind fun x8 =>
  ((Ap (x7.1.1,(x7.1.2.1,x7.1.2.2)) (40:Int))).bind fun x9 =>
  bif x9.2 then
   ((As (x9.1.1,(x9.1.2.1,x9.1.2.2)) (List.cons (0:Int) (List.cons (-(1:Int)) (List.cons (65536:Int) List.nil))))).bind fun x10 =>
   ((appL 8 1 x8.1 (List.cons x10.2 List.nil))).bind fun x11 =>
   some ((x10.1.1,(x10.1.2.1,x10.1.2.2)),(x8.2,x11))
  else
  some ((x9.1.1,(x9.1.2.1,x9.1.2.2)),(x8.2,x8.1)))=some (c',b)∧Cur (B' + 300) c'∧b.2.length≤100:=by
  intro c2 n q2 hn
  obtain ⟨c3,l,e3,q3,hl⟩:=AC9 (s1:=(false,[])) (c:=c2) n 0 (B' + 6) c2 [] q2 (by omega) (by omega) ⟨LB.nil,by simp⟩ (by omega)
  obtain ⟨c4,v4,e4,q4⟩:=Fp q3 (by omega) 3
  obtain ⟨c5,v5,e5,q5⟩:=Fp q4 (by omega) 40
  have hll:=hl.2
  have hmk:=C6 hl.1 (by unfold Brief; omega) v4
  have hlen:(lim (val l).toNat).length≤0 + n:=AE1 hl.1 _ 0 hl.2
  simp only[e3,e4,e5,hmk,Option.bind_some]
  cases v5
  ·exact ⟨_,_,rfl,q5.mono (by omega),by simp only; omega⟩
  ·obtain ⟨c6,v6,e6,q6,m6⟩:=EU q5 (by omega) [0,-(1:Int),65536] (by simp) (by simp)
   simp only[cond_true,e6,Option.bind_some]
   rw[app1 (by omega)]
   exact ⟨_,_,rfl,q6.mono (by omega),by simp; omega⟩
 cases v1
 ·simp only[cond_false,Option.bind_some,Sum.elim_inr]
  have hv:v0=((v0.toNat:Nat):Int):=by omega
  rw[hv]
  exact fin c1 v0.toNat (q1.mono (by omega)) (by omega)
 ·obtain ⟨c2,v2,e2,q2,m2⟩:=EU q1 (by omega) [20,39,40,41] (by simp) (by simp)
  simp only[cond_true,e2,Option.bind_some,Sum.elim_inr]
  have hm : 0≤v2∧v2≤41:=by simp at m2; omega
  have hv:v2=((v2.toNat:Nat):Int):=by omega
  rw[hv]
  exact fin c2 v2.toNat (q2.mono (by omega)) (by omega)
end Go.Proofs.YthipdlhknbhiiaaGreat.Ev

end
section
namespace Go.Proofs.YthipdlhknbhiiaaGreat.Ev
open Go
def rq (q:Rat):(Bool×List Int)×(Bool×List Int):=(big q.num,big (q.den:Int))
theorem Ag1 {p q:Rat} (h:rq p=rq q):p=q:=by
 have h1:=Aq6 (congrArg Prod.fst h)
 have h2:=Aq6 (congrArg Prod.snd h)
 exact Rat.ext h1 (by exact_mod_cast h2)
theorem Ji {x y:Int} (hy:y≠0):x.tdiv (if y<0 then -((Int.gcd x y:Nat):Int) else (Int.gcd x y:Nat))=(Rat.divInt x y).num∧y.tdiv (if y<0 then -((Int.gcd x y:Nat):Int) else (Int.gcd x y:Nat))=((Rat.divInt x y).den:Int):=by
 have d1:((Int.gcd x y:Nat):Int)∣x:=Int.gcd_dvd_left ..
 have d2:((Int.gcd x y:Nat):Int)∣y:=Int.gcd_dvd_right ..
 rw[Rat.num_divInt,Rat.den_divInt,if_neg hy,Int.gcd_comm y x]
 generalize Int.gcd x y=n at *
 obtain ⟨a,rfl⟩:=d1
 obtain ⟨b,rfl⟩:=d2
 have hn:n≠0:=by rintro rfl; simp at hy
 have hn':(n:Int)≠0:=by omega
 have hb:b≠0:=by rintro rfl; simp at hy
 have hsg:((n:Int)*b<0)↔b<0:=by
  constructor
  ·intro h
   rcases Int.lt_or_le b 0 with g | g
   ·exact g
   ·exact absurd (Int.mul_nonneg (show (0:Int)≤(n:Int) by omega) g) (by omega)
  ·intro h; exact Int.mul_neg_of_pos_of_neg (by omega) h
 rw[Int.natAbs_mul,Int.natAbs_natCast,Nat.mul_div_cancel_left _ (by omega)]
 by_cases h:b<0
 ·rw[if_pos (hsg.2 h),Int.sign_eq_neg_one_of_neg (hsg.2 h),Int.tdiv_neg,Int.tdiv_neg,Int.mul_tdiv_cancel_left _ hn',Int.mul_tdiv_cancel_left _ hn',
   show (-1:Int)*((n:Int)*a)=(n:Int)*(-a) by rw[Int.mul_neg,Int.neg_mul,Int.one_mul],Int.mul_ediv_cancel_left _ hn']
  exact ⟨rfl,by omega⟩
 ·have h':¬(n:Int)*b<0:=fun g=>h (hsg.1 g)
  have hp : 0<(n:Int)*b:=by omega
  rw[if_neg h',Int.sign_eq_one_of_pos hp,Int.mul_tdiv_cancel_left _ hn',Int.mul_tdiv_cancel_left _ hn',Int.one_mul,Int.mul_ediv_cancel_left _ hn']
  exact ⟨rfl,by omega⟩
def Sz (k:Nat) (q:Rat):Prop:=(q.num.natAbs:Int)<B k∧(q.den:Int)<B k
instance (k:Nat) (q:Rat):Decidable (Sz k q):=by unfold Sz; infer_instance
theorem Sz.mono {k m:Nat} {q:Rat} (h:Sz k q) (hkm:k≤m):Sz m q:=by
 have:=G9 hkm
 unfold Sz at *
 omega
theorem RX (x g:Int):(x.tdiv g).natAbs≤x.natAbs:=by rw[Int.natAbs_tdiv]; exact Nat.div_le_self _ _
theorem Iq {x y:Int} {k:Nat} (hx:(x.natAbs:Int)<B k) (hy:(y.natAbs:Int)<B k) (h0:y≠0):Sz k (Rat.divInt x y):=by
 obtain ⟨h1,h2⟩:=Ji (x:=x) h0
 have a1:=RX x (if y<0 then -((Int.gcd x y:Nat):Int) else (Int.gcd x y:Nat))
 have a2:=RX y (if y<0 then -((Int.gcd x y:Nat):Int) else (Int.gcd x y:Nat))
 rw[h1] at a1
 rw[h2] at a2
 unfold Sz
 omega
theorem AI5 (p q:Rat):p + q=Rat.divInt (p.num*q.den + q.num*p.den) ((p.den:Int)*(q.den:Int)):=by
 rw[Rat.add_def',←Rat.divInt_ofNat,Int.natCast_mul]
theorem AA5 (p q:Rat):p*q=Rat.divInt (p.num*q.num) ((p.den:Int)*(q.den:Int)):=by
 rw[Rat.mul_def',←Rat.divInt_ofNat,Int.natCast_mul]
theorem AF3 (p q:Rat):p/q=Rat.divInt (p.num*q.den) ((p.den:Int)*q.num):=by
 rw[Rat.div_def,Rat.inv_def]
 conv=>lhs; lhs; rw[←Rat.num_divInt_den p]
 rw[Rat.divInt_mul_divInt]
theorem mulB {x y:Int} {k m:Nat} (hx:(x.natAbs:Int)<B k) (hy:(y.natAbs:Int)<B m):((x*y).natAbs:Int)<B (k + m):=by
 rw[Int.natAbs_mul]; exact fit2 hx hy
theorem addB {x y:Int} {k:Nat} (hx:(x.natAbs:Int)<B k) (hy:(y.natAbs:Int)<B k):((x + y).natAbs:Int)<B (k + 1):=by
 have h1:B (k + 1)=65536*B k:=by rw[Oz,Int.mul_comm]; rfl
 have:=EO k
 omega
theorem natB {n:Nat} {k:Nat} (h:(n:Int)<B k):(((n:Int)).natAbs:Int)<B k:=by rw[Int.natAbs_natCast]; exact h
theorem negB {x:Int} {k:Nat} (h:(x.natAbs:Int)<B k):((-x).natAbs:Int)<B k:=by rw[Int.natAbs_neg]; exact h
theorem upB {x:Int} {k m:Nat} (h:(x.natAbs:Int)<B k) (hkm:k≤m):(x.natAbs:Int)<B m:=Int.lt_of_lt_of_le h (G9 hkm)
section
variable {p q:Rat} {k m:Nat} (hp:Sz k p) (hq:Sz m q)
include hp hq
theorem HS:Sz (k + m) (p*q):=by
 rw[AA5]
 exact Iq (mulB hp.1 hq.1) (mulB (natB hp.2) (natB hq.2)) (by have:=p.den_nz; have:=q.den_nz; intro h; rcases Int.mul_eq_zero.1 h with h | h <;> omega)
theorem OM:((p.num*(q.den:Int) + q.num*(p.den:Int)).natAbs:Int)<B (k + m + 1) :=
 addB (mulB hp.1 (natB hq.2)) (by rw[Nat.add_comm]; exact mulB hq.1 (natB hp.2))
theorem SO:Sz (k + m + 1) (p + q):=by
 rw[AI5]
 exact Iq (OM hp hq) (upB (mulB (natB hp.2) (natB hq.2)) (by omega)) (by have:=p.den_nz; have:=q.den_nz; intro h; rcases Int.mul_eq_zero.1 h with h | h <;> omega)
theorem Ag2 (h0:q≠0):Sz (k + m) (p/q):=by
 rw[AF3]
 exact Iq (mulB hp.1 (natB hq.2)) (mulB (natB hp.2) hq.1) (by
  have:=p.den_nz
  have hn:q.num≠0:=fun h=>h0 (Rat.num_eq_zero.1 h)
  intro h; rcases Int.mul_eq_zero.1 h with h | h <;> omega)
end
theorem Ab2 {p:Rat} {k:Nat} (hp:Sz k p):Sz k (-p):=⟨negB hp.1,hp.2⟩
theorem GM {p q:Rat} {k m:Nat} (hp:Sz k p) (hq:Sz m q):Sz (k + m + 1) (p-q):=by rw[Rat.sub_eq_add_neg]; exact SO hp (Ab2 hq)
theorem B1:B 1=65536:=rfl
theorem Tk {z:Int} {k:Nat} (h:(z.natAbs:Int)<B k) (hk : 1≤k):Sz k (z:Rat):=⟨h,by
 rw[Rat.den_intCast]
 have:=G9 hk
 rw[B1] at this
 omega⟩
def cmpQ (p q:Rat):Int:=if p<q then -1 else if q<p then 1 else 0
theorem Am2 (p q:Rat):cmpZ (p.num*(q.den:Int)) (q.num*(p.den:Int))=cmpQ p q:=by
 unfold cmpZ cmpQ
 simp only[Rat.lt_iff]
theorem Al1 {p q:Rat}:cmpQ p q<0↔p<q:=by
 unfold cmpQ; split
 ·simp[*]
 ·split <;> simp[*]
theorem Lr {p q:Rat} : 0<cmpQ p q↔q<p:=by
 unfold cmpQ; split
 ·rename_i h; simp; exact Rat.not_lt.2 (Rat.le_of_lt h)
 ·split <;> simp[*]
def goodQ (a:(Bool×List Int)×(Bool×List Int)):Bool:=goodB a.1&&goodB a.2&&((!a.2.1 && !a.2.2.isEmpty)&&decide (Nat.gcd (val a.1.2).toNat (val a.2.2).toNat=1))
theorem Gv {a:(Bool×List Int)×(Bool×List Int)}:goodQ a=true↔∃ q:Rat,Sz 40 q∧a=rq q:=by
 unfold goodQ
 constructor
 ·intro h
  simp only[Bool.and_eq_true,decide_eq_true_eq] at h
  obtain ⟨⟨h1,h2⟩,⟨h3,h4⟩,h5⟩:=h
  obtain ⟨x,hx,e1⟩:=DJ.1 h1
  obtain ⟨y,hy,e2⟩:=DJ.1 h2
  rw[e2] at h3 h4 h5
  rw[e1] at h5
  unfold big at h3 h4 h5
  simp only[Aj,Int.toNat_natCast] at h5
  simp only[Bool.not_eq_true',decide_eq_false_iff_not] at h3
  simp only[Bool.not_eq_true'] at h4
  have h6:y≠0:=by
   rintro rfl
   rw[show (0:Int).natAbs=0 from rfl,Bh] at h4
   simp at h4
  refine ⟨⟨x,y.natAbs,by omega,h5⟩,⟨hx,by show ((y.natAbs:Nat):Int)<B 40; exact hy⟩,?_⟩
  unfold rq
  rw[←e1]
  refine Prod.ext rfl ?_
  rw[e2]
  show big y=big ((y.natAbs:Nat):Int)
  congr 1
  omega
 ·rintro ⟨q,h,rfl⟩
  unfold rq
  have hd:=q.den_nz
  have hb:=LR h.1
  have hb2:=LR (natB h.2)
  simp only[hb,hb2,Bool.true_and]
  unfold big
  simp only[Aj,Int.toNat_natCast,Int.natAbs_natCast,Bool.and_eq_true,decide_eq_true_eq,Bool.not_eq_true',decide_eq_false_iff_not]
  refine ⟨⟨by omega,?_⟩,q.reduced⟩
  have:=H1 q.den
  rw[decide_eq_true hd] at this
  simpa using this
theorem Kx {q:Rat} (h:Sz 40 q):goodQ (rq q)=true:=Gv.2 ⟨q,h,rfl⟩
end Go.Proofs.YthipdlhknbhiiaaGreat.Ev

end
section
namespace Go.Proofs.YthipdlhknbhiiaaGreat.Ev
open Go
end Go.Proofs.YthipdlhknbhiiaaGreat.Ev

end
section
namespace Go.Proofs.YthipdlhknbhiiaaGreat.Ev
open Go
abbrev RF:=Bool×(List Int×(Bool×List Int))
def rqF (q:Rat):RF:=((big q.num).1,((big q.num).2,((big (q.den:Int)).1,(big (q.den:Int)).2)))
def zF:RF:=(false,([],(false,[])))
theorem rq_n (q:Rat):((rqF q).1,(rqF q).2.1)=big q.num:=(rfl)
theorem rq_d (q:Rat):((rqF q).2.2.1,(rqF q).2.2.2)=big (q.den:Int):=(rfl)
theorem Qt (q:Rat):(rqF q).2.2=big (q.den:Int):=(rfl)
theorem rq_e (a:RF):(a.1,(a.2.1,(a.2.2.1,a.2.2.2)))=a:=(rfl)
theorem Ap3 {x y:Int} {k:Nat} (hy:(y.natAbs:Int)<B k) (h0:y≠0):(((Int.gcd x y:Nat):Int).natAbs:Int)<B k:=by
 rw[Int.natAbs_natCast]
 have:Int.gcd x y≤y.natAbs:=Nat.le_of_dvd (by omega) (Nat.gcd_dvd_right ..)
 omega
theorem AI6 {x y:Int} (h0:y≠0):((Int.gcd x y:Nat):Int)≠0:=by
 have : 0<Int.gcd x y:=Nat.gcd_pos_of_pos_right _ (by omega)
 omega
theorem Fj {x:Int} {k:Nat} (hk:k≤1000000) (h:(x.natAbs:Int)<B k):Brief (big x).2:=by
 have:=Ah.2 h; unfold big Brief; dsimp only; omega
theorem LD (x:Int) (s:Bool):(lim (val (big x).2).toNat,s&&decide ((val (big x).2).toNat≠0))=(lim x.natAbs,s&&decide (x≠0)):=by
 unfold big
 simp only[Aj,Int.toNat_natCast]
 congr 2
 exact decide_eq_decide.2 (by omega)
theorem VB {x:Int} {k:Nat} (hk:k≤1000000) (h:(x.natAbs:Int)<B k):Ep (big x)=some (big (-x)):=by
 unfold Ep
 rw[FA (show LB (big x).2 from Aq _) (Fj hk h),LD]
 simp only[Option.bind_some]
 congr 1
 unfold big
 simp only
 refine Prod.ext ?_ (by simp)
 simp only
 by_cases h0:x<0
 ·rw[decide_eq_true h0]; simp; omega
 ·rw[decide_eq_false h0]; simp only[Bool.not_false,Bool.true_and]; exact decide_eq_decide.2 (by omega)
theorem Xo {x:Int} {k:Nat} (hk:k≤1000000) (h:(x.natAbs:Int)<B k):Fn (big x)=some (big (-x)):=by
 unfold Fn
 rw[C6 (show LB (big x).2 from Aq _) (Fj hk h),LD]
 simp only[Option.bind_some]
 congr 1
 unfold big
 simp only
 refine Prod.ext ?_ (by simp)
 simp only
 by_cases h0:x<0
 ·rw[decide_eq_true h0]; simp; omega
 ·rw[decide_eq_false h0]; simp only[Bool.not_false,Bool.true_and]; exact decide_eq_decide.2 (by omega)
theorem Ao6 {x:Int} {k:Nat} (hk:k≤1000000) (h:(x.natAbs:Int)<B k):AO (big x).1 (big x).2=some ((big x).2,(big x).1):=by
 rw[FA (show LB (big x).2 from Aq _) (Fj hk h),LD]
 congr 1
 unfold big
 simp only
 refine Prod.ext rfl ?_
 simp only
 by_cases h0:x<0
 ·rw[decide_eq_true h0]; simp; omega
 ·rw[decide_eq_false h0]; rfl
theorem An9 {n:Nat} {k:Nat} (hk:k≤1000000) (h:(n:Int)<B k):AO false (big (n:Int)).2=some ((big (n:Int)).2,(big (n:Int)).1):=by
 have:=Ao6 (x:=(n:Int)) hk (natB h)
 rwa [show (big (n:Int)).1=false by rw[Fy]] at this ⊢
theorem VF {x:Int} {k:Nat} (hk:k≤1000000) (h:(x.natAbs:Int)<B k):AE (big x).1 (big x).2=some ((big x).2,(big x).1):=by
 rw[C6 (show LB (big x).2 from Aq _) (Fj hk h),LD]
 congr 1
 unfold big
 simp only
 refine Prod.ext rfl ?_
 simp only
 by_cases h0:x<0
 ·rw[decide_eq_true h0]; simp; omega
 ·rw[decide_eq_false h0]; rfl
theorem Ar3 {n:Nat} {k:Nat} (hk:k≤1000000) (h:(n:Int)<B k):AE false (big (n:Int)).2=some ((big (n:Int)).2,(big (n:Int)).1):=by
 have:=VF (x:=(n:Int)) hk (natB h)
 rwa [show (big (n:Int)).1=false by rw[Fy]] at this ⊢
theorem RW {x y:Int} {k:Nat} (hk:k≤90000) (hx:(x.natAbs:Int)<B k) (hy:(y.natAbs:Int)<B k) (h0:y≠0):Eh (big x) (big y)=some (rqF (Rat.divInt x y)):=by
 obtain ⟨p1,p2⟩:=Ji (x:=x) h0
 have hg:=Ap3 (x:=x) hy h0
 have hg0:=AI6 (x:=x) h0
 unfold Eh
 simp only[peta,Vr hk hx hy,Option.bind_some]
 rw[show (big y).1=decide (y<0) from rfl]
 by_cases hn:y<0
 ·rw[if_pos hn] at p1 p2
  rw[decide_eq_true hn]
  simp only[cond_true,VB (show k≤1000000 by omega) hg,Option.bind_some,Sum.elim_inr,LI hk hx (negB hg) (by omega),LI hk hy (negB hg) (by omega),p1,p2]
  rfl
 ·rw[if_neg hn] at p1 p2
  rw[decide_eq_false hn]
  simp only[cond_false,Option.bind_some,Sum.elim_inr,LI hk hx hg hg0,LI hk hy hg hg0,p1,p2]
  rfl
theorem Ab9 (q:Rat):(q.den:Int)≠0:=by have:=q.den_nz; omega
theorem IW (p q:Rat):(p.den:Int)*(q.den:Int)≠0:=fun h=>by rcases Int.mul_eq_zero.1 h with h | h <;> exact Ab9 _ h
theorem Af5 {x y:Int} {k:Nat} (hk:k≤1000000) (hx:(x.natAbs:Int)<B k) (hy:(y.natAbs:Int)<B k):EZ (big x) (big y)=some (cmpZ x y):=by
 have lx:=Ek hx hk
 have ly:=Ek hy hk
 have e1:=OF (a:=x.natAbs) (b:=y.natAbs) (by unfold Brief; omega) (by unfold Brief; omega)
 have e2:=OF (a:=y.natAbs) (b:=x.natAbs) (by unfold Brief; omega) (by unfold Brief; omega)
 unfold EZ
 rw[show (big x).1=decide (x<0) from rfl,show (big y).1=decide (y<0) from rfl,show (big x).2=lim x.natAbs from rfl,show (big y).2=lim y.natAbs from rfl,e1,e2]
 by_cases h1:x<0
 ·by_cases h2:y<0
  ·rw[decide_eq_true h1,decide_eq_true h2]
   simp only[cond_true,cond_false,Bool.not_true,Option.bind_some]
   congr 1
   rcases BO x y with ⟨e,h⟩ | ⟨e,h⟩ | ⟨e,h⟩
   ·rw[e]; exact C2 (by omega)
   ·rw[e]; exact FB (by omega)
   ·rw[e,h]; exact LU _
  ·rw[decide_eq_true h1,decide_eq_false h2,C2 (show x<y by omega)]; rfl
 ·by_cases h2:y<0
  ·rw[decide_eq_false h1,decide_eq_true h2,FB (show y<x by omega)]; rfl
  ·rw[decide_eq_false h1,decide_eq_false h2]
   simp only[cond_true,cond_false,Bool.not_false,Option.bind_some]
   congr 1
   rcases BO x y with ⟨e,h⟩ | ⟨e,h⟩ | ⟨e,h⟩
   ·rw[e]; exact C2 (by omega)
   ·rw[e]; exact FB (by omega)
   ·rw[e,h]; exact LU _
section
variable {p q:Rat} {k:Nat} (hk:k≤20000) (hp:Sz k p) (hq:Sz k q)
include hk hp hq
theorem H0:Cb (rqF p) (rqF q)=some (rqF (p + q)):=by
 obtain ⟨r1,a1,b1⟩:=Cr (k:=k) (by omega) hp.1 (natB hq.2)
 obtain ⟨r2,a2,b2⟩:=Cr (k:=k) (by omega) hq.1 (natB hp.2)
 obtain ⟨r3,a3,b3⟩:=Cr (k:=k) (by omega) (natB hp.2) (natB hq.2)
 unfold Cb
 simp only[rq_n,rq_d,Qt,a1,a2,a3,b1,b2,b3,Option.bind_some]
 rw[At9 (k:=k + k) (by omega) (mulB hp.1 (natB hq.2)) (mulB hq.1 (natB hp.2))]
 simp only[Option.bind_some,peta]
 rw[RW (k:=k + k + 1) (by omega) (OM hp hq) (upB (mulB (natB hp.2) (natB hq.2)) (by omega)) (IW p q),←AI5]
 rfl
theorem Gp:BK (rqF p) (rqF q)=some (rqF (p*q)):=by
 obtain ⟨r1,a1,b1⟩:=Cr (k:=k) (by omega) hp.1 hq.1
 obtain ⟨r3,a3,b3⟩:=Cr (k:=k) (by omega) (natB hp.2) (natB hq.2)
 unfold BK
 simp only[rq_n,rq_d,Qt,a1,a3,b1,b3,Option.bind_some]
 rw[RW (k:=k + k) (by omega) (mulB hp.1 hq.1) (mulB (natB hp.2) (natB hq.2)) (IW p q),←AA5]
 rfl
theorem Vj (h0:q≠0):Df (rqF p) (rqF q)=some (rqF (p/q)):=by
 obtain ⟨r1,a1,b1⟩:=Cr (k:=k) (by omega) hp.1 (natB hq.2)
 obtain ⟨r3,a3,b3⟩:=Cr (k:=k) (by omega) (natB hp.2) hq.1
 unfold Df
 simp only[rq_n,rq_d,Qt,a1,a3,b1,b3,Option.bind_some]
 rw[RW (k:=k + k) (by omega) (mulB hp.1 (natB hq.2)) (mulB (natB hp.2) hq.1) (by
  intro h
  rcases Int.mul_eq_zero.1 h with h | h
  ·exact Ab9 _ h
  ·exact h0 (Rat.num_eq_zero.1 h)),←AF3]
 rfl
theorem Xr:C4 (rqF p) (rqF q)=some (cmpQ p q):=by
 obtain ⟨r1,a1,b1⟩:=Cr (k:=k) (by omega) hp.1 (natB hq.2)
 obtain ⟨r2,a2,b2⟩:=Cr (k:=k) (by omega) hq.1 (natB hp.2)
 unfold C4
 simp only[rq_n,rq_d,Qt,a1,a2,b1,b2,Option.bind_some]
 rw[N2 (k:=k + k) (by omega) (mulB hp.1 (natB hq.2)) (mulB hq.1 (natB hp.2)),Am2]
 rfl
theorem D2:B5 (rqF p) (rqF q)=some (decide (p<q)):=by
 unfold B5
 simp only[rq_e,Xr hk hp hq,Option.bind_some]
 congr 1
 exact decide_eq_decide.2 Al1
theorem LG:Fl (rqF p) (rqF q)=some (cmpQ p q):=by
 unfold Fl
 simp only[rq_n,rq_d,Qt,Gh (k:=k) (by omega) hp.1 (natB hq.2),Gh (k:=k) (by omega) hq.1 (natB hp.2),Option.bind_some,peta]
 rw[Af5 (k:=k + k) (by omega) (mulB hp.1 (natB hq.2)) (mulB hq.1 (natB hp.2)),Am2]
 rfl
end
theorem Ay4 {q:Rat} {k:Nat} (hk:k≤1000000) (hq:Sz k q):FE (rqF q)=some (rqF (-q)):=by
 unfold FE
 simp only[rq_n,VB hk hq.1,Option.bind_some]
 rw[show (rqF q).2.2.2=(big (q.den:Int)).2 from rfl,An9 hk hq.2]
 rfl
theorem LK {p q:Rat} {k:Nat} (hk:k≤20000) (hp:Sz k p) (hq:Sz k q):CE (rqF p) (rqF q)=some (rqF (p-q)):=by
 unfold CE
 simp only[rq_e,Ay4 (k:=k) (by omega) hq,Option.bind_some,H0 hk hp (Ab2 hq)]
 rw[Rat.sub_eq_add_neg]
theorem BigOf1:B2 (1:Int)=some (big 1):=M5 (by omega) (by omega)
theorem AH8:Dt (1:Int)=some (big 1):=R6 (by omega) (by omega)
theorem II {n:Int} (h1 : -9223372036854775808≤n) (h2:n≤9223372036854775807):Bz n=some (rqF (n:Rat)):=by
 unfold Bz
 simp only[M5 h1 h2,BigOf1,Option.bind_some]
 rfl
theorem Ly {n:Int} (h1 : -9223372036854775808≤n) (h2:n≤9223372036854775807):Co n=some (rqF (n:Rat)):=by
 unfold Co
 simp only[R6 h1 h2,AH8,Option.bind_some]
 rfl
theorem AO6 {k:Nat} (hk : 1≤k):(((1:Int).natAbs:Nat):Int)<B k:=by
 have:=G9 hk
 rw[B1] at this
 omega
def BrF (a:RF):Prop:=Brief a.2.1∧Brief a.2.2.2
def toQ (a:RF):(Bool×List Int)×(Bool×List Int):=((a.1,a.2.1),(a.2.2.1,a.2.2.2))
theorem Ts {q:Rat} {k:Nat} (hk:k≤1000000) (h:Sz k q):BrF (rqF q):=⟨Fj hk h.1,Fj hk (natB h.2)⟩
theorem AK4 {y:Int}:(!(big y).1 && !(big y).2.isEmpty)=decide (0<y):=by
 unfold big
 simp only
 have:=H1 y.natAbs
 rw[this]
 by_cases h : 0<y
 ·rw[decide_eq_true h,decide_eq_false (by omega),decide_eq_true (by omega)]; rfl
 ·rw[decide_eq_false h]
  by_cases h0:y=0
  ·subst h0; rfl
  ·rw[decide_eq_true (show y<0 by omega)]; rfl
theorem Wd {x y:Int} (hx:(x.natAbs:Int)<B 40) (hy:(y.natAbs:Int)<B 40):goodQ (big x,big y)=(decide (0<y)&&decide (Int.gcd x y=1)):=by
 unfold goodQ
 simp only[LR hx,LR hy,Bool.true_and,AK4]
 unfold big
 simp only[Aj,Int.toNat_natCast]
 rfl
theorem Tq {g:Nat}:(cmpZ (g:Int) 1==0)=decide (g=1):=by
 rcases BO (g:Int) 1 with ⟨e,h⟩ | ⟨e,h⟩ | ⟨e,h⟩
 ·rw[e,decide_eq_false (by omega)]; rfl
 ·rw[e,decide_eq_false (by omega)]; rfl
 ·rw[e,decide_eq_true (by omega)]; rfl
theorem Oh (y:Int):((((big y).2.length:Nat):Int)==(0:Int))=decide (y=0):=by
 rw[Bool.eq_iff_iff]
 simp only[beq_iff_eq,decide_eq_true_eq]
 unfold big
 constructor
 ·intro h
  have:=Ga.1 (List.eq_nil_of_length_eq_zero (show (lim y.natAbs).length=0 by simpa using h))
  omega
 ·rintro rfl
  rw[show (0:Int).natAbs=0 from rfl,Bh]; rfl
theorem Ar0 {a:RF} (h:BrF a):FL a=some (goodQ (toQ a)):=by
 obtain ⟨n,nl,d,dl⟩:=a
 unfold FL toQ
 simp only
 have hl:Fb [(n,nl),(d,dl)]=some (goodB (n,nl)&&goodB (d,dl)):=by
  rw[AG5 (by simp) (by intro b hb; simp at hb; rcases hb with rfl | rfl; exact h.1; exact h.2)]
  simp
 rw[hl]
 simp only[Option.bind_some]
 cases hg:goodB (n,nl)&&goodB (d,dl) with
 | false=>unfold goodQ; simp only[hg,Bool.false_and,cond_false]
 | true =>
  rw[Bool.and_eq_true] at hg
  obtain ⟨x,hx,e1⟩:=DJ.1 hg.1
  obtain ⟨y,hy,e2⟩:=DJ.1 hg.2
  simp only[e1,e2,cond_true,Af9,Option.bind_some,Wd hx hy]
  rcases BO y 0 with ⟨e,g⟩ | ⟨e,g⟩ | ⟨e,g⟩
  ·rw[e,decide_eq_false (show ¬ 0<y by omega)]; rfl
  ·rw[e,decide_eq_true (show 0<y by omega)]
   simp only[show decide ((1:Int)>0)=true from rfl,cond_true,Vr (k:=40) (by omega) hx hy,BigOf1,Option.bind_some,peta,Bool.true_and]
   rw[N2 (k:=40) (by omega) (Ap3 hy (by omega)) (AO6 (by omega))]
   simp only[Option.bind_some,Tq]
  ·rw[e,decide_eq_false (show ¬ 0<y by omega)]; rfl
theorem Lu {a:RF} (h:BrF a):Da a=some (goodQ (toQ a)):=by
 obtain ⟨n,nl,d,dl⟩:=a
 unfold Da toQ
 simp only
 rw[Ln h.1]
 simp only[Option.bind_some]
 cases h1:goodB (n,nl) with
 | false=>unfold goodQ; simp only[h1,Bool.false_and,Bool.not_false,cond_true]
 | true =>
  simp only[Bool.not_true,cond_false]
  rw[Ln h.2]
  simp only[Option.bind_some]
  cases h2:goodB (d,dl) with
  | false=>unfold goodQ; simp only[h1,h2,Bool.and_false,Bool.false_and,Bool.not_false,cond_true]
  | true =>
   obtain ⟨x,hx,e1⟩:=DJ.1 h1
   obtain ⟨y,hy,e2⟩:=DJ.1 h2
   have f1:nl=(big x).2:=congrArg Prod.snd e1
   have f2:dl=(big y).2:=congrArg Prod.snd e2
   have f3:d=(big y).1:=congrArg Prod.fst e2
   simp only[Bool.not_true,cond_false]
   rw[e1,e2,Wd hx hy,f3,show (big y).1=decide (y<0) from rfl]
   by_cases hy0:y<0
   ·rw[decide_eq_true hy0,decide_eq_false (show ¬ 0<y by omega)]; rfl
   ·rw[decide_eq_false hy0]
    simp only[cond_false]
    rw[f2,Oh]
    by_cases h0:y=0
    ·rw[decide_eq_true h0,decide_eq_false (show ¬ 0<y by omega)]; rfl
    ·rw[decide_eq_false h0,decide_eq_true (show 0<y by omega)]
     simp only[cond_false]
     rw[f1,Ap2 (k:=40) (by omega) hx hy]
     simp only[Option.bind_some]
     have hl1:([1]:List Int)=lim 1:=by rw[T3 (by omega),Bh]; rfl
     have hgb:=Ah.2 (show ((Int.gcd x y:Nat):Int)<B 40 by have:=Ap3 (x:=x) hy h0; rwa [Int.natAbs_natCast] at this)
     rw[hl1,OF (by unfold Brief; omega) (by rw[←hl1]; unfold Brief; simp)]
     simp only[Option.bind_some,Tq,Bool.true_and]
     exact congrArg some Tq
theorem LJ {l:List ((Bool×List Int)×(Bool×List Int))} (hl:l.length≤1000) (hb:∀ a∈l,Brief a.1.2∧Brief a.2.2):CJ l=some (l.all goodQ):=by
 unfold CJ
 obtain ⟨h1,h2⟩:=AC5 (l:=l) (body:=fun (s:(List ((Bool×(List Int))×(Bool×(List Int))))×(Int×Int))=>Fs s.1 s.2.1 s.2.2)
  (st:=fun k (_:Unit)=>(l,((l.length:Int),(k:Int)))) (step:=fun _ a=>if goodQ a then .inr () else .inl (.inr false)) (fin:=fun _=>.inl ()) (I:=fun _ _=>True)
  (by
   rintro k b a hk _
   have hkl:=getL hk
   unfold Fs
   have ha:=hb a (List.mem_of_getElem? hk)
   simp only[decide_eq_true (show (k:Int)<(l.length:Int) by omega),cond_true,Ak,hk,Option.bind_some]
   rw[Ar0 (a:=(a.1.1,(a.1.2,(a.2.1,a.2.2)))) ha]
   simp only[Option.bind_some,toQ,peta]
   cases hg:goodQ a with
   | true=>left; exact ⟨(),by simp,by simp only[Bool.not_true,cond_false]; rw[wrapI (by omega) (by omega)]; rfl,trivial⟩
   | false=>right; exact ⟨.inr false,by simp,by simp only[Bool.not_false,cond_true]⟩)
  (by
   rintro b _
   unfold Fs
   simp) () trivial
 rw[show ((0:Nat):Int)=0 from rfl] at h1
 rw[h1]
 have key:∀ (m:List ((Bool×List Int)×(Bool×List Int))),foldX (ρ:=Unit ⊕ Bool) (fun (_:Unit) a=>if goodQ a then .inr () else .inl (.inr false)) () m=if m.all goodQ then .inr () else .inl (.inr false):=by
  intro m
  induction m with
  | nil=>rfl
  | cons a m ih =>
   unfold foldX
   rw[List.all_cons]
   cases hg:goodQ a with
   | true=>simp only[if_true,Bool.true_and]; exact ih
   | false=>simp
 rw[key]
 cases l.all goodQ <;> rfl
def fitsQ (q:Rat):RF×Bool:=if Sz 40 q then (rqF q,true) else (zF,false)
theorem Az8 {q:Rat} {n:Nat}:A1 (rqF q) (n:Int)=some (decide (Sz n q)):=by
 unfold A1
 have e1:((((rqF q).2.1.length:Nat):Int)≤(n:Int))↔((q.num.natAbs:Int)<B n):=by rw[←Ah]; exact Int.ofNat_le
 have e2:((((rqF q).2.2.2.length:Nat):Int)≤(n:Int))↔((q.den:Int)<B n):=by
  have:(rqF q).2.2.2=lim q.den:=by show (big (q.den:Int)).2=_; rw[Fy]
  rw[this,←Ah]; exact Int.ofNat_le
 unfold Sz
 by_cases h1:(q.num.natAbs:Int)<B n
 ·rw[decide_eq_true (e1.2 h1)]
  simp only[cond_true,decide_eq_decide.2 e2,h1,true_and]
 ·rw[decide_eq_false (fun h=>h1 (e1.1 h))]
  simp[h1]
theorem NO (q:Rat):CA (rqF q)=some (fitsQ q):=by
 unfold CA fitsQ
 simp only[rq_e]
 rw[show (40:Int)=((40:Nat):Int) from rfl,Az8]
 by_cases h:Sz 40 q
 ·simp[h]
 ·simp[h]; rfl
end Go.Proofs.YthipdlhknbhiiaaGreat.Ev

end
section
namespace Go.Proofs.YthipdlhknbhiiaaGreat.Ev
open Go
theorem AL7 {x y:Int} {k:Nat} (hk:k≤1000000) (hx:(x.natAbs:Int)<B k) (hy:(y.natAbs:Int)<B k):Im (big x) (big y)=some (big (x + y)):=by
 have lx:=Ek hx hk
 have ly:=Ek hy hk
 unfold Im big
 simp only
 by_cases hs:decide (x<0)=decide (y<0)
 ·rw[hs,beq_self_eq_true]
  obtain ⟨r,e1,e2,e3,e4,_⟩:=Xi (Aq x.natAbs) (Aq y.natAbs) (by omega) (by omega)
  rw[Aj,Aj] at e3
  simp only[cond_true,e1,Option.bind_some]
  rw[C6 e2 (by unfold Brief; omega)]
  simp only[Option.bind_some]
  have hv:(val r).toNat=(x + y).natAbs:=by
   by_cases h1:x<0
   ·have:y<0:=by simpa[h1] using hs
    omega
   ·have:¬y<0:=by simpa[h1] using hs
    omega
  rw[hv]
  congr 2
  by_cases h2:y<0
  ·have h1:x<0:=by simpa[h2] using hs
   rw[decide_eq_true h2,decide_eq_true (show x + y<0 by omega),decide_eq_true (show (x + y).natAbs≠0 by omega)]; rfl
  ·have h1:¬x<0:=by simpa[h2] using hs
   rw[decide_eq_false h2,decide_eq_false (show ¬x + y<0 by omega)]; rfl
 ·have hb:(decide (x<0)==decide (y<0))=false:=by simpa using hs
  rw[hb]
  simp only[cond_false]
  rw[OF (by unfold Brief; omega) (by unfold Brief; omega)]
  simp only[Option.bind_some]
  have hxy:(x<0∧¬y<0)∨(¬x<0∧y<0):=by
   by_cases h1:x<0 <;> by_cases h2:y<0 <;> simp[h1,h2] at hs ⊢
  rcases Nat.lt_or_ge x.natAbs y.natAbs with hlt | hge
  ·rw[C2 (by omega),decide_eq_false (by omega)]
   simp only[cond_false]
   have hl:(lim x.natAbs).length≤(lim y.natAbs).length:=Ah.2 (by have:=Ah.1 (Nat.le_refl (lim y.natAbs).length); omega)
   rw[NP (Aq _) (Aq _) hl (by omega) (by rw[Aj,Aj]; omega)]
   simp only[Option.bind_some,Aj]
   have e:((y.natAbs:Int)-(x.natAbs:Int)).toNat=(x + y).natAbs:=by omega
   rw[e,C6 (Aq _) (by
    have:(lim (x + y).natAbs).length≤(lim y.natAbs).length:=Ah.2 (by have:=Ah.1 (Nat.le_refl (lim y.natAbs).length); omega)
    unfold Brief; omega)]
   simp only[Option.bind_some,Aj,Int.toNat_natCast]
   congr 2
   by_cases h2:y<0
   ·rw[decide_eq_true h2,decide_eq_true (show x + y<0 by omega),decide_eq_true (show (x + y).natAbs≠0 by omega)]; rfl
   ·rw[decide_eq_false h2,decide_eq_false (show ¬x + y<0 by omega)]; rfl
  ·have hc:cmpZ (x.natAbs:Int) (y.natAbs:Int)≥0:=by unfold cmpZ; rw[if_neg (by omega)]; split <;> omega
   rw[decide_eq_true hc]
   simp only[cond_true]
   have hl:(lim y.natAbs).length≤(lim x.natAbs).length:=Ah.2 (by have:=Ah.1 (Nat.le_refl (lim x.natAbs).length); omega)
   rw[NP (Aq _) (Aq _) hl (by omega) (by rw[Aj,Aj]; omega)]
   simp only[Option.bind_some,Aj]
   have e:((x.natAbs:Int)-(y.natAbs:Int)).toNat=(x + y).natAbs:=by omega
   rw[e,C6 (Aq _) (by
    have:(lim (x + y).natAbs).length≤(lim x.natAbs).length:=Ah.2 (by have:=Ah.1 (Nat.le_refl (lim x.natAbs).length); omega)
    unfold Brief; omega)]
   simp only[Option.bind_some,Aj,Int.toNat_natCast]
   congr 2
   by_cases h2:x<0
   ·rw[decide_eq_true h2]
    by_cases h3:x + y<0
    ·rw[decide_eq_true h3,decide_eq_true (show (x + y).natAbs≠0 by omega)]; rfl
    ·rw[decide_eq_false h3,decide_eq_false (show ¬(x + y).natAbs≠0 by omega)]; rfl
   ·rw[decide_eq_false h2,decide_eq_false (show ¬x + y<0 by omega)]; rfl
theorem JW {x y : Int} {k : Nat} (hk : k ≤ 90000) (hx : (x.natAbs : Int) < B k) (hy : (y.natAbs : Int) < B k) (h0 : y ≠ 0) : CK (big x) (big y) = some (rqF (Rat.divInt x y)) := by
  obtain ⟨p1, p2⟩ := Ji (x := x) h0
  have hg := Ap3 (x := x) hy h0
  have hg0 := AI6 (x := x) h0
  have hl : (lim (Int.gcd x y)).length ≤ k := Ah.2 (by rwa [Int.natAbs_natCast] at hg)
  unfold CK
  rw [Ap2 hk hx hy]
  simp only [Option.bind_some]
  rw [C6 (Aq _) (by unfold Brief; omega), Aj, Int.toNat_natCast]
  simp only [Option.bind_some, Bool.false_and]
  rw [← Fy]
  simp only [peta, Am6 hk hx hg hg0, Am6 hk hy hg hg0, Option.bind_some]
  have t1 := RX x (Int.gcd x y : Nat)
  have t2 := RX y (Int.gcd x y : Nat)
  obtain ⟨c, hc⟩ : ((Int.gcd x y : Nat) : Int) ∣ y := Int.gcd_dvd_right ..
  have e2 : y.tdiv (Int.gcd x y : Nat) = c := by conv => lhs; lhs; rw [hc]
                                                 exact Int.mul_tdiv_cancel_left _ hg0
  have hsg : (y < 0) ↔ c < 0 := by
    have hp : (0 : Int) < (Int.gcd x y : Nat) := by omega
    generalize ((Int.gcd x y : Nat) : Int) = g at *
    constructor
    · intro h
      rcases Int.lt_or_le c 0 with e | e
      · exact e
      · have := Int.mul_nonneg (Int.le_of_lt hp) e; omega
    · intro h; have := Int.mul_neg_of_pos_of_neg hp h; omega
  rw [show (big (y.tdiv (Int.gcd x y : Nat))).1 = decide (y.tdiv (Int.gcd x y : Nat) < 0) from rfl]
  by_cases hn : y < 0
  · rw [if_pos hn, Int.tdiv_neg] at p1 p2
    rw [decide_eq_true (by rw [e2]; exact hsg.1 hn)]
    simp only [cond_true]
    rw [Xo (show k ≤ 1000000 by omega) (by omega), Xo (show k ≤ 1000000 by omega) (by omega)]
    simp only [Option.bind_some, p1, p2]
    rfl
  · rw [if_neg hn] at p1 p2
    rw [decide_eq_false (by rw [e2]; exact fun h => hn (hsg.2 h))]
    simp only [cond_false, p1, p2]
    rfl
theorem AM6 {q:Rat} {k:Nat} (hk:k≤1000000) (hq:Sz k q):Ih (rqF q)=some (rqF (-q)):=by
 unfold Ih
 simp only[rq_n,Xo hk hq.1,Option.bind_some]
 rfl
section
variable {p q:Rat} {k:Nat} (hk:k≤20000) (hp:Sz k p) (hq:Sz k q)
include hk hp hq
theorem RY:Ew (rqF p) (rqF q)=some (rqF (p + q)):=by
 unfold Ew
 simp only[rq_n,rq_d,Qt,Gh (k:=k) (by omega) hp.1 (natB hq.2),Gh (k:=k) (by omega) hq.1 (natB hp.2),Gh (k:=k) (by omega) (natB hp.2) (natB hq.2),Option.bind_some,peta]
 rw[AL7 (k:=k + k) (by omega) (mulB hp.1 (natB hq.2)) (mulB hq.1 (natB hp.2))]
 simp only[Option.bind_some,peta]
 rw[JW (k:=k + k + 1) (by omega) (OM hp hq) (upB (mulB (natB hp.2) (natB hq.2)) (by omega)) (IW p q),←AI5]
 rfl
theorem Yd:Fe (rqF p) (rqF q)=some (rqF (p*q)):=by
 unfold Fe
 simp only[rq_n,rq_d,Qt,Gh (k:=k) (by omega) hp.1 hq.1,Gh (k:=k) (by omega) (natB hp.2) (natB hq.2),Option.bind_some,peta]
 rw[JW (k:=k + k) (by omega) (mulB hp.1 hq.1) (mulB (natB hp.2) (natB hq.2)) (IW p q),←AA5]
 rfl
theorem Aq4 (h0:q≠0):Gi (rqF p) (rqF q)=some (rqF (p/q)):=by
 unfold Gi
 simp only[rq_n,rq_d,Qt,Gh (k:=k) (by omega) hp.1 (natB hq.2),Gh (k:=k) (by omega) (natB hp.2) hq.1,Option.bind_some,peta]
 rw[JW (k:=k + k) (by omega) (mulB hp.1 (natB hq.2)) (mulB (natB hp.2) hq.1) (by
  intro h
  rcases Int.mul_eq_zero.1 h with h | h
  ·exact Ab9 _ h
  ·exact h0 (Rat.num_eq_zero.1 h)),←AF3]
 rfl
end
theorem RZ {p q:Rat} {k:Nat} (hk:k≤20000) (hp:Sz k p) (hq:Sz k q):Et (rqF p) (rqF q)=some (rqF (p-q)):=by
 unfold Et
 simp only[rq_e,AM6 (k:=k) (by omega) hq,Option.bind_some,RY hk hp (Ab2 hq)]
 rw[Rat.sub_eq_add_neg]
theorem Nf {q:Rat} {k:Nat} (hk:k≤1000000) (hq:Sz k q):CN (rqF q)=some (fitsQ q):=by
 unfold CN fitsQ
 have e1:((((rqF q).2.1.length:Nat):Int)>40)↔¬((q.num.natAbs:Int)<B 40):=by
  rw[←Ah]
  show ((((lim q.num.natAbs).length:Nat):Int)>40)↔_
  omega
 have e2:((((rqF q).2.2.2.length:Nat):Int)>40)↔¬((q.den:Int)<B 40):=by
  rw[←Ah]
  have:(rqF q).2.2.2=lim q.den:=by show (big (q.den:Int)).2=_; rw[Fy]
  rw[this]
  omega
 by_cases h1:(q.num.natAbs:Int)<B 40
 ·rw[decide_eq_false (fun h=>e1.1 h h1)]
  by_cases h2:(q.den:Int)<B 40
  ·rw[decide_eq_false (fun h=>e2.1 h h2),if_pos ⟨h1,h2⟩]
   simp only[cond_false]
   rw[show (rqF q).1=(big q.num).1 from rfl,show (rqF q).2.1=(big q.num).2 from rfl,show (rqF q).2.2.2=(big (q.den:Int)).2 from rfl,VF (k:=40) (by omega) h1,Ar3 (k:=40) (by omega) h2]
   rfl
  ·rw[decide_eq_true (e2.2 h2),if_neg (fun h=>h2 h.2)]; rfl
 ·rw[decide_eq_true (e1.2 h1),if_neg (fun h=>h1 h.1)]; rfl
theorem Ip {q:Rat} (h:Sz 40 q):fitsQ q=(rqF q,true):=if_pos h
theorem PB {q:Rat} (h:¬Sz 40 q):fitsQ q=(zF,false):=if_neg h
section
variable {p q:Rat} (hp:Sz 40 p) (hq:Sz 40 q)
include hp hq
end
section
variable {a b:RF} (ha:BrF a) (hb:BrF b) (h:(goodQ (toQ a)&&goodQ (toQ b))=false)
include ha hb h
end
def ratOfV (n d:Int):RF×Bool:=if d=0∨¬n.natAbs≤4611686018427387904∨¬d.natAbs≤4611686018427387904 then (zF,false) else (rqF (Rat.divInt n d),true)
theorem B4:B 4=18446744073709551616:=rfl
theorem AK9 (n d:Int):BN n d=some (ratOfV n d):=by
 unfold BN ratOfV
 by_cases h0:d=0
 ·rw[if_pos (.inl h0),h0]; rfl
 ·rw[show (d==0)=false from beq_eq_false_iff_ne.2 h0]
  simp only[cond_false,O9,Option.bind_some]
  by_cases h1:n.natAbs≤4611686018427387904
  ·rw[show (decide (-4611686018427387904≤n)&&decide (n≤4611686018427387904))=true by simp; omega]
   by_cases h2:d.natAbs≤4611686018427387904
   ·rw[show (decide (-4611686018427387904≤d)&&decide (d≤4611686018427387904))=true by simp; omega,if_neg (by omega)]
    simp only[Bool.not_true,cond_false,M5 (n:=n) (by omega) (by omega),M5 (n:=d) (by omega) (by omega),Option.bind_some,peta,RW (k:=4) (by omega) (x:=n) (y:=d) (by rw[B4]; omega) (by rw[B4]; omega) h0]
   ·rw[show (decide (-4611686018427387904≤d)&&decide (d≤4611686018427387904))=false by
     rw[Bool.and_eq_false_iff]; simp only[decide_eq_false_iff_not]; omega,if_pos (.inr (.inr h2))]
    rfl
  ·rw[show (decide (-4611686018427387904≤n)&&decide (n≤4611686018427387904))=false by
    rw[Bool.and_eq_false_iff]; simp only[decide_eq_false_iff_not]; omega,if_pos (.inr (.inl h1))]
   rfl
theorem R7 (n d:Int):Er n d=some (ratOfV n d):=by
 unfold Er ratOfV
 simp only[LE,Option.bind_some]
 by_cases h1:n.natAbs≤4611686018427387904
 ·rw[show (decide (-4611686018427387904≤n)&&decide (n≤4611686018427387904))=true by simp; omega]
  by_cases h2:d.natAbs≤4611686018427387904
  ·rw[show (decide (-4611686018427387904≤d)&&decide (d≤4611686018427387904))=true by simp; omega]
   by_cases h0:d=0
   ·rw[if_pos (.inl h0),h0]; rfl
   ·rw[show (d==0)=false from beq_eq_false_iff_ne.2 h0,if_neg (by omega)]
    simp only[Bool.not_true,cond_false,R6 (n:=n) (by omega) (by omega),R6 (n:=d) (by omega) (by omega),Option.bind_some,peta,JW (k:=4) (by omega) (x:=n) (y:=d) (by rw[B4]; omega) (by rw[B4]; omega) h0]
  ·rw[show (decide (-4611686018427387904≤d)&&decide (d≤4611686018427387904))=false by
    rw[Bool.and_eq_false_iff]; simp only[decide_eq_false_iff_not]; omega,if_pos (.inr (.inr h2))]
   rfl
 ·rw[show (decide (-4611686018427387904≤n)&&decide (n≤4611686018427387904))=false by
   rw[Bool.and_eq_false_iff]; simp only[decide_eq_false_iff_not]; omega,if_pos (.inr (.inl h1))]
  rfl
theorem Ai6 {n d:Int} (h0:d≠0) (h1:n.natAbs≤4611686018427387904) (h2:d.natAbs≤4611686018427387904):ratOfV n d=(rqF (Rat.divInt n d),true):=by
 unfold ratOfV; rw[if_neg (by omega)]
theorem AC7 {n d:Int} (h0:d≠0) (h1:n.natAbs≤4611686018427387904) (h2:d.natAbs≤4611686018427387904):Sz 4 (Rat.divInt n d):=Iq (by rw[B4]; omega) (by rw[B4]; omega) h0
theorem Vo {a:RF} (h1:a.2.1.length≤1000000) (h2:a.2.2.2.length≤1000000):Ar a a=some true:=by
 unfold Ar
 rw[VC (a:=(a.1,a.2.1)) h1,VC (a:=(a.2.2.1,a.2.2.2)) h2]
 rfl
theorem IL {q:Rat} {k:Nat} (hk:k≤1000000) (h:Sz k q):Ar (rqF q) (rqF q)=some true :=
 Vo (Nat.le_trans (Ah.2 h.1) hk) (Nat.le_trans (Ah.2 (natB h.2)) hk)
theorem Eu:Ar zF zF=some true:=Vo (by simp[zF]) (by simp[zF])
theorem K8 (q:Rat):Ar (fitsQ q).1 (fitsQ q).1=some true:=by
 by_cases h:Sz 40 q
 ·rw[Ip h]; exact IL (k:=40) (by omega) h
 ·rw[PB h]; exact Eu
end Go.Proofs.YthipdlhknbhiiaaGreat.Ev

end
section
namespace Go.Proofs.YthipdlhknbhiiaaGreat.Ev
open Go
def ShF (a:RF):Prop:=a.2.1.length≤100∧a.2.2.2.length≤100
theorem ShF.br {a:RF} (h:ShF a):BrF a:=by unfold ShF at h; unfold BrF Brief; omega
theorem Aq5 {q:Rat} {k:Nat} (hk:k≤100) (h:Sz k q):ShF (rqF q):=⟨Nat.le_trans (Ah.2 h.1) hk,Nat.le_trans (Ah.2 (natB h.2)) hk⟩
theorem AS6:ShF zF:=by unfold ShF zF; simp
theorem LV (n d:Int):ShF (ratOfV n d).1:=by
 unfold ratOfV
 split
 ·exact AS6
 ·exact Aq5 (k:=4) (by omega) (AC7 (by omega) (by omega) (by omega))
theorem Ag8 {B':Nat} {c:List Int×Int×Int} (h:Cur B' c) (hB:B'≤900000000):∃ c' a,BI c=some (c',a)∧Cur (B' + 700) c'∧ShF a:=by
 unfold BI
 obtain ⟨c0,v0,e0,q0⟩:=Fp h (by omega) 12
 simp only[e0,obs,peta]
 cases v0
 ·obtain ⟨c1,v1,e1,q1,a1,b1⟩:=Aw q0 (by omega) 41
  obtain ⟨c2,v2,e2,q2,a2,b2⟩:=Aw q1 (by omega) 12
  simp only[cF,e1,e2,obs,R7,peta]
  exact ⟨_,_,rfl,q2.mono (by omega),LV _ _⟩
 ·obtain ⟨c1,x,e1,q1,l1⟩:=AF1 q0 (by omega)
  obtain ⟨c2,y,e2,q2,l2⟩:=AF1 q1 (by omega)
  simp only[cT,e1,e2,obs,peta,Ln (show Brief x.2 by unfold Brief; omega),Ln (show Brief y.2 by unfold Brief; omega)]
  have fin:∃ c' a,(some ((c2,(x.1,(x.2,y))):(List Int×Int×Int)×RF))=some (c',a)∧Cur (B' + 700) c'∧ShF a:=⟨_,_,rfl,q2.mono (by omega),l1,l2⟩
  cases hx:goodB x with
  | false=>simp only[cF]; exact fin
  | true =>
   simp only[cT]
   cases hy:goodB y with
   | false=>simp only[cF]; exact fin
   | true =>
    simp only[cT]
    obtain ⟨u,hu,rfl⟩:=DJ.1 hx
    obtain ⟨v,hv,rfl⟩:=DJ.1 hy
    have hz:=Oh v
    by_cases h0:v=0
    ·subst h0
     have:decide ((((big 0).2.length:Nat):Int)>0)=false:=by simp[big,Bh]
     rw[this]
     simp only[cF]
     exact fin
    ·rw[decide_eq_false h0] at hz
     have:decide ((((big v).2.length:Nat):Int)>0)=true:=by
      rw[beq_eq_false_iff_ne] at hz
      exact decide_eq_true (by omega)
     rw[this]
     simp only[cT,JW (k:=40) (by omega) hu hv h0,obs]
     exact ⟨_,_,rfl,q2.mono (by omega),Aq5 (k:=40) (by omega) (Iq hu hv h0)⟩
end Go.Proofs.YthipdlhknbhiiaaGreat.Ev

end
section
namespace Go.Proofs.YthipdlhknbhiiaaGreat.Ev
open Go
end Go.Proofs.YthipdlhknbhiiaaGreat.Ev

end
section
namespace Go.Proofs.YthipdlhknbhiiaaGreat.Ev
open Go
abbrev Q2:=Rat×Rat
def crd (b:Bool) (p:Q2):Rat:=if b then p.2 else p.1
def ins (b high:Bool) (s:Rat) (p:Q2):Bool:=if high then decide (s≤crd b p) else decide (crd b p≤s)
def mixQ (a c:Q2) (t:Rat):Q2:=(a.1 + t*(c.1-a.1),a.2 + t*(c.2-a.2))
def cutQ (b:Bool) (s:Rat) (a c:Q2):Q2:=mixQ a c ((s-crd b a)/(crd b c-crd b a))
def stepQ (b high:Bool) (s:Rat) (a c:Q2):List Q2:=(if ins b high s a=ins b high s c then [] else [cutQ b s a c])++(if ins b high s c then [c] else [])
def clipFrom (b high:Bool) (s:Rat):Q2→List Q2→List Q2
 | _,[]=>[]
 | a,c::l=>stepQ b high s a c++clipFrom b high s c l
def lastQ (l:List Q2):Q2:=l.getLast?.getD (0,0)
def clipQ (b high:Bool) (s:Rat) (l:List Q2):List Q2:=clipFrom b high s (lastQ l) l
def crs (p q:Q2):Rat:=p.1*q.2-q.1*p.2
def chn (f:Q2→Q2→Rat):Q2→List Q2→Rat
 | _,[]=>0
 | a,c::l=>f a c + chn f c l
def area2 (l:List Q2):Rat:=chn crs (lastQ l) l
theorem XZ {b:Bool} {s:Rat} {a c:Q2} (h:crd b c≠crd b a):crd b (cutQ b s a c)=s:=by
 have hd:crd b c-crd b a≠0:=fun e=>h (by grind)
 have hm:=Rat.div_mul_cancel hd (a:=s-crd b a)
 unfold cutQ mixQ
 cases b with
 | true =>
  unfold crd at *
  simp at *
  rw[hm]; grind
 | false =>
  unfold crd at *
  simp at *
  rw[hm]; grind
theorem HI {b high:Bool} {s:Rat} {a c:Q2} (h:ins b high s a≠ins b high s c):crd b c≠crd b a:=by
 intro e
 apply h
 unfold ins
 rw[e]
theorem tri (x y:Rat):x<y∨x=y∨y<x:=by
 rcases Rat.le_total (a:=x) (b:=y) with h | h
 ·by_cases e:x=y
  ·exact .inr (.inl e)
  ·exact .inl (Rat.lt_of_le_of_ne h e)
 ·by_cases e:x=y
  ·exact .inr (.inl e)
  ·exact .inr (.inr (Rat.lt_of_le_of_ne h (fun e'=>e e'.symm)))
theorem Ub {b:Bool} {s:Rat} {p:Q2}:ins b false s p=decide (crd b p≤s):=rfl
theorem Af2 {b:Bool} {s:Rat} {p:Q2}:ins b true s p=decide (s≤crd b p):=rfl
def endQ:Q2→List Q2→Q2
 | a,[]=>a
 | _,c::l=>endQ c l
theorem Mu (f:Q2→Q2→Rat):∀ (a:Q2) (l m:List Q2),chn f a (l++m)=chn f a l + chn f (endQ a l) m
 | a,[],m=>by simp[chn,endQ,Rat.zero_add]
 | a,c::l,m=>by
  rw[List.cons_append,chn,chn,Mu f c l m,endQ,Rat.add_assoc]
theorem Qd:∀ (a:Q2) (l m:List Q2),endQ a (l++m)=endQ (endQ a l) m
 | a,[],m=>rfl
 | a,c::l,m=>by rw[List.cons_append,endQ,Qd c l m,endQ]
theorem LY (a:Q2):∀ (l:List Q2),l≠[]→endQ a l=lastQ l
 | [],h=>absurd rfl h
 | [c],_=>rfl
 | c::d::l,_=>by
  rw[endQ,LY c (d::l) (by simp)]
  unfold lastQ
  rw[List.getLast?_cons_cons]
def At (b high:Bool) (s:Rat) (a q:Q2):Prop:=if ins b high s a=true then q=a else crd b q=s
theorem AL6 (b high:Bool) (s:Rat) (a:Q2):∃ q,At b high s a q:=by
 unfold At
 by_cases h:ins b high s a=true
 ·exact ⟨a,by rw[if_pos h]⟩
 ·refine ⟨(s,s),?_⟩
  rw[if_neg h]
  unfold crd
  cases b <;> rfl
theorem PM (l:List Q2):endQ (lastQ l) l=lastQ l:=by
 cases l with
 | nil=>rfl
 | cons c l=>exact LY _ _ (by simp)
theorem Am1 (f g h:Q2→Q2→Rat) (e:∀ a c,f a c + g a c=h a c):∀ (a:Q2) (l:List Q2),chn f a l + chn g a l=chn h a l
 | a,[]=>by simp only[chn]; grind
 | a,c::l=>by
  have h1:=Am1 f g h e c l
  have h2:=e a c
  simp only[chn]
  grind
theorem AN1 {b high:Bool} {s:Rat} {a c:Q2}:∀ p∈stepQ b high s a c,ins b high s p=true:=by
 intro p hp
 unfold stepQ at hp
 rcases List.mem_append.1 hp with hp | hp
 ·by_cases e:ins b high s a=ins b high s c
  ·rw[if_pos e] at hp; cases hp
  ·rw[if_neg e] at hp
   rw[List.mem_singleton.1 hp]
   have:=XZ (s:=s) (HI e)
   unfold ins
   rw[this]
   cases high <;> simp[Rat.le_refl]
 ·by_cases e:ins b high s c=true
  ·rw[if_pos e] at hp
   rw[List.mem_singleton.1 hp]
   exact e
  ·rw[if_neg e] at hp; cases hp
theorem Hy {b high:Bool} {s:Rat}:∀ (l:List Q2) (a:Q2),∀ p∈clipFrom b high s a l,ins b high s p=true
 | [],a,p,h=>by cases h
 | c::l,a,p,h=>by
  rw[clipFrom] at h
  rcases List.mem_append.1 h with h | h
  ·exact AN1 p h
  ·exact Hy l c p h
theorem Ro {b high:Bool} {s:Rat}:∀ (l:List Q2) (a:Q2),ins b high s a=true→(∀ p∈l,ins b high s p=true)→clipFrom b high s a l=l
 | [],a,_,_=>rfl
 | c::l,a,ha,hl=>by
  have hc:=hl c (by simp)
  rw[clipFrom,Ro l c hc (fun p hp=>hl p (List.mem_cons_of_mem _ hp))]
  unfold stepQ
  rw[ha,hc,if_pos rfl,if_pos rfl]
  rfl
theorem PR {l:List Q2} (h:l≠[]):lastQ l∈l:=by
 unfold lastQ
 cases hl:l.getLast? with
 | none=>exact absurd (List.getLast?_eq_none_iff.1 hl) h
 | some x=>exact List.mem_of_getLast? hl
theorem Aq3 {b high:Bool} {s:Rat} {l:List Q2} (h:∀ p∈l,ins b high s p=true):clipQ b high s l=l:=by
 cases hl:l with
 | nil=>rfl
 | cons c m =>
  rw[←hl]
  exact Ro l _ (h _ (PR (by rw[hl]; simp))) h
theorem AC2 (f:Q2→Q2→Rat) (a:Q2) (l:List Q2) (c:Q2):chn f a (l ++ [c])=chn f a l + f (endQ a l) c:=by
 rw[Mu]; simp only[chn]; grind
end Go.Proofs.YthipdlhknbhiiaaGreat.Ev

end
section
namespace Go.Proofs.YthipdlhknbhiiaaGreat.Ev
open Go
abbrev SF:=Bool×(List Int×(Bool×(List Int×(Bool×(List Int×(Bool×List Int))))))
abbrev RQ:=(Bool×List Int)×(Bool×List Int)
abbrev RPt:=RQ×RQ
theorem sEl {α β γ:Type} (f : α→γ) (g : β→γ) (x : α):Sum.elim f g (.inl x)=f x:=(rfl)
theorem sEr {α β γ:Type} (f : α→γ) (g : β→γ) (x : β):Sum.elim f g (.inr x)=g x:=(rfl)
def fl (x:RPt):SF:=(x.1.1.1,(x.1.1.2,(x.1.2.1,(x.1.2.2,(x.2.1.1,(x.2.1.2,x.2.2))))))
def un (s:SF):RPt:=(((s.1,s.2.1),(s.2.2.1,s.2.2.2.1)),((s.2.2.2.2.1,s.2.2.2.2.2.1),s.2.2.2.2.2.2))
def fx (x:RPt):RF:=(x.1.1.1,(x.1.1.2,x.1.2))
def fy (x:RPt):RF:=(x.2.1.1,(x.2.1.2,x.2.2))
theorem fl_e (x:RPt):(x.1.1.1,(x.1.1.2,(x.1.2.1,(x.1.2.2,(x.2.1.1,(x.2.1.2,x.2.2))))))=fl x:=(rfl)
theorem un_e (s:SF):(((s.1,s.2.1),(s.2.2.1,s.2.2.2.1)),((s.2.2.2.2.1,s.2.2.2.2.2.1),s.2.2.2.2.2.2))=un s:=(rfl)
theorem fx_e (x:RPt):(x.1.1.1,(x.1.1.2,x.1.2))=fx x:=(rfl)
theorem fy_e (x:RPt):(x.2.1.1,(x.2.1.2,x.2.2))=fy x:=(rfl)
theorem Qq (x:RPt):un (fl x)=x:=(rfl)
theorem fl_x (x:RPt):((fl x).1,((fl x).2.1,((fl x).2.2.1,(fl x).2.2.2.1)))=fx x:=(rfl)
theorem fl_y (x:RPt):(fl x).2.2.2.2=fy x:=(rfl)
def rp (p:Q2):RPt:=(rq p.1,rq p.2)
theorem F7 (p:Q2):fx (rp p)=rqF p.1:=(rfl)
theorem F6 (p:Q2):fy (rp p)=rqF p.2:=(rfl)
def shQ (n:Nat) (a:RF):Bool:=decide (a.2.1.length≤n)&&decide (a.2.2.2.length≤n)
def goodRp (x:RPt):Bool:=(goodQ x.1&&goodQ x.2)&&(shQ 8 (fx x)&&shQ 8 (fy x))
def BrP (x:RPt):Prop:=BrF (fx x)∧BrF (fy x)
def SzP (k:Nat) (p:Q2):Prop:=Sz k p.1∧Sz k p.2
theorem SzP.mono {k m:Nat} {p:Q2} (h:SzP k p) (hkm:k≤m):SzP m p:=⟨h.1.mono hkm,h.2.mono hkm⟩
theorem Qm {q:Rat} {n:Nat} (hn:n≤100):shQ n (rqF q)=decide (Sz n q):=by
 unfold shQ
 rw[←Bool.decide_and]
 refine decide_eq_decide.2 ?_
 unfold Sz
 have h1:=@Ah q.num.natAbs n
 have h2:=@Ah q.den n
 have e2:(rqF q).2.2.2=lim q.den:=by show (big (q.den:Int)).2=_; rw[Fy]
 rw[e2,←h2,←h1]
 rfl
theorem Ad0 (x:RPt):toQ (fx x)=x.1:=(rfl)
theorem Ac6 (x:RPt):toQ (fy x)=x.2:=(rfl)
theorem MC {x:RPt}:goodRp x=true↔∃ p,SzP 8 p∧x=rp p:=by
 constructor
 ·intro h
  unfold goodRp at h
  simp only[Bool.and_eq_true] at h
  obtain ⟨⟨h1,h2⟩,h3,h4⟩:=h
  obtain ⟨a,ha,e1⟩:=Gv.1 h1
  obtain ⟨c,hc,e2⟩:=Gv.1 h2
  have exy:x=(rq a,rq c):=by rw[←e1,←e2]
  have ex:fx x=rqF a:=by rw[exy]; rfl
  have ey:fy x=rqF c:=by rw[exy]; rfl
  rw[ex,Qm (by omega)] at h3
  rw[ey,Qm (by omega)] at h4
  exact ⟨(a,c),⟨of_decide_eq_true h3,of_decide_eq_true h4⟩,by unfold rp; rw[←e1,←e2]⟩
 ·rintro ⟨p,hp,rfl⟩
  unfold goodRp
  rw[F7,F6,Qm (by omega),Qm (by omega),decide_eq_true hp.1,decide_eq_true hp.2,Bool.and_true,Bool.and_true,Bool.and_eq_true]
  exact ⟨Kx (hp.1.mono (by omega)),Kx (hp.2.mono (by omega))⟩
def goodR (l:List RPt):Bool:=decide (l.length≤40)&&l.all goodRp
def SzR (ps:List Q2):Prop:=ps.length≤40∧∀ p∈ps,SzP 8 p
theorem PO {l:List RPt}:goodR l=true↔∃ ps:List Q2,SzR ps∧l=ps.map rp:=by
 unfold goodR
 rw[Bool.and_eq_true,decide_eq_true_eq]
 constructor
 ·rintro ⟨h1,h2⟩
  have key:∀ l:List RPt,l.all goodRp=true→∃ ps:List Q2,(∀ p∈ps,SzP 8 p)∧l=ps.map rp:=by
   intro l
   induction l with
   | nil=>intro _; exact ⟨[],by simp,rfl⟩
   | cons x l ih =>
    intro h
    rw[List.all_cons,Bool.and_eq_true] at h
    obtain ⟨p,hp,e⟩:=MC.1 h.1
    obtain ⟨ps,hps,e2⟩:=ih h.2
    refine ⟨p::ps,?_,by rw[List.map_cons,←e,←e2]⟩
    intro q hq
    rcases List.mem_cons.1 hq with rfl | hq
    ·exact hp
    ·exact hps q hq
  obtain ⟨ps,hps,e⟩:=key l h2
  exact ⟨ps,⟨by rw[e,List.length_map] at h1; exact h1,hps⟩,e⟩
 ·rintro ⟨ps,⟨h1,h2⟩,rfl⟩
  refine ⟨by rw[List.length_map]; exact h1,?_⟩
  rw[List.all_eq_true]
  intro x hx
  obtain ⟨p,hp,rfl⟩:=List.mem_map.1 hx
  exact MC.2 ⟨p,h2 p hp,rfl⟩
theorem Jc (a:RF) (n:Nat):A1 a (n:Int)=some (shQ n a):=by
 unfold A1 shQ
 by_cases h:a.2.1.length≤n
 ·rw[decide_eq_true (show ((a.2.1.length:Nat):Int)≤(n:Int) by omega),cT,decide_eq_true h,Bool.true_and]
  congr 1
  exact decide_eq_decide.2 (by omega)
 ·rw[decide_eq_false (show ¬((a.2.1.length:Nat):Int)≤(n:Int) by omega),cF,decide_eq_false h,Bool.false_and]
theorem Ak8 {x:RPt} (h:BrP x):Dx (fl x) 8=some (goodRp x):=by
 have hl:CJ [x.1,x.2]=some (goodQ x.1&&goodQ x.2):=by
  rw[LJ (by simp) (by
   intro a ha
   simp at ha
   rcases ha with rfl | rfl
   ·exact h.1
   ·exact h.2)]
  simp
 have e:((((fl x).1,(fl x).2.1),((fl x).2.2.1,(fl x).2.2.2.1)):RQ)=x.1:=rfl
 have e':((((fl x).2.2.2.2.1,(fl x).2.2.2.2.2.1),(fl x).2.2.2.2.2.2):RQ)=x.2:=rfl
 unfold Dx goodRp
 simp only[peta]
 rw[e,e',hl,obs]
 have s1:=Jc (fx x) 8
 have s2:=Jc (fy x) 8
 rw[show ((8:Nat):Int)=8 from rfl] at s1 s2
 cases hg:goodQ x.1&&goodQ x.2 with
 | false=>rfl
 | true =>
  rw[cT]
  try simp only[fl_x,fl_y]
  rw[s1,obs,Bool.true_and]
  cases shQ 8 (fx x) with
  | false=>rfl
  | true=>rw[cT,s2,obs,Bool.true_and]
theorem A2 {l:List RPt} (hl:l.length≤100000) (hb:∀ x∈l,BrP x):BF l=some (goodR l):=by
 have hc:Au l=some (!(l.all goodRp)):=by
  unfold Au AQ
  have key:=HY (body:=fun (s:((List RPt)×(Int×Int)))=>Al s.1 s.2.1 s.2.2) (l:=l) (st:=fun k=>(l,(l.length:Int),(k:Int))) (p:=goodRp) (fin:=.inl ()) (bad:=fun k=>.inr (k:Int))
   (fun k a hk hp=>by
    have:=getL hk
    show Al l (l.length:Int) (k:Int)=_
    unfold Al Dl
    simp only[EP hk,cT,Ak,hk,obs,peta]
    rw[fl_e,Ak8 (hb a (List.mem_of_getElem? hk)),obs,hp,obs,nT,cF,wrap1 (by omega)])
   (fun k a hk hp=>by
    show Al l (l.length:Int) (k:Int)=_
    unfold Al Dl
    simp only[EP hk,cT,Ak,hk,obs,peta]
    rw[fl_e,Ak8 (hb a (List.mem_of_getElem? hk)),obs,hp,obs,nF,cT])
   (by
    show Al l (l.length:Int) (l.length:Int)=_
    unfold Al; simp only[Lw,cF])
  rw[show ((0:Nat):Int)=0 from rfl] at key
  cases hall:l.all goodRp with
  | true=>rw[key.1 hall]; rfl
  | false =>
   obtain ⟨k,_,h⟩:=key.2 hall
   rw[h]
   simp only[Option.bind_some,Sum.elim_inr]
   have:decide ((k:Int)≥0)=true:=by simp
   rw[this]; rfl
 unfold BF goodR
 by_cases h:l.length≤40
 ·rw[decide_eq_true (by omega),cT,hc,obs,decide_eq_true h,Bool.not_not,Bool.true_and]
 ·rw[decide_eq_false (by omega),cF,decide_eq_false h,Bool.false_and]
theorem LO {a:RF} (h:BrF a):Eo a=some (goodQ (toQ a)&&shQ 8 a):=by
 unfold Eo shQ
 simp only[rq_e,peta]
 by_cases h1:a.2.1.length≤8
 ·rw[decide_eq_true (by omega),cT,decide_eq_true h1,Bool.true_and]
  by_cases h2:a.2.2.2.length≤8
  ·rw[decide_eq_true (by omega),cT,decide_eq_true h2,Bool.and_true,Lu h,obs]
  ·rw[decide_eq_false (by omega),cF,decide_eq_false h2,Bool.and_false]
 ·rw[decide_eq_false (by omega),cF,decide_eq_false h1,Bool.false_and,Bool.and_false]
theorem T0 {a:RF} (h:BrF a):DG a=some (goodQ (toQ a)&&shQ 2 a):=by
 unfold DG shQ
 simp only[rq_e,peta]
 by_cases h1:a.2.1.length≤2
 ·rw[decide_eq_true (by omega),cT,decide_eq_true h1,Bool.true_and]
  by_cases h2:a.2.2.2.length≤2
  ·rw[decide_eq_true (by omega),cT,decide_eq_true h2,Bool.and_true,Lu h,obs]
  ·rw[decide_eq_false (by omega),cF,decide_eq_false h2,Bool.and_false]
 ·rw[decide_eq_false (by omega),cF,decide_eq_false h1,Bool.false_and,Bool.and_false]
theorem Eb {l:List RPt} (hl:l.length≤100000) (hb:∀ x∈l,BrP x):DA l=some (goodR l):=by
 have key:=HY (body:=fun (s:((List RPt)×((List RPt)×(Int×Int))))=>BC s.1 s.2.1 s.2.2.1 s.2.2.2) (l:=l) (st:=fun k=>(l,l,(l.length:Int),(k:Int))) (p:=goodRp) (fin:=.inl l) (bad:=fun k=>.inr false)
  (fun k a hk hp=>by
   have:=getL hk
   have hba:=hb a (List.mem_of_getElem? hk)
   unfold goodRp at hp
   simp only[Bool.and_eq_true] at hp
   show BC l l (l.length:Int) (k:Int)=_
   unfold BC
   simp only[EP hk,cT,Ak,hk,obs,peta]
   rw[fx_e,fy_e,LO hba.1,obs,Ad0,hp.1.1,hp.2.1,Bool.and_self,nT,cF,LO hba.2,obs,Ac6,hp.1.2,hp.2.2,Bool.and_self,nT,cF,wrap1 (by omega)])
  (fun k a hk hp=>by
   have hba:=hb a (List.mem_of_getElem? hk)
   show BC l l (l.length:Int) (k:Int)=_
   unfold BC
   simp only[EP hk,cT,Ak,hk,obs,peta]
   rw[fx_e,fy_e,LO hba.1,obs,Ad0]
   cases h1:goodQ a.1&&shQ 8 (fx a) with
   | false=>rw[nF,cT]
   | true =>
    have h2:(goodQ a.2&&shQ 8 (fy a))=false:=by
     unfold goodRp at hp
     rw[Bool.and_eq_true] at h1
     rw[h1.1,h1.2,Bool.true_and,Bool.true_and] at hp
     exact hp
    rw[nT,cF,LO hba.2,obs,Ac6,h2,nF,cT])
  (by
   show BC l l (l.length:Int) (l.length:Int)=_
   unfold BC; simp only[Lw,cF])
 rw[show ((0:Nat):Int)=0 from rfl] at key
 unfold DA goodR
 cases hall:l.all goodRp with
 | true =>
  rw[key.1 hall,obs,sEl,Bool.and_true]
  congr 1
  exact decide_eq_decide.2 (by omega)
 | false =>
  obtain ⟨k,_,h⟩:=key.2 hall
  rw[h,obs,sEr,Bool.and_false]
end Go.Proofs.YthipdlhknbhiiaaGreat.Ev

end
section
namespace Go.Proofs.YthipdlhknbhiiaaGreat.Ev
open Go
theorem appP {l:List RPt} {x:RPt} (h:l.length≤100000):appL 128 8 l [x]=some (l ++ [x]):=Na (by simp[maxBytes]; omega) (by simp[maxBytes]; omega)
theorem RP (p:Q2) (b:Bool):AR (fl (rp p)) b=some (rqF (crd b p)):=by cases b <;> rfl
theorem XY (p:Q2) (b:Bool):Dy (fl (rp p)) b=some (rqF (crd b p)):=by cases b <;> rfl
theorem C8 {k:Nat} {p:Q2} (h:SzP k p) (b:Bool):Sz k (crd b p):=by cases b; exact h.1; exact h.2
theorem Ay8:Bz (1:Int)=some (rqF 1):=by rw[II (by omega) (by omega)]; rfl
section
variable {a c:Q2} {t:Rat} (ha:SzP 8 a) (hc:SzP 8 c) (ht:Sz 34 t)
include ha hc ht
end
section
variable {a c:Q2} {s:Rat} {b:Bool} (ha:SzP 8 a) (hc:SzP 8 c) (hs:Sz 8 s) (hne:crd b c≠crd b a)
include ha hc hs hne
end
theorem Am7 {k n:Nat} (hk:k<n) (hn:n≤100000):Int.tmod (IntKind.wrap .i64 (IntKind.wrap .i64 ((k:Int) + (n:Int))-1)) (n:Int)=(((k + n-1)%n:Nat):Int):=by
 rw[wrapI (n:=(k:Int) + (n:Int)) (by omega) (by omega),wrapI (by omega) (by omega),Int.tmod_eq_emod_of_nonneg (by omega)]
 rw[show (k:Int) + (n:Int)-1=((k + n-1:Nat):Int) by omega]
 rfl
theorem V3 {k n:Nat} (hk:k<n):(k + 1 + n-1)%n=k:=by
 rw[show k + 1 + n-1=k + n by omega,Nat.add_mod_right,Nat.mod_eq_of_lt hk]
theorem Fx {ps:List Q2} {k:Nat} {p:Q2} (h:ps[k]? = some p):getI (ps.map rp) (k:Int)=some (rp p):=by
 rw[Ak,List.getElem?_map,h]; rfl
theorem TI (b high:Bool) (s:Rat) (a c:Q2):(stepQ b high s a c).length≤2:=by
 unfold stepQ
 rw[List.length_append]
 split <;> split <;> simp
section
variable {ps:List Q2} {s:Rat} (hps:SzR ps) (hs:Sz 8 s) (b high:Bool)
include hps hs
end
end Go.Proofs.YthipdlhknbhiiaaGreat.Ev

end
section
namespace Go.Proofs.YthipdlhknbhiiaaGreat.Ev
open Go
theorem MF {p q:Q2} (h:rp p=rp q):p=q:=by
 unfold rp at h
 have h1:=Ag1 (congrArg Prod.fst h)
 have h2:=Ag1 (congrArg Prod.snd h)
 exact Prod.ext h1 h2
theorem Vl (p:Q2):goodRp (rp p)=true↔SzP 8 p:=by
 rw[MC]
 constructor
 ·rintro ⟨q,hq,e⟩
  rw[MF e]; exact hq
 ·intro h; exact ⟨p,h,rfl⟩
theorem Ed {m:List Q2}:goodR (m.map rp)=true↔SzR m:=by
 unfold goodR SzR
 rw[Bool.and_eq_true,decide_eq_true_eq,List.length_map,List.all_eq_true]
 constructor
 ·rintro ⟨h1,h2⟩
  exact ⟨h1,fun p hp=>(Vl p).1 (h2 _ (List.mem_map_of_mem hp))⟩
 ·rintro ⟨h1,h2⟩
  refine ⟨h1,fun x hx=>?_⟩
  obtain ⟨p,hp,rfl⟩:=List.mem_map.1 hx
  exact (Vl p).2 (h2 p hp)
theorem Nt {p:Q2} {k:Nat} (hk:k≤1000000) (h:SzP k p):BrP (rp p):=⟨Ts hk h.1,Ts hk h.2⟩
theorem Px {m:List Q2} {k:Nat} (hk:k≤1000000) (h:∀ p∈m,SzP k p):∀ x∈m.map rp,BrP x:=by
 intro x hx
 obtain ⟨p,hp,rfl⟩:=List.mem_map.1 hx
 exact Nt hk (h p hp)
theorem Wh {q:Rat} {k:Nat} (hk:k≤1000000) (h:Sz k q):Fc (rqF q)=some (rqF q):=by
 unfold Fc
 rw[show (rqF q).1=(big q.num).1 from rfl,show (rqF q).2.1=(big q.num).2 from rfl,show (rqF q).2.2.2=(big (q.den:Int)).2 from rfl,Ao6 hk h.1,An9 hk h.2]
 rfl
theorem AE5 {p:Q2} (h:SzP 8 p):Ht (fl (rp p))=some (fl (rp p)):=by
 unfold Ht
 simp only[rq_e,peta,fl_x,fl_y,F7,F6]
 rw[Wh (by omega) h.1,obs,Wh (by omega) h.2,obs]
 rfl
theorem Av6 {m:List Q2} (h:SzR m):FT (m.map rp)=some (m.map rp):=by
 have h40:=h.1
 obtain ⟨h1,h2⟩:=LS (l:=m) (body:=fun (s:((List RPt)×((List RPt)×(Int×Int))))=>Ce s.1 s.2.1 s.2.2.1 s.2.2.2)
  (st:=fun k (b:List Q2)=>(b.map rp,(m.map rp,((m.length:Int),(k:Int))))) (step:=fun b p=>b ++ [p]) (fin:=fun b=>b.map rp) (I:=fun k b=>b.length=k)
  (by
   rintro k b p hk hI
   have hkl:=getL hk
   have hp:=h.2 p (List.mem_of_getElem? hk)
   refine ⟨?_,by simp[hI]⟩
   show Ce (b.map rp) (m.map rp) (m.length:Int) (k:Int)=_
   unfold Ce
   rw[decide_eq_true (by omega),cT,Fx hk,obs]
   simp only[peta,fl_e]
   rw[AE5 hp,obs,un_e,Qq,appP (by simp; omega),obs,wrap1 (by omega)]
   simp)
  (by
   rintro b _
   show Ce (b.map rp) (m.map rp) (m.length:Int) (m.length:Int)=_
   unfold Ce
   rw[decide_eq_false (by omega)]
   rfl) [] rfl
 have e:m.foldl (fun b p=>b ++ [p]) []=m:=by
  have:∀ (l acc:List Q2),l.foldl (fun b p=>b ++ [p]) acc=acc++l:=by
   intro l
   induction l with
   | nil=>intro acc; simp
   | cons x l ih=>intro acc; rw[List.foldl_cons,ih]; simp
  rw[this]; rfl
 rw[e] at h1
 have h1':loopM (fun (s:((List RPt)×((List RPt)×(Int×Int))))=>Ce s.1 s.2.1 s.2.2.1 s.2.2.2) ((List.nil:List RPt),(m.map rp,((m.length:Int),(0:Int))))=some (m.map rp):=h1
 unfold FT
 rw[List.length_map,h1',obs]
theorem Ax5 {p:Q2} (h:SzP 8 p):FK (fl (rp p))=some (fl (rp p),true):=by
 unfold FK
 simp only[rq_e,peta,fl_x,fl_y,F7,F6]
 rw[Nf (k:=8) (by omega) h.1,obs,Nf (k:=8) (by omega) h.2,obs,Ip (h.1.mono (by omega)),Ip (h.2.mono (by omega))]
 rfl
theorem AI9 {m:List Q2} (h:SzR m):GS (m.map rp)=some (m.map rp,true):=by
 have h40:=h.1
 obtain ⟨h1,h2⟩:=LS (l:=m) (body:=fun (s:((List RPt)×((List RPt)×(Int×Int))))=>CL s.1 s.2.1 s.2.2.1 s.2.2.2)
  (st:=fun k (b:List Q2)=>(b.map rp,(m.map rp,((m.length:Int),(k:Int))))) (step:=fun b p=>b ++ [p]) (fin:=fun b=>.inl (b.map rp)) (I:=fun k b=>b.length=k)
  (by
   rintro k b p hk hI
   have hkl:=getL hk
   have hp:=h.2 p (List.mem_of_getElem? hk)
   refine ⟨?_,by simp[hI]⟩
   show CL (b.map rp) (m.map rp) (m.length:Int) (k:Int)=_
   unfold CL
   rw[decide_eq_true (by omega),cT,Fx hk,obs]
   simp only[peta,fl_e]
   rw[Ax5 hp,obs]
   simp only
   rw[nT,cF,un_e,Qq,appP (by simp; omega),obs,wrap1 (by omega)]
   simp)
  (by
   rintro b _
   show CL (b.map rp) (m.map rp) (m.length:Int) (m.length:Int)=_
   unfold CL
   rw[decide_eq_false (by omega)]
   rfl) [] rfl
 have e:m.foldl (fun b p=>b ++ [p]) []=m:=by
  have:∀ (l acc:List Q2),l.foldl (fun b p=>b ++ [p]) acc=acc++l:=by
   intro l
   induction l with
   | nil=>intro acc; simp
   | cons x l ih=>intro acc; rw[List.foldl_cons,ih]; simp
  rw[this]; rfl
 rw[e] at h1
 have h1':loopM (fun (s:((List RPt)×((List RPt)×(Int×Int))))=>CL s.1 s.2.1 s.2.2.1 s.2.2.2) ((List.nil:List RPt),(m.map rp,((m.length:Int),(0:Int))))=some (.inl (m.map rp)):=h1
 unfold GS
 rw[List.length_map,h1',obs,sEl]
def outR (m:List Q2):List RPt×Bool:=if goodR (m.map rp)=true then (m.map rp,true) else ([],false)
theorem Vi {m:List Q2} {k:Nat} (hk:k≤1000000) (hl:m.length≤100000) (h:∀ p∈m,SzP k p):CR (m.map rp)=some (outR m):=by
 unfold CR outR
 rw[A2 (by simp; omega) (Px hk h),obs]
 by_cases hg:goodR (m.map rp)=true
 ·rw[if_pos hg,hg,nT,cF,Av6 (Ed.1 hg),obs]
 ·rw[if_neg hg,Bool.eq_false_iff.2 hg,nF,cT]
theorem Ay6 {m:List Q2} {k:Nat} (hk:k≤1000000) (hl:m.length≤100000) (h:∀ p∈m,SzP k p):FR (m.map rp)=some (outR m):=by
 unfold FR outR
 rw[Eb (by simp; omega) (Px hk h),obs]
 by_cases hg:goodR (m.map rp)=true
 ·rw[if_pos hg,hg,nT,cF,AI9 (Ed.1 hg)]
  rfl
 ·rw[if_neg hg,Bool.eq_false_iff.2 hg,nF,cT]
section
variable {ps:List Q2} {s:Rat} (hps:SzR ps) (hs:Sz 2 s) (b:Bool)
include hps hs
end
section
variable {l:List RPt} {a:RF} (hl:l.length≤1000) (hb:∀ x∈l,BrP x) (ha:BrF a) (h:(goodR l&&(goodQ (toQ a)&&shQ 2 a))=false) (b:Bool)
include hl hb ha h
end
def ringS (ps:List Q2):Rat:=match ps with | []=>0 | a::m=>chn crs a (m ++ [a])
theorem TZ (ps:List Q2):ringS ps=area2 ps:=by
 cases ps with
 | nil=>rfl
 | cons a m =>
  have hl2:lastQ (a::m)=endQ a m:=by rw[←LY a (a::m) (by simp)]; rfl
  show chn crs a (m ++ [a])=chn crs (lastQ (a::m)) (a::m)
  rw[AC2,hl2,chn]
  grind
theorem AB5 {p q:Q2} (hp:SzP 8 p) (hq:SzP 8 q):Sz 33 (crs p q):=(GM (HS hp.1 hq.2) (HS hq.1 hp.2)).mono (by omega)
section
variable {ps:List Q2} {f:Q2} (hps:SzR ps) (hf:ps[0]? = some f)
include hps hf
theorem Zh {k:Nat} (hk:k<ps.length):∃ d,getI (ps.map rp) (Int.tmod (IntKind.wrap .i64 ((k:Int) + 1)) (ps.length:Int))=some (rp d)∧SzP 8 d∧∃ r,ps.drop (k + 1) ++ [f]=d::r∧(k + 1<ps.length→r=ps.drop (k + 2) ++ [f])∧(k + 1=ps.length→r = []):=by
 have h40:=hps.1
 rw[wrap1 (by omega),Int.tmod_eq_emod_of_nonneg (by omega)]
 by_cases h:k + 1<ps.length
 ·have e:((k + 1:Nat):Int)%(ps.length:Int)=((k + 1:Nat):Int):=Int.emod_eq_of_lt (by omega) (by omega)
  rw[e]
  have hg:ps[k + 1]? = some ps[k + 1]:=List.getElem?_eq_getElem h
  exact ⟨ps[k + 1],Fx hg,hps.2 _ (List.mem_of_getElem? hg),ps.drop (k + 2) ++ [f],by rw[List.drop_eq_getElem_cons h,List.cons_append],fun _=>rfl,fun h'=>by omega⟩
 ·have e:((k + 1:Nat):Int)%(ps.length:Int)=((0:Nat):Int):=by rw[show k + 1=ps.length by omega]; exact Int.emod_self
  rw[e]
  refine ⟨f,Fx hf,hps.2 _ (List.mem_of_getElem? hf),[],?_,fun h'=>absurd h' h,fun _=>rfl⟩
  rw[List.drop_eq_nil_of_le (by omega)]; rfl
theorem ZH:∀ (m k:Nat) (acc:Rat),k + m=ps.length→Sz (34*k + 1) acc →
  ∃ r,loopM (fun (s:(RF×(RF×((List RPt)×((List RPt)×(Int×Int))))))=>AT s.1 s.2.1 s.2.2.1 s.2.2.2.1 s.2.2.2.2.1 s.2.2.2.2.2) (zF,(rqF acc,(ps.map rp,(ps.map rp,((ps.length:Int),(k:Int))))))=some (zF,rqF r)∧Sz 1361 r ∧
   r=acc + (match ps.drop k with | []=>0 | c::_=>chn crs c (ps.drop (k + 1) ++ [f])):=by
 have h40:=hps.1
 intro m
 induction m with
 | zero =>
  intro k acc hk hacc
  refine ⟨acc,Am ?_,hacc.mono (by omega),?_⟩
  ·show AT zF (rqF acc) (ps.map rp) (ps.map rp) (ps.length:Int) (k:Int)=_
   unfold AT
   rw[decide_eq_false (by omega)]
   rfl
  ·rw[List.drop_eq_nil_of_le (show ps.length≤k by omega)]
   simp only
   grind
 | succ m ih =>
  intro k acc hk hacc
  have hlt:k<ps.length:=by omega
  have hd:ps.drop k=ps[k]::ps.drop (k + 1):=List.drop_eq_getElem_cons hlt
  have hg:ps[k]? = some ps[k]:=List.getElem?_eq_getElem hlt
  generalize ps[k]=c at hd hg
  have sc:=hps.2 c (List.mem_of_getElem? hg)
  obtain ⟨d,hdg,sd,r,hr,hr1,hr2⟩:=Zh hps hf hlt
  have hx:=AB5 sc sd
  have hsum:Sz (34*(k + 1) + 1) (acc + crs c d):=(SO hacc hx).mono (by omega)
  have hgo:AT zF (rqF acc) (ps.map rp) (ps.map rp) (ps.length:Int) (k:Int)=some (.inl (zF,(rqF (acc + crs c d),(ps.map rp,(ps.map rp,((ps.length:Int),((k + 1:Nat):Int))))))):=by
   unfold AT
   have hz:(((ps.length:Nat):Int)==0)=false:=beq_eq_false_iff_ne.2 (by omega)
   rw[decide_eq_true (by omega),cT,Fx hg,obs,List.length_map,hz,cF,hdg,obs]
   simp only[rq_e,peta,fx_e,fy_e,F7,F6]
   rw[Gp (k:=8) (by omega) sc.1 sd.2,obs,Gp (k:=8) (by omega) sd.1 sc.2,obs]
   try simp only[rq_e]
   rw[LK (k:=16) (by omega) ((HS sc.1 sd.2).mono (by omega)) ((HS sd.1 sc.2).mono (by omega)),obs]
   try simp only[rq_e]
   rw[show c.1*d.2-d.1*c.2=crs c d from rfl,H0 (k:=1400) (by omega) (hacc.mono (by omega)) (hx.mono (by omega)),obs,wrap1 (by omega)]
  obtain ⟨q,g1,g2,g3⟩:=ih (k + 1) (acc + crs c d) (by omega) hsum
  refine ⟨q,(AH (f:=fun (s:(RF×(RF×((List RPt)×((List RPt)×(Int×Int))))))=>AT s.1 s.2.1 s.2.2.1 s.2.2.2.1 s.2.2.2.2.1 s.2.2.2.2.2) (s:=(zF,(rqF acc,(ps.map rp,(ps.map rp,((ps.length:Int),(k:Int))))))) hgo).trans g1,g2,?_⟩
  rw[g3,hd]
  simp only
  rw[hr,chn]
  by_cases h:k + 1<ps.length
  ·rw[hr1 h]
   have hd2:ps.drop (k + 1)=ps[k + 1]::ps.drop (k + 2):=List.drop_eq_getElem_cons h
   rw[hd2] at hr ⊢
   have:d=ps[k + 1]:=by rw[List.cons_append] at hr; exact (List.cons.inj hr).1.symm
   rw[this]
   simp only
   grind
  ·rw[hr2 (by omega),List.drop_eq_nil_of_le (show ps.length≤k + 1 by omega)]
   simp only[chn]
   grind
theorem Z9:∀ (m k:Nat) (acc:Rat),k + m=ps.length→Sz (34*k + 1) acc →
  ∃ r,loopM (fun (s:(RF×(RF×((List RPt)×((List RPt)×(Int×Int))))))=>AY s.1 s.2.1 s.2.2.1 s.2.2.2.1 s.2.2.2.2.1 s.2.2.2.2.2) (zF,(rqF acc,(ps.map rp,(ps.map rp,((ps.length:Int),(k:Int))))))=some (zF,rqF r)∧Sz 1361 r ∧
   r=acc + (match ps.drop k with | []=>0 | c::_=>chn crs c (ps.drop (k + 1) ++ [f])):=by
 have h40:=hps.1
 intro m
 induction m with
 | zero =>
  intro k acc hk hacc
  refine ⟨acc,Am ?_,hacc.mono (by omega),?_⟩
  ·show AY zF (rqF acc) (ps.map rp) (ps.map rp) (ps.length:Int) (k:Int)=_
   unfold AY
   rw[decide_eq_false (by omega)]
   rfl
  ·rw[List.drop_eq_nil_of_le (show ps.length≤k by omega)]
   simp only
   grind
 | succ m ih =>
  intro k acc hk hacc
  have hlt:k<ps.length:=by omega
  have hd:ps.drop k=ps[k]::ps.drop (k + 1):=List.drop_eq_getElem_cons hlt
  have hg:ps[k]? = some ps[k]:=List.getElem?_eq_getElem hlt
  generalize ps[k]=c at hd hg
  have sc:=hps.2 c (List.mem_of_getElem? hg)
  obtain ⟨d,hdg,sd,r,hr,hr1,hr2⟩:=Zh hps hf hlt
  have hx:=AB5 sc sd
  have hsum:Sz (34*(k + 1) + 1) (acc + crs c d):=(SO hacc hx).mono (by omega)
  have hgo:AY zF (rqF acc) (ps.map rp) (ps.map rp) (ps.length:Int) (k:Int)=some (.inl (zF,(rqF (acc + crs c d),(ps.map rp,(ps.map rp,((ps.length:Int),((k + 1:Nat):Int))))))):=by
   unfold AY
   have hz:(((ps.length:Nat):Int)==0)=false:=beq_eq_false_iff_ne.2 (by omega)
   rw[decide_eq_true (by omega),cT,Fx hg,obs,List.length_map,hz,cF,hdg,obs]
   simp only[rq_e,peta,fx_e,fy_e,F7,F6]
   rw[Yd (k:=8) (by omega) sc.1 sd.2,obs,Yd (k:=8) (by omega) sd.1 sc.2,obs]
   try simp only[rq_e]
   rw[RZ (k:=16) (by omega) ((HS sc.1 sd.2).mono (by omega)) ((HS sd.1 sc.2).mono (by omega)),obs]
   try simp only[rq_e]
   rw[show c.1*d.2-d.1*c.2=crs c d from rfl,RY (k:=1400) (by omega) (hacc.mono (by omega)) (hx.mono (by omega)),obs,wrap1 (by omega)]
  obtain ⟨q,g1,g2,g3⟩:=ih (k + 1) (acc + crs c d) (by omega) hsum
  refine ⟨q,(AH (f:=fun (s:(RF×(RF×((List RPt)×((List RPt)×(Int×Int))))))=>AY s.1 s.2.1 s.2.2.1 s.2.2.2.1 s.2.2.2.2.1 s.2.2.2.2.2) (s:=(zF,(rqF acc,(ps.map rp,(ps.map rp,((ps.length:Int),(k:Int))))))) hgo).trans g1,g2,?_⟩
  rw[g3,hd]
  simp only
  rw[hr,chn]
  by_cases h:k + 1<ps.length
  ·rw[hr1 h]
   have hd2:ps.drop (k + 1)=ps[k + 1]::ps.drop (k + 2):=List.drop_eq_getElem_cons h
   rw[hd2] at hr ⊢
   have:d=ps[k + 1]:=by rw[List.cons_append] at hr; exact (List.cons.inj hr).1.symm
   rw[this]
   simp only
   grind
  ·rw[hr2 (by omega),List.drop_eq_nil_of_le (show ps.length≤k + 1 by omega)]
   simp only[chn]
   grind
end
end Go.Proofs.YthipdlhknbhiiaaGreat.Ev

end
section
namespace Go.Proofs.YthipdlhknbhiiaaGreat.Ev
open Go
structure GP (p:Int×Int):Prop where
 a : -1000≤p.1
 b:p.1≤1001
 c : -2≤p.2
 d:p.2≤8
theorem AO7 {B:Nat} {c:List Int×Int×Int} (h:Cur B c) (hB:B≤100000000000000):∃ c' v,Dr c=some (c',v)∧Cur (B + 8) c'∧GP v:=by
 unfold Dr
 obtain ⟨c1,v1,e1,q1⟩:=Fp h (by omega) 40
 simp only[e1,Option.bind_some]
 cases v1
 ·obtain ⟨c2,v2,e2,q2,a2,b2⟩:=Aw q1 (by omega) 9
  obtain ⟨c3,v3,e3,q3,a3,b3⟩:=Aw q2 (by omega) 9
  simp only[cond_false,e2,e3,Option.bind_some]
  have b2:=b2 (by omega)
  have b3:=b3 (by omega)
  refine ⟨_,_,rfl,q3.mono (by omega),?_⟩
  rw[wrapI (by omega) (by omega),wrapI (by omega) (by omega)]
  constructor <;> simp only <;> omega
 ·obtain ⟨c2,v2,e2,q2,m2⟩:=EU q1 (by omega) [-(1000:Int),1000,1001] (by simp) (by simp)
  obtain ⟨c3,v3,e3,q3,a3,b3⟩:=Aw q2 (by omega) 5
  simp only[cond_true,e2,e3,Option.bind_some]
  have b3:=b3 (by omega)
  refine ⟨_,_,rfl,q3.mono (by omega),?_⟩
  simp at m2
  constructor <;> simp only <;> omega
structure GW (l:List (Int×Int)):Prop where
 pts:∀ p∈l,GP p
 lo : 3≤l.length
 hi:l.length≤13
theorem Ap4 {l:List (Int×Int)} {p:Int×Int} (h:∀ q∈l,GP q) (hp:GP p):∀ q∈l ++ [p],GP q:=by
 intro q hq
 rcases List.mem_append.1 hq with h1 | h1
 ·exact h q h1
 ·cases List.mem_singleton.1 h1; exact hp
theorem AC0 {B:Nat} {c:List Int×Int×Int} (h:Cur B c) (hB:B≤10000000000000):∃ c' l,CV c=some (c',l)∧Cur (B + 500) c'∧GW l:=by
 unfold CV
 obtain ⟨c0,v0,e0,q0,a0,b0⟩:=Aw h (by omega) 4
 simp only[e0,Option.bind_some]
 by_cases h0:v0=0
 ·have:(v0==0)=true:=by simp[h0]
  obtain ⟨c1,v1,e1,q1,a1,b1⟩:=Aw q0 (by omega) 6
  obtain ⟨c2,v2,e2,q2,a2,b2⟩:=Aw q1 (by omega) 2
  obtain ⟨c3,v3,e3,q3,a3,b3⟩:=Aw q2 (by omega) 3
  obtain ⟨c4,v4,e4,q4,a4,b4⟩:=Aw q3 (by omega) 5
  obtain ⟨c5,v5,e5,q5,a5,b5⟩:=Aw q4 (by omega) 2
  obtain ⟨c6,v6,e6,q6,a6,b6⟩:=Aw q5 (by omega) 5
  have b1:=b1 (by omega); have b2:=b2 (by omega); have b3:=b3 (by omega); have b4:=b4 (by omega); have b5:=b5 (by omega); have b6:=b6 (by omega)
  simp only[this,cond_true,e1,e2,e3,e4,e5,e6,Option.bind_some]
  rw[wrapI (by omega) (by omega),wrapI (by omega) (by omega),wrapI (by omega) (by omega),wrapI (by omega) (by omega)]
  refine ⟨_,_,rfl,q6.mono (by omega),?_,by simp,by simp⟩
  intro p hp
  simp only[List.mem_cons,List.not_mem_nil,or_false] at hp
  rcases hp with rfl | rfl | rfl | rfl <;> constructor <;> simp only <;> omega
 ·have t0:(v0==0)=false:=by simp[h0]
  by_cases h1:v0=1
  ·have t1:(v0==1)=true:=by simp[h1]
   obtain ⟨c1,v1,e1,q1,a1,b1⟩:=Aw q0 (by omega) 4
   obtain ⟨c2,v2,e2,q2,a2,b2⟩:=Aw q1 (by omega) 4
   have b1:=b1 (by omega); have b2:=b2 (by omega)
   simp only[t0,t1,cond_true,cond_false,e1,e2,Option.bind_some]
   rw[wrapI (by omega) (by omega),wrapI (by omega) (by omega)]
   refine ⟨_,_,rfl,q2.mono (by omega),?_,by simp,by simp⟩
   intro p hp
   simp only[List.mem_cons,List.not_mem_nil,or_false] at hp
   rcases hp with rfl | rfl | rfl | rfl | rfl | rfl | rfl | rfl <;> constructor <;> simp only <;> omega
  ·have t1:(v0==1)=false:=by simp[h1]
   obtain ⟨c1,v1,e1,q1,a1,b1⟩:=Aw q0 (by omega) 4
   have b1:=b1 (by omega)
   obtain ⟨n,hn,hn1⟩:∃ n:Nat,(3 + v1:Int)=(n:Int)∧3≤n∧n≤6:=⟨(3 + v1).toNat,by omega,by omega⟩
   simp only[t0,t1,cond_true,cond_false,e1,Option.bind_some]
   rw[wrapI (by omega) (by omega),hn]
   obtain ⟨⟨c2,l2⟩,e2,q2,g2,n2⟩:=Ib (body:=fun (s:(((List Int)×(Int×Int))×((List (Int×Int))×Int)))=>D0 s.1 s.2.1 s.2.2)
    (st:=fun k (b:(List Int×Int×Int)×List (Int×Int))=>(b.1,b.2,(k:Int))) (fin:=fun b=>b) (I:=fun k b=>Cur (B + 100-8*k) b.1∧(∀ p∈b.2,GP p)∧b.2.length + k=n)
    (by
     rintro k ⟨c,l⟩ ⟨i1,i2,i3⟩
     obtain ⟨c',v,e,q,g⟩:=AO7 i1 (by omega)
     unfold D0
     have:decide (((k + 1:Nat):Int)>0)=true:=decide_eq_true (by omega)
     simp only at i3
     simp only[this,cond_true,e,Option.bind_some,Na (l:=l) (m:=[(v.1,v.2)]) (b:=16) (s:=2) (by simp[maxBytes]; omega) (by simp[maxBytes]; omega)]
     rw[wrapI (by omega) (by omega),show ((k + 1:Nat):Int)-1=(k:Int) by omega]
     exact ⟨(c',l ++ [(v.1,v.2)]),rfl,q.mono (by omega),Ap4 i2 g,by simp; omega⟩)
    (by
     rintro ⟨c,l⟩ ⟨i1,i2,i3⟩
     unfold D0
     rfl) n (c1,[]) ⟨q1.mono (by omega),by simp,by simp⟩
   obtain ⟨c3,v3,e3,q3⟩:=Fp q2 (by omega) 20
   simp only at e2 n2 g2
   simp only[e2,Option.bind_some,e3]
   cases v3
   ·exact ⟨_,_,rfl,q3.mono (by omega),g2,by omega,by omega⟩
   ·obtain ⟨r,e4,q4,g4,n4,n5⟩:=EQ (f:=fun (s:(((List Int)×(Int×Int))×(List (Int×Int))))=>FZ s.1 s.2) (I:=fun s=>Cur (B + 102 + 10*s.2.length) s.1∧(∀ p∈s.2,GP p)∧3≤s.2.length∧s.2.length≤13)
     (R:=fun s=>Cur (B + 400) s.1∧(∀ p∈s.2,GP p)∧3≤s.2.length∧s.2.length≤13) (fun s=>20-s.2.length)
     (by
      rintro ⟨c,l⟩ ⟨i1,i2,i3,i4⟩
      unfold FZ
      simp only at i1 i2 i3 i4
      obtain ⟨c',v,e,q,a,b⟩:=Aw i1 (by omega) 2
      have b:=b (by omega)
      simp only[e,Option.bind_some]
      rw[wrapI (by omega) (by omega)]
      by_cases hlt:(l.length:Int)<12 + v
      ·have:decide ((l.length:Int)<12 + v)=true:=by simpa using hlt
       obtain ⟨c2,v2,e2,q2,g2⟩:=AO7 q (by omega)
       simp only[this,cond_true,e2,Option.bind_some,Na (l:=l) (m:=[(v2.1,v2.2)]) (b:=16) (s:=2) (by simp[maxBytes]; omega) (by simp[maxBytes]; omega)]
       refine .inl ⟨_,rfl,⟨q2.mono (by simp; omega),Ap4 i2 g2,by simp; omega,by simp; omega⟩,by simp; omega⟩
      ·have:decide ((l.length:Int)<12 + v)=false:=by simpa using hlt
       simp only[this,cond_false]
       exact .inr ⟨_,rfl,q.mono (by omega),i2,i3,i4⟩) (c3,l2) ⟨q3.mono (by omega),g2,by simp only; omega,by simp only; omega⟩
    simp only[cond_true,e4,Option.bind_some]
    exact ⟨_,_,rfl,q4.mono (by omega),g4,n4,n5⟩
end Go.Proofs.YthipdlhknbhiiaaGreat.Ev

end
section
namespace Go.Proofs.YthipdlhknbhiiaaGreat.Ev
open Go
theorem WN:Bz (0:Int)=some (rqF 0):=by rw[II (by omega) (by omega)]; rfl
theorem Au4:Bz (2:Int)=some (rqF 2):=by rw[II (by omega) (by omega)]; rfl
theorem LZ:Co (0:Int)=some (rqF 0):=by rw[Ly (by omega) (by omega)]; rfl
theorem Ax9:Co (2:Int)=some (rqF 2):=by rw[Ly (by omega) (by omega)]; rfl
theorem S2:Sz 1361 (2:Rat):=by
 have h:(((2:Int)).natAbs:Int)<B 1361:=Int.lt_of_lt_of_le (by rw[B1]; decide:(((2:Int)).natAbs:Int)<B 1) (G9 (by omega))
 have:=Tk (z:=2) h (by omega)
 exact this
theorem S0r:Sz 1 (0:Rat):=by
 have h:(((0:Int)).natAbs:Int)<B 1:=by rw[B1]; decide
 have:=Tk (z:=0) h (by omega)
 exact this
theorem W0:(2:Rat)≠0:=by decide
theorem Z1 {ps:List Q2} (hps:SzR ps):EN (ps.map rp)=some (rqF (area2 ps/2))∧Sz 2722 (area2 ps/2):=by
 have h40:=hps.1
 have key:∃ r,loopM (fun (s:(RF×(RF×((List RPt)×((List RPt)×(Int×Int))))))=>AT s.1 s.2.1 s.2.2.1 s.2.2.2.1 s.2.2.2.2.1 s.2.2.2.2.2) (zF,(rqF 0,(ps.map rp,(ps.map rp,((ps.length:Int),(0:Int))))))=some (zF,rqF r)∧Sz 1361 r∧r=area2 ps:=by
  cases ps with
  | nil =>
   refine ⟨0,Am ?_,S0r.mono (by omega),rfl⟩
   show AT zF (rqF 0) [] [] 0 0=_
   unfold AT
   rfl
  | cons f m =>
   obtain ⟨r,h1,h2,h3⟩:=ZH hps (f:=f) rfl (f::m).length 0 0 (by omega) S0r
   refine ⟨r,h1,h2,?_⟩
   rw[h3,←TZ]
   show (0:Rat) + chn crs f (m ++ [f])=chn crs f (m ++ [f])
   grind
 obtain ⟨r,h1,h2,h3⟩:=key
 rw[h3] at h1 h2
 refine ⟨?_,(Ag2 h2 S2 W0).mono (by omega)⟩
 have g1:loopM (fun (s:(RF×(RF×((List RPt)×((List RPt)×(Int×Int))))))=>AT s.1 s.2.1 s.2.2.1 s.2.2.2.1 s.2.2.2.2.1 s.2.2.2.2.2) ((false,([],(false,[]))),(rqF 0,(ps.map rp,(ps.map rp,((ps.length:Int),(0:Int))))))=some (zF,rqF (area2 ps)):=h1
 have hh:EJ (rqF (area2 ps))=some (rqF (area2 ps/2)):=by
  unfold EJ
  simp only[rq_e]
  rw[Au4,obs]
  try simp only[rq_e]
  rw[Vj (k:=1361) (by omega) h2 S2 W0,obs]
 unfold EN
 rw[WN,obs]
 try simp only[rq_e]
 rw[List.length_map,g1,obs]
 try simp only[rq_e]
 rw[hh,obs]
theorem Rm {ps:List Q2} (hps:SzR ps):ED (ps.map rp)=some (rqF (area2 ps/2))∧Sz 2722 (area2 ps/2):=by
 have h40:=hps.1
 have key2:∃ r,loopM (fun (s:(RF×(RF×((List RPt)×((List RPt)×(Int×Int))))))=>AY s.1 s.2.1 s.2.2.1 s.2.2.2.1 s.2.2.2.2.1 s.2.2.2.2.2) (zF,(rqF 0,(ps.map rp,(ps.map rp,((ps.length:Int),(0:Int))))))=some (zF,rqF r)∧Sz 1361 r∧r=area2 ps:=by
  cases ps with
  | nil =>
   refine ⟨0,Am ?_,S0r.mono (by omega),rfl⟩
   show AY zF (rqF 0) [] [] 0 0=_
   unfold AY
   rfl
  | cons f m =>
   obtain ⟨r,h1,h2,h3⟩:=Z9 hps (f:=f) rfl (f::m).length 0 0 (by omega) S0r
   refine ⟨r,h1,h2,?_⟩
   rw[h3,←TZ]
   show (0:Rat) + chn crs f (m ++ [f])=chn crs f (m ++ [f])
   grind
 obtain ⟨r,h1,h2,h3⟩:=key2
 rw[h3] at h1 h2
 refine ⟨?_,(Ag2 h2 S2 W0).mono (by omega)⟩
 have g1:loopM (fun (s:(RF×(RF×((List RPt)×((List RPt)×(Int×Int))))))=>AY s.1 s.2.1 s.2.2.1 s.2.2.2.1 s.2.2.2.2.1 s.2.2.2.2.2) ((false,([],(false,[]))),(rqF 0,(ps.map rp,(ps.map rp,((ps.length:Int),(0:Int))))))=some (zF,rqF (area2 ps)):=h1
 unfold ED
 rw[LZ,obs]
 try simp only[rq_e]
 rw[List.length_map,g1,obs]
 try simp only[rq_e]
 rw[Ax9,obs]
 try simp only[rq_e]
 rw[Aq4 (k:=1361) (by omega) h2 S2 W0,obs]
theorem TF {ps:List Q2} (hps:SzR ps):B6 (ps.map rp)=some (fitsQ (area2 ps/2)):=by
 have hp:=hps.1
 unfold B6
 rw[A2 (by simp; omega) (Px (k:=8) (by omega) hps.2),obs,Ed.2 hps,nT,cF,(Z1 hps).1,obs]
 simp only[rq_e,peta]
 rw[NO,obs]
def ShP (x:RPt):Prop:=ShF (fx x)∧ShF (fy x)
theorem ShP.br {x:RPt} (h:ShP x):BrP x:=⟨h.1.br,h.2.br⟩
theorem AP9 {B':Nat} {c:List Int×Int×Int} (h:Cur B' c) (hB:B'≤800000000):∃ c' x,DX c=some (c',fl x)∧Cur (B' + 1500) c'∧ShP x:=by
 unfold DX
 obtain ⟨c0,v0,e0,q0⟩:=Fp h (by omega) 40
 simp only[e0,obs,peta]
 cases v0 with
 | true =>
  obtain ⟨c1,a,e1,q1,s1⟩:=Ag8 q0 (by omega)
  obtain ⟨c2,b,e2,q2,s2⟩:=Ag8 q1 (by omega)
  simp only[cT]
  rw[e1,obs,e2,obs]
  exact ⟨c2,(toQ a,toQ b),rfl,q2.mono (by omega),s1,s2⟩
 | false =>
  obtain ⟨c1,v1,e1,q1,a1,b1⟩:=Aw q0 (by omega) 17
  obtain ⟨c2,v2,e2,q2,a2,b2⟩:=Aw q1 (by omega) 3
  obtain ⟨c3,v3,e3,q3,a3,b3⟩:=Aw q2 (by omega) 17
  obtain ⟨c4,v4,e4,q4,a4,b4⟩:=Aw q3 (by omega) 3
  simp only[cF]
  rw[e1,obs,e2,obs,R7,obs,e3,obs,e4,obs,R7,obs]
  have s1:=LV (IntKind.wrap .i64 (v1-4)) (IntKind.wrap .i64 (1 + v2))
  have s2:=LV (IntKind.wrap .i64 (v3-4)) (IntKind.wrap .i64 (1 + v4))
  generalize ratOfV (IntKind.wrap .i64 (v1-4)) (IntKind.wrap .i64 (1 + v2))=a at s1
  generalize ratOfV (IntKind.wrap .i64 (v3-4)) (IntKind.wrap .i64 (1 + v4))=b at s2
  exact ⟨c4,(toQ a.1,toQ b.1),rfl,q4.mono (by omega),s1,s2⟩
theorem At4:∀ (n:Nat) (B':Nat) (c:List Int×Int×Int) (l:List RPt),Cur B' c→B' + 1500*n≤700000000→l.length + n≤1000→(∀ x∈l,ShP x) →
  ∃ c' l',loopM (fun (s:((List Int×(Int×Int))×((List RPt)×Int)))=>Bb s.1 s.2.1 s.2.2) (c,(l,(n:Int)))=some (c',l')∧Cur (B' + 1500*n) c'∧l'.length=l.length + n∧∀ x∈l',ShP x:=by
 intro n
 induction n with
 | zero =>
  intro B' c l hc _ _ hl
  refine ⟨c,l,Am ?_,hc.mono (by omega),rfl,hl⟩
  show Bb c l ((0:Nat):Int)=_
  unfold Bb
  rfl
 | succ n ih =>
  intro B' c l hc hB hlen hl
  obtain ⟨c1,x,e1,q1,s1⟩:=AP9 hc (by omega)
  obtain ⟨c',l',h1,h2,h3,h4⟩:=ih (B' + 1500) c1 (l ++ [x]) q1 (by omega) (by simp; omega) (by
   intro y hy
   rcases List.mem_append.1 hy with hy | hy
   ·exact hl y hy
   ·rw[List.mem_singleton.1 hy]; exact s1)
  refine ⟨c',l',?_,h2.mono (by omega),by rw[h3]; simp; omega,h4⟩
  have hgo:Bb c l ((n + 1:Nat):Int)=some (.inl (c1,(l ++ [x],(n:Int)))):=by
   unfold Bb
   rw[decide_eq_true (by omega)]
   simp only[cT,peta]
   rw[e1,obs]
   simp only
   rw[un_e,Qq,appP (by omega),obs,wrapI (by omega) (by omega),show ((n + 1:Nat):Int)-1=(n:Int) by omega]
  exact (AH (f:=fun (s:((List Int×(Int×Int))×((List RPt)×Int)))=>Bb s.1 s.2.1 s.2.2) (s:=(c,(l,((n + 1:Nat):Int)))) hgo).trans h1
theorem AM3 {x y:Int} (hx : -100000≤x∧x≤100000) (hy : -100000≤y∧y≤100000):∃ z,Dp (x,y)=some (fl z)∧ShP z:=by
 have small:∀ n:Int,-100000≤n→n≤100000→Sz 2 (n:Rat):=fun n h1 h2=>Tk (by have:B 2=4294967296:=rfl; omega) (by omega)
 unfold Dp
 simp only
 rw[Ly (by omega) (by omega),obs,Ly (by omega) (by omega),obs]
 refine ⟨rp ((x:Rat),(y:Rat)),rfl,?_,?_⟩
 ·exact Aq5 (k:=2) (by omega) (small x hx.1 hx.2)
 ·exact Aq5 (k:=2) (by omega) (small y hy.1 hy.2)
theorem Au1 (p:Int×Int):∃ v,Ho p=some v:=by
 unfold Ho
 rw[LE,obs]
 cases (decide (-1000≤p.1)&&decide (p.1≤1000)) with
 | true=>rw[cT,LE]; exact ⟨_,rfl⟩
 | false=>exact ⟨_,rfl⟩
theorem AH4 {l:List (Int×Int)} (hl:l.length≤1000):∃ v,H3 l=some v:=by
 have key:∀ (m k:Nat),k + m=l.length→∃ v,loopM (fun (s:((List (Int×Int))×(Int×Int)))=>CH s.1 s.2.1 s.2.2) (l,((l.length:Int),(k:Int)))=some v:=by
  intro m
  induction m with
  | zero =>
   intro k hk
   refine ⟨.inl (),Am ?_⟩
   show CH l (l.length:Int) (k:Int)=_
   unfold CH
   rw[decide_eq_false (by omega)]
   rfl
  | succ m ih =>
   intro k hk
   have hlt:k<l.length:=by omega
   have hg:l[k]? = some l[k]:=List.getElem?_eq_getElem hlt
   obtain ⟨v,hv⟩:=Au1 l[k]
   have hb:CH l (l.length:Int) (k:Int)=if v=true then some (.inl (l,((l.length:Int),((k + 1:Nat):Int)))) else some (.inr (.inr false)):=by
    unfold CH
    rw[decide_eq_true (by omega),cT,Ak,hg,obs]
    simp only[peta]
    rw[hv,obs]
    cases v with
    | true=>rw[nT,cF,wrap1 (by omega),if_pos rfl]
    | false=>rw[nF,cT]; rfl
   by_cases h:v=true
   ·rw[if_pos h] at hb
    obtain ⟨w,hw⟩:=ih (k + 1) (by omega)
    exact ⟨w,(AH (f:=fun (s:((List (Int×Int))×(Int×Int)))=>CH s.1 s.2.1 s.2.2) (s:=(l,((l.length:Int),(k:Int)))) hb).trans hw⟩
   ·rw[if_neg h] at hb
    exact ⟨_,Am hb⟩
 obtain ⟨v,hv⟩:=key l.length 0 (by omega)
 have hv':loopM (fun (s:((List (Int×Int))×(Int×Int)))=>CH s.1 s.2.1 s.2.2) (l,((l.length:Int),(0:Int)))=some v:=hv
 unfold H3
 rw[hv',obs]
 cases v with
 | inl u=>exact ⟨_,rfl⟩
 | inr u=>exact ⟨_,rfl⟩
theorem Wv {w:List (Int×Int)} (h:GW w):∃ l ok,Fk w=some (l,ok)∧l.length≤100∧∀ x∈l,ShP x:=by
 have hhi:=h.hi
 obtain ⟨v,hv⟩:=AH4 (l:=w) (by omega)
 have hway:∃ v,Id w=some v:=by
  unfold Id
  rw[LE,obs]
  cases (decide ((3:Int)≤((w.length:Nat):Int))&&decide (((w.length:Nat):Int)≤12)) with
  | true=>rw[cT,hv,obs]; exact ⟨_,rfl⟩
  | false=>exact ⟨_,rfl⟩
 obtain ⟨u,hu⟩:=hway
 unfold Fk
 rw[hu,obs]
 cases u with
 | false=>exact ⟨_,_,rfl,by simp,by simp⟩
 | true =>
  have key:∀ (m k:Nat) (l:List RPt),k + m=w.length→l.length=k→(∀ x∈l,ShP x)→∃ l',loopM (fun (s:((List RPt)×((List (Int×Int))×(Int×Int))))=>B9 s.1 s.2.1 s.2.2.1 s.2.2.2) (l,(w,((w.length:Int),(k:Int))))=some l'∧l'.length=w.length∧∀ x∈l',ShP x:=by
   intro m
   induction m with
   | zero =>
    intro k l hk hl hs
    refine ⟨l,Am ?_,by omega,hs⟩
    show B9 l w (w.length:Int) (k:Int)=_
    unfold B9
    rw[decide_eq_false (by omega)]
    rfl
   | succ m ih =>
    intro k l hk hl hs
    have hlt:k<w.length:=by omega
    have hg:w[k]? = some w[k]:=List.getElem?_eq_getElem hlt
    have gp:=h.pts _ (List.mem_of_getElem? hg)
    obtain ⟨g1,g2,g3,g4⟩:=gp
    obtain ⟨z,hz,sz⟩:=AM3 (x:=w[k].1) (y:=w[k].2) (by omega) (by omega)
    have hb:B9 l w (w.length:Int) (k:Int)=some (.inl (l ++ [z],(w,((w.length:Int),((k + 1:Nat):Int))))):=by
     unfold B9
     rw[decide_eq_true (by omega),cT,Ak,hg,obs,hz,obs,un_e,Qq,appP (by omega),obs,wrap1 (by omega)]
    obtain ⟨l',i1,i2,i3⟩:=ih (k + 1) (l ++ [z]) (by omega) (by simp; omega) (by
     intro y hy
     rcases List.mem_append.1 hy with hy | hy
     ·exact hs y hy
     ·rw[List.mem_singleton.1 hy]; exact sz)
    exact ⟨l',(AH (f:=fun (s:((List RPt)×((List (Int×Int))×(Int×Int))))=>B9 s.1 s.2.1 s.2.2.1 s.2.2.2) (s:=(l,(w,((w.length:Int),(k:Int))))) hb).trans i1,i2,i3⟩
  obtain ⟨l',i1,i2,i3⟩:=key w.length 0 [] (by omega) rfl (by simp)
  have i1':loopM (fun (s:((List RPt)×((List (Int×Int))×(Int×Int))))=>B9 s.1 s.2.1 s.2.2.1 s.2.2.2) ((List.nil:List RPt),(w,((w.length:Int),(0:Int))))=some l':=i1
  rw[nT,cF,i1',obs]
  exact ⟨_,_,rfl,by omega,i3⟩
theorem AM9 {B':Nat} {c:List Int×Int×Int} (h:Cur B' c) (hB:B'≤100000000):∃ c' l,C9 c=some (c',l)∧Cur (B' + 100000) c'∧l.length≤100∧∀ x∈l,ShP x:=by
 unfold C9
 obtain ⟨c0,v0,e0,q0⟩:=Fp h (by omega) 2
 simp only[e0,obs,peta]
 cases v0 with
 | true =>
  obtain ⟨c1,w,e1,q1,g1⟩:=AC0 q0 (by omega)
  obtain ⟨l,ok,e2,n2,s2⟩:=Wv g1
  simp only[cT]
  rw[e1,obs,e2,obs]
  exact ⟨_,_,rfl,q1.mono (by omega),n2,s2⟩
 | false =>
  obtain ⟨c1,v1,e1,q1,a1,b1⟩:=Aw q0 (by omega) 7
  have b1:=b1 (by omega)
  obtain ⟨c2,v2,e2,q2⟩:=Fp q1 (by omega) 20
  simp only[cF]
  rw[e1,obs,e2,obs]
  have fin:∀ (c3:List Int×Int×Int) (v:Int),Cur (B' + 100) c3→0≤v→v≤50→∃ c' l,loopM (fun (s:((List Int×(Int×Int))×((List RPt)×Int)))=>Bb s.1 s.2.1 s.2.2) (c3,((List.nil:List RPt),v))=some (c',l)∧Cur (B' + 100000) c'∧l.length≤100∧∀ x∈l,ShP x:=by
   intro c3 v q3 hv0 hv1
   obtain ⟨n,rfl⟩:∃ n:Nat,v=(n:Int):=⟨v.toNat,by omega⟩
   obtain ⟨c',l',h1,h2,h3,h4⟩:=At4 n (B' + 100) c3 [] q3 (by omega) (by simp; omega) (by simp)
   exact ⟨c',l',h1,h2.mono (by omega),by rw[h3]; simp; omega,h4⟩
  cases v2 with
  | true =>
   obtain ⟨c3,v3,e3,q3,a3,b3⟩:=Aw q2 (by omega) 3
   have b3:=b3 (by omega)
   obtain ⟨c',l,h1,h2,h3,h4⟩:=fin c3 (39 + v3) (q3.mono (by omega)) (by omega) (by omega)
   simp only[cT]
   rw[e3,obs,wrapI (by omega) (by omega),obs,sEr,h1,obs]
   exact ⟨_,_,rfl,h2,h3,h4⟩
  | false =>
   obtain ⟨c',l,h1,h2,h3,h4⟩:=fin c2 v1 (q2.mono (by omega)) (by omega) (by omega)
   simp only[cF]
   rw[obs,sEr,h1,obs]
   exact ⟨_,_,rfl,h2,h3,h4⟩
end Go.Proofs.YthipdlhknbhiiaaGreat.Ev

end
section
namespace Go.Proofs.YthipdlhknbhiiaaGreat.Ev
open Go
structure Val (E:Q2→Q2→Rat):Prop where
 anti:∀ p q,E p q = -(E q p)
 split:∀ p q t,0≤t→t≤1→E p (mixQ p q t) + E (mixQ p q t) q=E p q
theorem Val.self {E:Q2→Q2→Rat} (h:Val E) (p:Q2):E p p=0:=by
 have:=h.anti p p
 grind
theorem IP:Val crs:=⟨fun p q=>by unfold crs; grind,fun p q t _ _=>by unfold crs mixQ; simp only; grind⟩
theorem SW (a c:Q2):mixQ a c 0=a:=by unfold mixQ; rw[Rat.zero_mul,Rat.zero_mul,Rat.add_zero,Rat.add_zero]
theorem An6 (a c:Q2):mixQ a c 1=c:=by
 unfold mixQ
 rw[Rat.one_mul,Rat.one_mul,show a.1 + (c.1-a.1)=c.1 by grind,show a.2 + (c.2-a.2)=c.2 by grind]
theorem An3 (a c:Q2) (t u:Rat):mixQ a (mixQ a c t) u=mixQ a c (u*t):=by
 unfold mixQ
 simp only
 rw[show a.1 + u*(a.1 + t*(c.1-a.1)-a.1)=a.1 + u*t*(c.1-a.1) by grind,show a.2 + u*(a.2 + t*(c.2-a.2)-a.2)=a.2 + u*t*(c.2-a.2) by grind]
theorem Nu (b:Bool) (a c:Q2) (t:Rat):crd b (mixQ a c t)=crd b a + t*(crd b c-crd b a):=by cases b <;> rfl
theorem Tg {x y:Rat} (h0 : 0≤x) (h:x≤y) (hy : 0<y) : 0≤x/y∧x/y≤1:=by
 have e:x/y*y=x:=Rat.div_mul_cancel (by intro h; rw[h] at hy; exact absurd hy (Rat.lt_irrefl))
 constructor
 ·refine Rat.le_of_mul_le_mul_right (c:=y) ?_ hy
  rw[e,Rat.zero_mul]; exact h0
 ·refine Rat.le_of_mul_le_mul_right (c:=y) ?_ hy
  rw[e,Rat.one_mul]; exact h
theorem Val.three {E:Q2→Q2→Rat} (h:Val E) {a c:Q2} {t u:Rat} (h0 : 0≤t) (h1:t≤u) (h2:u≤1):E a (mixQ a c t) + E (mixQ a c t) (mixQ a c u)=E a (mixQ a c u):=by
 by_cases hu:u=0
 ·have:t=0:=by grind
  rw[hu,this,SW,h.self]; grind
 ·have hu0 : 0<u:=by grind
  obtain ⟨d0,d1⟩:=Tg h0 h1 hu0
  have e:t/u*u=t:=Rat.div_mul_cancel hu
  have:=h.split a (mixQ a c u) (t/u) d0 d1
  rw[An3,e] at this
  exact this
def prj (b:Bool) (s:Rat) (p:Q2):Q2:=if b then (p.1,s) else (s,p.2)
theorem AI1 {b:Bool} {s:Rat} {p:Q2} (h:crd b p=s):prj b s p=p:=by
 unfold crd at h
 unfold prj
 cases b
 ·simp at h ⊢; rw[←h]
 ·simp at h ⊢; rw[←h]
theorem AM2 (b:Bool) (s:Rat) (p:Q2):crd b (prj b s p)=s:=by cases b <;> rfl
theorem Xf {b:Bool} {p q:Q2} (h1:crd b p=crd b q) (h2:crd (!b) p=crd (!b) q):p=q:=by
 unfold crd at h1 h2
 cases b <;> simp at h1 h2
 ·exact Prod.ext h1 h2
 ·exact Prod.ext h2 h1
theorem Val.mid {E:Q2→Q2→Rat} (h:Val E) {b:Bool} {s:Rat} {p q r:Q2} (hp:crd b p=s) (hq:crd b q=s) (hr:crd b r=s) (h1:crd (!b) p≤crd (!b) q) (h2:crd (!b) q≤crd (!b) r):E p q + E q r=E p r:=by
 by_cases e:crd (!b) p=crd (!b) r
 ·have e1:p=q:=Xf (by rw[hp,hq]) (by grind)
  have e2:q=r:=Xf (by rw[hq,hr]) (by grind)
  rw[e1,e2,h.self]; grind
 ·have hlt : 0<crd (!b) r-crd (!b) p:=by grind
  obtain ⟨d0,d1⟩:=Tg (x:=crd (!b) q-crd (!b) p) (y:=crd (!b) r-crd (!b) p) (by grind) (by grind) hlt
  have hd:(crd (!b) q-crd (!b) p)/(crd (!b) r-crd (!b) p)*(crd (!b) r-crd (!b) p)=crd (!b) q-crd (!b) p:=Rat.div_mul_cancel (fun h=>by grind)
  have hm:mixQ p r ((crd (!b) q-crd (!b) p)/(crd (!b) r-crd (!b) p))=q:=by
   refine Xf (b:=b) ?_ ?_
   ·rw[Nu,hp,hq,hr]; grind
   ·rw[Nu,hd]; grind
  have:=h.split p r _ d0 d1
  rw[hm] at this
  exact this
theorem Val.line {E:Q2→Q2→Rat} (h:Val E) {b:Bool} {s:Rat} {p q r:Q2} (hp:crd b p=s) (hq:crd b q=s) (hr:crd b r=s):E p q + E q r=E p r:=by
 have a1:=h.anti p q
 have a2:=h.anti q r
 have a3:=h.anti p r
 rcases Rat.le_total (a:=crd (!b) p) (b:=crd (!b) q) with k1 | k1 <;> rcases Rat.le_total (a:=crd (!b) q) (b:=crd (!b) r) with k2 | k2 <;> rcases Rat.le_total (a:=crd (!b) p) (b:=crd (!b) r) with k3 | k3
 ·exact h.mid hp hq hr k1 k2
 ·exact h.mid hp hq hr k1 k2
 ·have:=h.mid hp hr hq k3 k2
  grind
 ·have:=h.mid hr hp hq k3 k1
  grind
 ·have:=h.mid hq hp hr k1 k3
  grind
 ·have:=h.mid hq hr hp k2 k3
  grind
 ·have:=h.mid hr hq hp k2 k1
  grind
 ·have:=h.mid hr hq hp k2 k1
  grind
section
variable (E:Q2→Q2→Rat) (b high:Bool) (s:Rat)
def phi (p:Q2):Rat:=E (prj b s (0,0)) (prj b s p)
def gE (p q:Q2):Rat:=E p q-(phi E b s q-phi E b s p)
def pieceE (a c:Q2):Rat :=
 bif ins b high s a then (bif ins b high s c then gE E b s a c else gE E b s a (cutQ b s a c)) else (bif ins b high s c then gE E b s (cutQ b s a c) c else 0)
end
section
variable {E:Q2→Q2→Rat} (h:Val E) {b high:Bool} {s:Rat}
include h
theorem XR {p q:Q2} (hp:crd b p=s) (hq:crd b q=s):gE E b s p q=0:=by
 unfold gE phi
 rw[AI1 hp,AI1 hq]
 have:=h.line (b:=b) (s:=s) (p:=prj b s (0,0)) (q:=p) (r:=q) (AM2 b s _) hp hq
 grind
theorem Ap0 (p:Q2):gE E b s p p=0:=by unfold gE; rw[h.self]; grind
theorem Xd (p q:Q2):gE E b s p q = -(gE E b s q p):=by
 unfold gE
 have:=h.anti p q
 grind
theorem TK (p q:Q2) (t:Rat) (h0 : 0≤t) (h1:t≤1):gE E b s p (mixQ p q t) + gE E b s (mixQ p q t) q=gE E b s p q:=by
 have:=h.split p q t h0 h1
 unfold gE
 generalize mixQ p q t=m at *
 grind
theorem AJ2 {a c:Q2} {t u:Rat} (h0 : 0≤t) (h1:t≤u) (h2:u≤1):gE E b s a (mixQ a c t) + gE E b s (mixQ a c t) (mixQ a c u)=gE E b s a (mixQ a c u):=by
 have:=h.three (a:=a) (c:=c) h0 h1 h2
 unfold gE
 generalize mixQ a c t=m at *
 generalize mixQ a c u=n at *
 grind
theorem AE2 {a c q:Q2} (hA:At b high s a q):chn (gE E b s) q (stepQ b high s a c)=pieceE E b high s a c∧At b high s c (endQ q (stepQ b high s a c)):=by
 unfold At at hA ⊢
 unfold stepQ pieceE
 have hm:ins b high s a≠ins b high s c→crd b (cutQ b s a c)=s:=fun h=>XZ (HI h)
 cases h1:ins b high s a <;> cases h2:ins b high s c <;> rw[h1] at hA hm <;> rw[h2] at hm <;> simp only[if_true,Bool.false_eq_true,if_false,reduceCtorEq] at hA ⊢
 ·simp only[List.nil_append,chn,endQ,cond_false,if_true,List.append_nil]
  exact ⟨trivial,hA⟩
 ·have hm:=hm (by simp)
  simp only[List.cons_append,List.nil_append,chn,endQ,cond_false,cond_true]
  rw[XR h hA hm]
  refine ⟨by grind,trivial⟩
 ·have hm:=hm (by simp)
  simp only[List.append_nil,chn,endQ,cond_false,cond_true]
  rw[hA]
  exact ⟨by grind,hm⟩
 ·simp only[List.nil_append,chn,endQ,cond_true,if_true]
  rw[hA]
  exact ⟨by grind,trivial⟩
theorem Uw:∀ (l:List Q2) (a q:Q2),At b high s a q→chn (gE E b s) q (clipFrom b high s a l)=chn (pieceE E b high s) a l∧At b high s (endQ a l) (endQ q (clipFrom b high s a l))
 | [],a,q,hA=>⟨rfl,hA⟩
 | c::l,a,q,hA=>by
  obtain ⟨h1,h2⟩:=AE2 h (c:=c) hA
  obtain ⟨h3,h4⟩:=Uw l c _ h2
  rw[clipFrom,Mu,Qd,h1,h3]
  exact ⟨rfl,h4⟩
end
theorem Ah7 (E:Q2→Q2→Rat) (b:Bool) (s:Rat):∀ (a:Q2) (l:List Q2),chn (gE E b s) a l=chn E a l-(phi E b s (endQ a l)-phi E b s a)
 | a,[]=>by simp only[chn,endQ]; grind
 | a,c::l=>by
  rw[chn,chn,Ah7 E b s c l,endQ]
  unfold gE
  generalize phi E b s (endQ c l)=x
  generalize phi E b s a=y
  generalize phi E b s c=z
  grind
def sumE (E:Q2→Q2→Rat) (l:List Q2):Rat:=chn E (lastQ l) l
theorem Ay9 (l:List Q2):area2 l=sumE crs l:=rfl
theorem Cy {E:Q2→Q2→Rat} (h:Val E) (b high:Bool) (s:Rat) (l:List Q2):sumE E (clipQ b high s l)=sumE (pieceE E b high s) l:=by
 obtain ⟨q,hq⟩:=AL6 b high s (lastQ l)
 obtain ⟨h1,h2⟩:=Uw h l (lastQ l) q hq
 rw[PM] at h2
 unfold sumE
 by_cases he:clipQ b high s l = []
 ·have he':clipFrom b high s (lastQ l) l = []:=he
  rw[he]
  rw[he'] at h1
  rw[←h1]
  rfl
 ·have hl:endQ q (clipFrom b high s (lastQ l) l)=lastQ (clipQ b high s l):=LY _ _ he
  rw[hl] at h2
  obtain ⟨h3,_⟩:=Uw h l (lastQ l) _ h2
  have h4:=Ah7 E b s (lastQ (clipQ b high s l)) (clipQ b high s l)
  rw[PM] at h4
  have h5:chn (gE E b s) (lastQ (clipQ b high s l)) (clipQ b high s l)=chn (pieceE E b high s) (lastQ l) l:=h3
  rw[h5] at h4
  rw[h4]
  grind
theorem AF8 (E:Q2→Q2→Rat) (b:Bool) (s:Rat) (l:List Q2):sumE E l=sumE (gE E b s) l:=by
 unfold sumE
 rw[Ah7,PM]
 grind
theorem Ak7 {b:Bool} {s:Rat} {a c:Q2} {t:Rat} (ht:t≠0) (hc:crd b c≠crd b a):cutQ b s a (mixQ a c t)=cutQ b s a c:=by
 unfold cutQ
 rw[An3,Nu]
 congr 1
 have hd:crd b c-crd b a≠0:=fun e=>hc (by grind)
 have hd2:crd b a + t*(crd b c-crd b a)-crd b a≠0:=fun e=>by
  have:t*(crd b c-crd b a)=0:=by grind
  rcases Rat.mul_eq_zero.1 this with h | h
  ·exact ht h
  ·exact hd h
 have e1:=Rat.div_mul_cancel (a:=s-crd b a) hd2
 have e2:=Rat.div_mul_cancel (a:=s-crd b a) hd
 generalize (s-crd b a)/(crd b a + t*(crd b c-crd b a)-crd b a)=u at *
 generalize (s-crd b a)/(crd b c-crd b a)=v at *
 have e3:(u*t-v)*(crd b c-crd b a)=0:=by grind
 rcases Rat.mul_eq_zero.1 e3 with h | h
 ·grind
 ·exact absurd h hd
theorem Np {b:Bool} {s:Rat} {a c:Q2} (hc:crd b c≠crd b a):cutQ b s a c=cutQ b s c a:=by
 have hd:crd b c-crd b a≠0:=fun e=>hc (by grind)
 have hd2:crd b a-crd b c≠0:=fun e=>hc (by grind)
 have e1:=Rat.div_mul_cancel (a:=s-crd b a) hd
 have e2:=Rat.div_mul_cancel (a:=s-crd b c) hd2
 unfold cutQ mixQ
 generalize (s-crd b a)/(crd b c-crd b a)=u at *
 generalize (s-crd b c)/(crd b a-crd b c)=v at *
 have e3:(u + v-1)*(crd b c-crd b a)=0:=by grind
 have e4:v=1-u:=by
  rcases Rat.mul_eq_zero.1 e3 with h | h
  ·grind
  ·exact absurd h hd
 rw[e4,show a.1 + u*(c.1-a.1)=c.1 + (1-u)*(a.1-c.1) by grind,show a.2 + u*(c.2-a.2)=c.2 + (1-u)*(a.2-c.2) by grind]
theorem Yk (a c:Q2) (t:Rat):mixQ a c t=mixQ c a (1-t):=by
 unfold mixQ
 rw[show a.1 + t*(c.1-a.1)=c.1 + (1-t)*(a.1-c.1) by grind,show a.2 + t*(c.2-a.2)=c.2 + (1-t)*(a.2-c.2) by grind]
theorem Z0 {b high:Bool} {s:Rat} {a c:Q2} {t:Rat} (h0 : 0≤t) (h1:t≤1) (x:Bool) (ha:ins b high s a=x) (hc:ins b high s c=x):ins b high s (mixQ a c t)=x:=by
 unfold ins at *
 rw[Nu]
 have k1 : 0≤1-t:=by grind
 generalize crd b a=p at *
 generalize crd b c=q at *
 have e:p + t*(q-p)=(1-t)*p + t*q:=by grind
 rw[e]
 have low:∀ z:Rat,p≤z→q≤z→(1-t)*p + t*q≤z:=by
  intro z hp hq
  have m1:=Rat.mul_le_mul_of_nonneg_left hp k1
  have m2:=Rat.mul_le_mul_of_nonneg_left hq h0
  have e2:(1-t)*z + t*z=z:=by grind
  grind
 have up:∀ z:Rat,z≤p→z≤q→z≤(1-t)*p + t*q:=by
  intro z hp hq
  have m1:=Rat.mul_le_mul_of_nonneg_left hp k1
  have m2:=Rat.mul_le_mul_of_nonneg_left hq h0
  have e2:(1-t)*z + t*z=z:=by grind
  grind
 have lowS:p<s→q<s→(1-t)*p + t*q<s:=by
  intro hp hq
  rcases Rat.le_total (a:=p) (b:=q) with g | g
  ·have:=low q g Rat.le_refl
   grind
  ·have:=low p Rat.le_refl g
   grind
 have upS:s<p→s<q→s<(1-t)*p + t*q:=by
  intro hp hq
  rcases Rat.le_total (a:=p) (b:=q) with g | g
  ·have:=up p Rat.le_refl g
   grind
  ·have:=up q g Rat.le_refl
   grind
 cases high <;> cases x <;> simp only[if_true,Bool.false_eq_true,if_false,decide_eq_true_eq,decide_eq_false_iff_not,Rat.not_le] at ha hc ⊢
 ·exact upS ha hc
 ·exact low s ha hc
 ·exact lowS ha hc
 ·exact up s ha hc
section
variable {E:Q2→Q2→Rat} (h:Val E) {b high:Bool} {s:Rat}
include h
theorem TR (a:Q2):pieceE E b high s a a=0:=by
 unfold pieceE
 cases ins b high s a
 ·rfl
 ·simp only[cond_true]; exact Ap0 h a
theorem IK (a c:Q2):pieceE E b high s a c = -(pieceE E b high s c a):=by
 unfold pieceE
 cases h1:ins b high s a <;> cases h2:ins b high s c <;> simp only[cond_true,cond_false]
 ·grind
 ·have hne:=HI (b:=b) (high:=high) (s:=s) (a:=a) (c:=c) (by rw[h1,h2]; simp)
  rw[Np hne]
  exact Xd h _ _
 ·have hne:=HI (b:=b) (high:=high) (s:=s) (a:=a) (c:=c) (by rw[h1,h2]; simp)
  rw[Np hne]
  exact Xd h _ _
 ·exact Xd h _ _
theorem KP {a c:Q2} {t:Rat} (h0 : 0≤t) (h1:t≤1) (ha:ins b high s a=true):pieceE E b high s a (mixQ a c t) + pieceE E b high s (mixQ a c t) c=pieceE E b high s a c:=by
 by_cases ht0:t=0
 ·rw[ht0,SW,TR h]; grind
 by_cases ht1:t=1
 ·rw[ht1,An6,TR h]; grind
 cases hc:ins b high s c with
 | true =>
  have hm:=Z0 h0 h1 true ha hc
  unfold pieceE
  rw[ha,hc,hm]
  simp only[cond_true]
  exact TK h a c t h0 h1
 | false =>
  have hne:=HI (b:=b) (high:=high) (s:=s) (a:=a) (c:=c) (by rw[ha,hc]; simp)
  cases hm:ins b high s (mixQ a c t) with
  | false =>
   have e:=Ak7 (b:=b) (s:=s) ht0 hne
   unfold pieceE
   rw[ha,hc,hm]
   simp only[cond_true,cond_false]
   rw[e]; grind
  | true =>
   have hne2:=HI (b:=b) (high:=high) (s:=s) (a:=mixQ a c t) (c:=c) (by rw[hm,hc]; simp)
   have e:cutQ b s (mixQ a c t) c=cutQ b s a c:=by
    rw[Np hne2,Yk a c t,Ak7 (fun h=>ht1 (by grind)) (fun h=>hne h.symm),←Np hne]
   unfold pieceE
   rw[ha,hc,hm]
   simp only[cond_true,cond_false]
   rw[e]
   have hd:crd b c-crd b a≠0:=fun e=>hne (by grind)
   have e1:=Rat.div_mul_cancel (a:=s-crd b a) hd
   have hcm:=Nu b a c t
   unfold ins at ha hc hm
   have hu:t≤(s-crd b a)/(crd b c-crd b a)∧(s-crd b a)/(crd b c-crd b a)≤1:=by
    rw[hcm] at hm
    generalize (s-crd b a)/(crd b c-crd b a)=u at *
    generalize crd b a=p at *
    generalize crd b c=q at *
    cases high with
    | false =>
     simp only[Bool.false_eq_true,if_false,decide_eq_true_eq,decide_eq_false_iff_not,Rat.not_le] at ha hc hm
     have hpos : 0<q-p:=by grind
     constructor
     ·refine Rat.le_of_mul_le_mul_right (c:=q-p) ?_ hpos
      rw[e1]; grind
     ·refine Rat.le_of_mul_le_mul_right (c:=q-p) ?_ hpos
      rw[e1]; grind
    | true =>
     simp only[if_true,decide_eq_true_eq,decide_eq_false_iff_not,Rat.not_le] at ha hc hm
     have hpos : 0<p-q:=by grind
     have e2:u*(p-q)=p-s:=by grind
     constructor
     ·refine Rat.le_of_mul_le_mul_right (c:=p-q) ?_ hpos
      rw[e2]; grind
     ·refine Rat.le_of_mul_le_mul_right (c:=p-q) ?_ hpos
      rw[e2]; grind
   exact AJ2 h h0 hu.1 hu.2
theorem Gt:Val (pieceE E b high s):=by
 refine ⟨IK h,fun a c t h0 h1=>?_⟩
 cases ha:ins b high s a with
 | true=>exact KP h h0 h1 ha
 | false =>
  cases hc:ins b high s c with
  | true =>
   have:=KP h (a:=c) (c:=a) (t:=1-t) (by grind) (by grind) hc
   rw[←Yk a c t] at this
   have a1:=IK h (b:=b) (high:=high) (s:=s) a (mixQ a c t)
   have a2:=IK h (b:=b) (high:=high) (s:=s) (mixQ a c t) c
   have a3:=IK h (b:=b) (high:=high) (s:=s) a c
   grind
  | false =>
   have hm:=Z0 h0 h1 false ha hc
   unfold pieceE
   rw[ha,hc,hm]
   simp only[cond_false]
   grind
theorem Ag7 (a c:Q2):pieceE E b false s a c + pieceE E b true s a c=gE E b s a c:=by
 have hcut:cutQ b s a c=mixQ a c ((s-crd b a)/(crd b c-crd b a)):=rfl
 have ha:crd b a=s→cutQ b s a c=a:=by
  intro h1
  rw[hcut,h1,show s-s=(0:Rat) by grind,Rat.div_def,Rat.zero_mul,SW]
 have hcc:crd b c=s→crd b c≠crd b a→cutQ b s a c=c:=by
  intro h1 h2
  have hd:crd b c-crd b a≠0:=fun e=>h2 (by grind)
  rw[hcut,←h1,Rat.div_def,Rat.mul_inv_cancel _ hd,An6]
 have hself:=Ap0 h (b:=b) (s:=s)
 have hline:=@XR E h b s a c
 have flo:∀ p:Q2,crd b p<s→ins b false s p=true∧ins b true s p=false:=fun p h=>⟨decide_eq_true (Rat.le_of_lt h),decide_eq_false (by grind)⟩
 have fon:∀ p:Q2,crd b p=s→ins b false s p=true∧ins b true s p=true:=fun p h=>⟨decide_eq_true (by rw[h]; exact Rat.le_refl),decide_eq_true (by rw[h]; exact Rat.le_refl)⟩
 have fhi:∀ p:Q2,s<crd b p→ins b false s p=false∧ins b true s p=true:=fun p h=>⟨decide_eq_false (by grind),decide_eq_true (Rat.le_of_lt h)⟩
 have strict:∀ x y:Rat,0<x→x<y→0≤x/y∧x/y≤1:=fun x y h1 h2=>Tg (Rat.le_of_lt h1) (Rat.le_of_lt h2) (by grind)
 unfold pieceE
 rcases tri (crd b a) s with h1 | h1 | h1
 ·obtain ⟨a1,a2⟩:=flo a h1
  rcases tri (crd b c) s with h2 | h2 | h2
  ·obtain ⟨c1,c2⟩:=flo c h2
   simp only[a1,a2,c1,c2,cond_true,cond_false,Rat.add_zero]
  ·obtain ⟨c1,c2⟩:=fon c h2
   simp only[a1,a2,c1,c2,cond_true,cond_false]
   rw[hcc h2 (by rw[h2]; intro e; rw[e] at h1; exact absurd h1 (Rat.lt_irrefl)),hself,Rat.add_zero]
  ·obtain ⟨c1,c2⟩:=fhi c h2
   simp only[a1,a2,c1,c2,cond_true,cond_false]
   obtain ⟨d0,d1⟩:=Tg (x:=s-crd b a) (y:=crd b c-crd b a) (by grind) (by grind) (by grind)
   exact TK h a c _ d0 d1
 ·obtain ⟨a1,a2⟩:=fon a h1
  rcases tri (crd b c) s with h2 | h2 | h2
  ·obtain ⟨c1,c2⟩:=flo c h2
   simp only[a1,a2,c1,c2,cond_true,cond_false]
   rw[ha h1,hself,Rat.add_zero]
  ·obtain ⟨c1,c2⟩:=fon c h2
   simp only[a1,a2,c1,c2,cond_true,cond_false]
   rw[hline h1 h2,Rat.add_zero]
  ·obtain ⟨c1,c2⟩:=fhi c h2
   simp only[a1,a2,c1,c2,cond_true,cond_false]
   rw[ha h1,hself,Rat.zero_add]
 ·obtain ⟨a1,a2⟩:=fhi a h1
  have hdd:(s-crd b a)/(crd b c-crd b a)=(crd b a-s)/(crd b a-crd b c):=by
   by_cases hd:crd b c-crd b a=0
   ·have hd':crd b a-crd b c=0:=by grind
    rw[hd,hd',Rat.div_def,Rat.div_def,Rat.inv_zero,Rat.mul_zero,Rat.mul_zero]
   ·have e1:=Rat.div_mul_cancel (a:=s-crd b a) hd
    have e2:=Rat.div_mul_cancel (a:=crd b a-s) (b:=crd b a-crd b c) (fun e=>hd (by grind))
    generalize (s-crd b a)/(crd b c-crd b a)=u at *
    generalize (crd b a-s)/(crd b a-crd b c)=v at *
    have e3:(u-v)*(crd b c-crd b a)=0:=by grind
    rcases Rat.mul_eq_zero.1 e3 with h | h
    ·grind
    ·exact absurd h hd
  rcases tri (crd b c) s with h2 | h2 | h2
  ·obtain ⟨c1,c2⟩:=flo c h2
   simp only[a1,a2,c1,c2,cond_true,cond_false]
   obtain ⟨d0,d1⟩:=Tg (x:=crd b a-s) (y:=crd b a-crd b c) (by grind) (by grind) (by grind)
   rw[Rat.add_comm,hcut,hdd]
   exact TK h a c _ d0 d1
  ·obtain ⟨c1,c2⟩:=fon c h2
   simp only[a1,a2,c1,c2,cond_true,cond_false]
   rw[hcc h2 (by rw[h2]; intro e; rw[e] at h1; exact absurd h1 (Rat.lt_irrefl)),hself,Rat.zero_add]
  ·obtain ⟨c1,c2⟩:=fhi c h2
   simp only[a1,a2,c1,c2,cond_true,cond_false,Rat.zero_add]
end
theorem TA {E:Q2→Q2→Rat} (h:Val E) (b:Bool) (s:Rat) (l:List Q2):sumE E (clipQ b false s l) + sumE E (clipQ b true s l)=sumE E l:=by
 rw[Cy h,Cy h,AF8 E b s l]
 exact Am1 _ _ (gE E b s) (Ag7 h) _ _
end Go.Proofs.YthipdlhknbhiiaaGreat.Ev

end
section
namespace Go.Proofs.YthipdlhknbhiiaaGreat.Ev
open Go
theorem Yh {E:Q2→Q2→Rat} (h:Val E) {b:Bool} {s:Rat}:∀ (l:List Q2) (a:Q2),crd b a=s→(∀ p∈l,crd b p=s)→chn (gE E b s) a l=0
 | [],a,_,_=>rfl
 | c::l,a,ha,hl=>by
  have hc:=hl c (by simp)
  rw[chn,XR h ha hc,Yh h l c hc (fun p hp=>hl p (List.mem_cons_of_mem _ hp))]
  grind
theorem AD7 {E:Q2→Q2→Rat} (h:Val E) {b:Bool} {s:Rat} {l:List Q2} (hl:∀ p∈l,crd b p=s):sumE E l=0:=by
 rw[AF8 E b s]
 cases hm:l with
 | nil=>rfl
 | cons c m =>
  have hne:l≠[]:=by rw[hm]; simp
  rw[←hm]
  exact Yh h l _ (hl _ (PR hne)) hl
theorem V9 {b high:Bool} {s:Rat}:∀ (l:List Q2) (a:Q2) (p:Q2),p∈clipFrom b high s a l→(p∈l∧ins b high s p=true)∨crd b p=s
 | [],a,p,h=>by cases h
 | c::l,a,p,h=>by
  rw[clipFrom] at h
  rcases List.mem_append.1 h with h | h
  ·unfold stepQ at h
   rcases List.mem_append.1 h with h | h
   ·by_cases e:ins b high s a=ins b high s c
    ·rw[if_pos e] at h; cases h
    ·rw[if_neg e] at h
     rw[List.mem_singleton.1 h]
     exact .inr (XZ (HI e))
   ·by_cases e:ins b high s c=true
    ·rw[if_pos e] at h
     rw[List.mem_singleton.1 h]
     exact .inl ⟨by simp,e⟩
    ·rw[if_neg e] at h; cases h
  ·rcases V9 l c p h with h | h
   ·exact .inl ⟨List.mem_cons_of_mem _ h.1,h.2⟩
   ·exact .inr h
theorem AO3 {E:Q2→Q2→Rat} (h:Val E) {b:Bool} {s t:Rat} (hst:s≤t) (l:List Q2):sumE E (clipQ b true t (clipQ b false s l))=0:=by
 refine AD7 h (b:=b) (s:=t) fun p hp=>?_
 rcases V9 _ _ p hp with ⟨h1,h2⟩ | h1
 ·have h3:=Hy _ _ p h1
  rw[Ub] at h3
  rw[Af2] at h2
  have h3:=of_decide_eq_true h3
  have h2:=of_decide_eq_true h2
  grind
 ·exact h1
theorem Wi {E:Q2→Q2→Rat} (h:Val E) {b:Bool} {s t:Rat} (hst:s≤t) (l:List Q2):sumE E (clipQ b true t (clipQ b true s l))=sumE E (clipQ b true t l):=by
 have h1:=TA (Gt h (b:=b) (high:=true) (s:=t)) b s l
 rw[←Cy h,←Cy h,←Cy h,AO3 h hst] at h1
 grind
def boxQ (lo hi:Q2) (l:List Q2):List Q2:=clipQ true false hi.2 (clipQ true true lo.2 (clipQ false false hi.1 (clipQ false true lo.1 l)))
theorem Az1 (lo hi:Q2) (mid:Rat) (h1:lo.1≤mid) (h2:mid≤hi.1) (l:List Q2):area2 (boxQ lo (mid,hi.2) l) + area2 (boxQ (mid,lo.2) hi l)=area2 (boxQ lo hi l):=by
 have hW:Val (pieceE (pieceE crs true false hi.2) true true lo.2):=Gt (Gt IP)
 have key:∀ m:List Q2,area2 (clipQ true false hi.2 (clipQ true true lo.2 m))=sumE (pieceE (pieceE crs true false hi.2) true true lo.2) m:=by
  intro m
  rw[Ay9,Cy IP,Cy (Gt IP)]
 unfold boxQ
 simp only
 rw[key,key,key]
 generalize pieceE (pieceE crs true false hi.2) true true lo.2=W at hW
 have hU:Val (pieceE W false false hi.1):=Gt hW
 have s1:=TA hU false mid (clipQ false true lo.1 l)
 rw[Wi hU h1] at s1
 have s2:sumE (pieceE W false false hi.1) (clipQ false false mid (clipQ false true lo.1 l))=sumE W (clipQ false false mid (clipQ false true lo.1 l)):=by
  rw[←Cy hW]
  rw[Aq3 (b:=false) (high:=false) (s:=hi.1) (fun p hp=>by
   have h3:=Hy _ _ p hp
   rw[Ub] at h3 ⊢
   exact decide_eq_true (Rat.le_trans (of_decide_eq_true h3) h2))]
 rw[s2,←Cy hW,←Cy hW] at s1
 exact s1
end Go.Proofs.YthipdlhknbhiiaaGreat.Ev

end
section
namespace Go.Proofs.YthipdlhknbhiiaaGreat.Ev
open Go
theorem S1K:Sz 1 (1:Rat):=by have:=Tk (z:=1) (AO6 (k:=1) (by omega)) (by omega); exact this
def SzN (K:Nat) (ps:List Q2):Prop:=ps.length≤1000∧∀ p∈ps,SzP K p
theorem Lx {K:Nat} (hK:K≤2972) {p:Q2} {s:Rat} (hp:SzP K p) (hs:Sz K s) (b high:Bool):D3 high b (rqF s) (fl (rp p))=some (high,(b,(rqF s,ins b high s p))):=by
 have hc:=C8 hp b
 unfold D3
 simp only[rq_e,peta]
 cases high with
 | true =>
  simp only[cT]
  rw[RP,obs,D2 (k:=K) (by omega) hc hs,obs,Af2]
  have:(!decide (crd b p<s))=decide (s≤crd b p):=by
   rw[Bool.eq_iff_iff]; simp[Rat.not_lt]
  rw[this]
 | false =>
  simp only[cF]
  rw[RP,obs,D2 (k:=K) (by omega) hs hc,obs,Ub]
  have:(!decide (s<crd b p))=decide (crd b p≤s):=by
   rw[Bool.eq_iff_iff]; simp[Rat.not_lt]
  rw[this]
section
variable {K:Nat} (hK:K≤2972) {a c:Q2} {t:Rat} (ha:SzP K a) (hc:SzP K c) (ht:Sz (4*K + 2) t)
include hK ha hc ht
theorem AQ6:Ov (fl (rp a)) (fl (rp c)) (rqF t)=some (fl (rp (mixQ a c t))):=by
 have h1:Sz (4*K + 4) (1-t):=(GM S1K ht).mono (by omega)
 have m1:∀ x:Rat,Sz K x→Sz (5*K + 4) ((1-t)*x):=fun x hx=>(HS h1 hx).mono (by omega)
 have m2:∀ x:Rat,Sz K x→Sz (5*K + 4) (t*x):=fun x hx=>(HS ht hx).mono (by omega)
 unfold Ov
 simp only[rq_e,peta,fl_x,fl_y,F7,F6]
 rw[Ay8,obs]
 try simp only[rq_e]
 rw[LK (k:=4*K + 2) (by omega) (S1K.mono (by omega)) ht,obs]
 try simp only[rq_e]
 rw[Gp (k:=4*K + 4) (by omega) h1 (ha.1.mono (by omega)),obs,Gp (k:=4*K + 4) (by omega) (ht.mono (by omega)) (hc.1.mono (by omega)),obs]
 try simp only[rq_e]
 rw[H0 (k:=5*K + 4) (by omega) (m1 _ ha.1) (m2 _ hc.1),obs,Gp (k:=4*K + 4) (by omega) h1 (ha.2.mono (by omega)),obs,Gp (k:=4*K + 4) (by omega) (ht.mono (by omega)) (hc.2.mono (by omega)),obs]
 try simp only[rq_e]
 rw[H0 (k:=5*K + 4) (by omega) (m1 _ ha.2) (m2 _ hc.2),obs]
 unfold mixQ
 rw[show a.1 + t*(c.1-a.1)=(1-t)*a.1 + t*c.1 by grind,show a.2 + t*(c.2-a.2)=(1-t)*a.2 + t*c.2 by grind]
 rfl
theorem AQ4:GH (fl (rp a)) (fl (rp c)) (rqF t)=some (fl (rp (mixQ a c t))):=by
 have key:∀ x y:Rat,Sz K x→Sz K y→Es (rqF x) (rqF y) (rqF t)=some (rqF (x + t*(y-x))):=by
  intro x y hx hy
  unfold Es
  simp only[rq_e]
  rw[RZ (k:=K) (by omega) hy hx,obs]
  try simp only[rq_e]
  have h1:Sz (4*K + 2) (y-x):=(GM hy hx).mono (by omega)
  rw[Yd (k:=4*K + 2) (by omega) ht h1,obs]
  try simp only[rq_e]
  rw[RY (k:=6*K + 3) (by omega) (hx.mono (by omega)) ((HS ht (GM hy hx)).mono (by omega)),obs]
 unfold GH
 simp only[rq_e,peta,fl_x,fl_y,F7,F6]
 rw[key _ _ ha.1 hc.1,obs,key _ _ ha.2 hc.2,obs]
 rfl
theorem AM1:SzP (7*K + 4) (mixQ a c t):=by
 have key:∀ x y:Rat,Sz K x→Sz K y→Sz (7*K + 4) (x + t*(y-x)):=fun x y hx hy=>(SO hx (HS ht (GM hy hx))).mono (by omega)
 exact ⟨key _ _ ha.1 hc.1,key _ _ ha.2 hc.2⟩
end
section
variable {K:Nat} (hK:K≤2972) {a c:Q2} {s:Rat} {b:Bool} (ha:SzP K a) (hc:SzP K c) (hs:Sz K s) (hne:crd b c≠crd b a)
include hK ha hc hs hne
theorem AB3:Sz (4*K + 2) ((s-crd b a)/(crd b c-crd b a)) :=
 (Ag2 (GM hs (C8 ha b)) (GM (C8 hc b) (C8 ha b)) (fun e=>hne (by grind))).mono (by omega)
theorem AM5:SzP (7*K + 4) (cutQ b s a c):=AM1 hK ha hc (AB3 hK ha hc hs hne)
theorem AG0:Df (rqF (s-crd b a)) (rqF (crd b c-crd b a))=some (rqF ((s-crd b a)/(crd b c-crd b a))) :=
 Vj (k:=2*K + 1) (by omega) ((GM hs (C8 ha b)).mono (by omega)) ((GM (C8 hc b) (C8 ha b)).mono (by omega)) (fun e=>hne (by grind))
theorem Ax3:G4 (fl (rp a)) (fl (rp c)) b (rqF s)=some (fl (rp (cutQ b s a c))):=by
 have hon:=XZ (s:=s) hne
 unfold G4
 simp only[rq_e,peta]
 rw[XY,obs]
 try simp only[rq_e]
 rw[RZ (k:=K) (by omega) hs (C8 ha b),obs,XY,obs]
 try simp only[rq_e]
 rw[RZ (k:=K) (by omega) (C8 hc b) (C8 ha b),obs]
 try simp only[rq_e]
 rw[Aq4 (k:=2*K + 1) (by omega) ((GM hs (C8 ha b)).mono (by omega)) ((GM (C8 hc b) (C8 ha b)).mono (by omega)) (fun e=>hne (by grind)),obs]
 try simp only[rq_e]
 rw[AQ4 hK ha hc (AB3 hK ha hc hs hne),obs,show mixQ a c ((s-crd b a)/(crd b c-crd b a))=cutQ b s a c from rfl]
 generalize cutQ b s a c=m at hon
 cases b with
 | true =>
  rw[cT]
  have:m.2=s:=hon
  rw[←this]
  rfl
 | false =>
  rw[cF]
  have:m.1=s:=hon
  rw[←this]
  rfl
end
theorem Am5 {K:Nat} (hK:K≤2972) {p:Q2} {s:Rat} (hp:SzP K p) (hs:Sz K s) (b high:Bool):∃ v,El (fl (rp p)) b (rqF s) high=some v∧decide (v≤0)=ins b high s p:=by
 have hc:=C8 hp b
 unfold El
 simp only[rq_e,peta]
 rw[XY,obs]
 try simp only[rq_e]
 rw[LG (k:=K) (by omega) hc hs,obs]
 have h1:=@Al1 (crd b p) s
 have h2:=@Lr (crd b p) s
 have hb : -1≤cmpQ (crd b p) s∧cmpQ (crd b p) s≤1:=by unfold cmpQ; split <;> (try split) <;> omega
 cases high with
 | true =>
  refine ⟨_,rfl,?_⟩
  rw[wrapI (by omega) (by omega),Af2]
  refine decide_eq_decide.2 ?_
  rw[←Rat.not_lt,←h1]
  omega
 | false =>
  refine ⟨_,rfl,?_⟩
  rw[Ub]
  refine decide_eq_decide.2 ?_
  rw[←Rat.not_lt,←h2]
  omega
section
variable {K:Nat} (hK:K≤2972) {ps:List Q2} {s:Rat} (hps:SzN K ps) (hs:Sz K s) (b high:Bool)
include hK hps hs
theorem W9:∀ (m k:Nat) (a:Q2) (out:List Q2),k + m=ps.length→(k<ps.length→ps[(k + ps.length-1)%ps.length]? = some a)→out.length≤2*k →
  loopM (fun (s:(Bool×(RF×(Bool×((List (RQ×RQ))×((List (RQ×RQ))×((List (RQ×RQ))×(Int×Int))))))))=>Dk s.1 s.2.1 s.2.2.1 s.2.2.2.1 s.2.2.2.2.1 s.2.2.2.2.2.1 s.2.2.2.2.2.2.1 s.2.2.2.2.2.2.2)
   (b,(rqF s,(high,(out.map rp,(ps.map rp,(ps.map rp,((ps.length:Int),(k:Int))))))))=some ((out++clipFrom b high s a (ps.drop k)).map rp):=by
 intro m
 induction m with
 | zero =>
  intro k a out hk _ _
  refine Am ?_
  show Dk b (rqF s) high (out.map rp) (ps.map rp) (ps.map rp) (ps.length:Int) (k:Int)=_
  unfold Dk
  rw[decide_eq_false (by omega),List.drop_eq_nil_of_le (by omega),clipFrom,List.append_nil]
  rfl
 | succ m ih =>
  intro k a out hk ha hout
  have h40:=hps.1
  have hlt:k<ps.length:=by omega
  have ha:=ha hlt
  have hd:ps.drop k=ps[k]::ps.drop (k + 1):=List.drop_eq_getElem_cons hlt
  have hg:ps[k]? = some ps[k]:=List.getElem?_eq_getElem hlt
  generalize ps[k]=c at hd hg
  have sa:=hps.2 a (List.mem_of_getElem? ha)
  have sc:=hps.2 c (List.mem_of_getElem? hg)
  have hgo:Dk b (rqF s) high (out.map rp) (ps.map rp) (ps.map rp) (ps.length:Int) (k:Int)=some (.inl (b,(rqF s,(high,((out++stepQ b high s a c).map rp,(ps.map rp,(ps.map rp,((ps.length:Int),((k + 1:Nat):Int))))))))):=by
   unfold Dk
   have hz:(((ps.length:Nat):Int)==0)=false:=beq_eq_false_iff_ne.2 (by omega)
   rw[decide_eq_true (by omega),cT,Fx hg,obs,List.length_map,hz,cF,Am7 hlt (by omega),Fx ha,obs]
   simp only[rq_e,peta,fl_e]
   rw[Lx hK sa hs,obs]
   simp only
   rw[Lx hK sc hs,obs]
   simp only
   unfold stepQ
   have ol:(out.map rp).length≤100000:=by rw[List.length_map]; omega
   by_cases hne:ins b high s a=ins b high s c
   ·rw[show (ins b high s a==ins b high s c)=true from beq_iff_eq.2 hne,nT,cF,obs,sEr,if_pos hne]
    simp only[rq_e,peta]
    rw[Lx hK sc hs,obs]
    simp only
    cases hi:ins b high s c with
    | true =>
     rw[cT,un_e,Qq,appP ol,obs,wrap1 (by omega)]
     simp
    | false =>
     rw[cF,wrap1 (by omega)]
     simp
   ·have hcut:=HI hne
    rw[show (ins b high s a==ins b high s c)=false from beq_eq_false_iff_ne.2 hne,nF,cT,RP,obs]
    try simp only[rq_e]
    rw[LK (k:=K) (by omega) hs (C8 sa b),obs,RP,obs,obs]
    try simp only[rq_e]
    rw[LK (k:=K) (by omega) (C8 sc b) (C8 sa b),obs]
    try simp only[rq_e]
    rw[AG0 hK sa sc hs hcut,obs]
    try simp only[rq_e]
    rw[AQ6 hK sa sc (AB3 hK sa sc hs hcut),obs,show mixQ a c ((s-crd b a)/(crd b c-crd b a))=cutQ b s a c from rfl,un_e,Qq,appP ol,obs,obs,sEr,if_neg hne]
    simp only[rq_e,peta]
    rw[Lx hK sc hs,obs]
    simp only
    cases hi:ins b high s c with
    | true =>
     rw[cT,un_e,Qq,appP (by simp; omega),obs,wrap1 (by omega)]
     simp
    | false =>
     rw[cF,wrap1 (by omega)]
     simp
  refine (AH (f:=fun (s:(Bool×(RF×(Bool×((List (RQ×RQ))×((List (RQ×RQ))×((List (RQ×RQ))×(Int×Int))))))))=>Dk s.1 s.2.1 s.2.2.1 s.2.2.2.1 s.2.2.2.2.1 s.2.2.2.2.2.1 s.2.2.2.2.2.2.1 s.2.2.2.2.2.2.2)
   (s:=(b,(rqF s,(high,(out.map rp,(ps.map rp,(ps.map rp,((ps.length:Int),(k:Int))))))))) hgo).trans ?_
  have hst:=TI b high s a c
  rw[ih (k + 1) c (out++stepQ b high s a c) (by omega) (fun h=>by rw[V3 hlt]; exact hg) (by rw[List.length_append]; omega),hd,clipFrom,List.append_assoc]
theorem Xl:∀ (m k:Nat) (a:Q2) (out:List Q2),k + m=ps.length→(k<ps.length→ps[(k + ps.length-1)%ps.length]? = some a)→out.length≤2*k →
  loopM (fun (s:(RF×((List (RQ×RQ))×((List (RQ×RQ))×(Bool×(Bool×((List (RQ×RQ))×(Int×Int))))))))=>BH s.1 s.2.1 s.2.2.1 s.2.2.2.1 s.2.2.2.2.1 s.2.2.2.2.2.1 s.2.2.2.2.2.2.1 s.2.2.2.2.2.2.2)
   (rqF s,(out.map rp,(ps.map rp,(b,(high,(ps.map rp,((ps.length:Int),(k:Int))))))))=some ((out++clipFrom b high s a (ps.drop k)).map rp):=by
 intro m
 induction m with
 | zero =>
  intro k a out hk _ _
  refine Am ?_
  show BH (rqF s) (out.map rp) (ps.map rp) b high (ps.map rp) (ps.length:Int) (k:Int)=_
  unfold BH
  rw[decide_eq_false (by omega),List.drop_eq_nil_of_le (by omega),clipFrom,List.append_nil]
  rfl
 | succ m ih =>
  intro k a out hk ha hout
  have h40:=hps.1
  have hlt:k<ps.length:=by omega
  have ha:=ha hlt
  have hd:ps.drop k=ps[k]::ps.drop (k + 1):=List.drop_eq_getElem_cons hlt
  have hg:ps[k]? = some ps[k]:=List.getElem?_eq_getElem hlt
  generalize ps[k]=c at hd hg
  have sa:=hps.2 a (List.mem_of_getElem? ha)
  have sc:=hps.2 c (List.mem_of_getElem? hg)
  have hgo:BH (rqF s) (out.map rp) (ps.map rp) b high (ps.map rp) (ps.length:Int) (k:Int)=some (.inl (rqF s,((out++stepQ b high s a c).map rp,(ps.map rp,(b,(high,(ps.map rp,((ps.length:Int),((k + 1:Nat):Int))))))))):=by
   unfold BH
   have hz:(((ps.length:Nat):Int)==0)=false:=beq_eq_false_iff_ne.2 (by omega)
   obtain ⟨v,v1,v2⟩:=Am5 hK sa hs b high
   obtain ⟨w,w1,w2⟩:=Am5 hK sc hs b high
   rw[decide_eq_true (by omega),cT,Fx hg,obs,List.length_map,hz,cF,Am7 hlt (by omega),Fx ha,obs]
   simp only[rq_e,peta,fl_e]
   rw[v1,obs,w1,obs,v2,w2]
   unfold stepQ
   have ol:(out.map rp).length≤100000:=by rw[List.length_map]; omega
   by_cases hne:ins b high s a=ins b high s c
   ·rw[show (ins b high s a==ins b high s c)=true from beq_iff_eq.2 hne,nT,cF,if_pos hne]
    cases hi:ins b high s c with
    | true =>
     rw[cT,appP ol,obs,wrap1 (by omega)]
     simp
    | false =>
     rw[cF,wrap1 (by omega)]
     simp
   ·have hcut:=HI hne
    rw[show (ins b high s a==ins b high s c)=false from beq_eq_false_iff_ne.2 hne,nF,cT,Ax3 hK sa sc hs hcut,obs,un_e,Qq,appP ol,obs,if_neg hne]
    cases hi:ins b high s c with
    | true =>
     rw[cT,appP (by simp; omega),obs,wrap1 (by omega)]
     simp
    | false =>
     rw[cF,wrap1 (by omega)]
     simp
  refine (AH (f:=fun (s:(RF×((List (RQ×RQ))×((List (RQ×RQ))×(Bool×(Bool×((List (RQ×RQ))×(Int×Int))))))))=>BH s.1 s.2.1 s.2.2.1 s.2.2.2.1 s.2.2.2.2.1 s.2.2.2.2.2.1 s.2.2.2.2.2.2.1 s.2.2.2.2.2.2.2)
   (s:=(rqF s,(out.map rp,(ps.map rp,(b,(high,(ps.map rp,((ps.length:Int),(k:Int))))))))) hgo).trans ?_
  have hst:=TI b high s a c
  rw[ih (k + 1) c (out++stepQ b high s a c) (by omega) (fun h=>by rw[V3 hlt]; exact hg) (by rw[List.length_append]; omega),hd,clipFrom,List.append_assoc]
theorem Zm (h : 0<ps.length):ps[(0 + ps.length-1)%ps.length]? = some (lastQ ps):=by
 rw[Nat.zero_add,Nat.mod_eq_of_lt (by omega),←List.getLast?_eq_getElem?]
 unfold lastQ
 cases hl:ps.getLast? with
 | none=>rw[List.getLast?_eq_none_iff.1 hl] at h; simp at h
 | some x=>rfl
theorem R1:FS (ps.map rp) b high (rqF s)=some ((clipQ b high s ps).map rp):=by
 have h:=W9 hK hps hs b high ps.length 0 (lastQ ps) [] (by omega) (fun h=>Zm hK hps hs h) (by simp)
 rw[List.drop_zero,List.nil_append] at h
 have h':loopM (fun (s:(Bool×(RF×(Bool×((List (RQ×RQ))×((List (RQ×RQ))×((List (RQ×RQ))×(Int×Int))))))))=>Dk s.1 s.2.1 s.2.2.1 s.2.2.2.1 s.2.2.2.2.1 s.2.2.2.2.2.1 s.2.2.2.2.2.2.1 s.2.2.2.2.2.2.2)
   (b,(rqF s,(high,((List.nil:List RPt),(ps.map rp,(ps.map rp,((ps.length:Int),(0:Int))))))))=_:=h
 unfold FS
 simp only[rq_e,peta]
 rw[List.length_map,h',obs]
 rfl
theorem IH:CB (ps.map rp) b (rqF s) high=some ((clipQ b high s ps).map rp):=by
 have h:=Xl hK hps hs b high ps.length 0 (lastQ ps) [] (by omega) (fun h=>Zm hK hps hs h) (by simp)
 rw[List.drop_zero,List.nil_append] at h
 have h':loopM (fun (s:(RF×((List (RQ×RQ))×((List (RQ×RQ))×(Bool×(Bool×((List (RQ×RQ))×(Int×Int))))))))=>BH s.1 s.2.1 s.2.2.1 s.2.2.2.1 s.2.2.2.2.1 s.2.2.2.2.2.1 s.2.2.2.2.2.2.1 s.2.2.2.2.2.2.2)
   (rqF s,((List.nil:List RPt),(ps.map rp,(b,(high,(ps.map rp,((ps.length:Int),(0:Int))))))))=_:=h
 unfold CB
 simp only[rq_e,peta]
 rw[List.length_map,h',obs]
 rfl
theorem Ot:(clipQ b high s ps).length≤2*ps.length∧∀ p∈clipQ b high s ps,SzP (7*K + 4) p:=by
 have h40:=hps.1
 have h2:=hps.2
 have key:∀ (l:List Q2) (a:Q2),SzP K a→(∀ p∈l,SzP K p)→(clipFrom b high s a l).length≤2*l.length∧∀ p∈clipFrom b high s a l,SzP (7*K + 4) p:=by
  intro l
  induction l with
  | nil=>intro a _ _; exact ⟨by simp[clipFrom],fun p hp=>by simp[clipFrom] at hp⟩
  | cons c l ih =>
   intro a ha hl
   have hc:=hl c (by simp)
   obtain ⟨i1,i2⟩:=ih c hc (fun p hp=>hl p (List.mem_cons_of_mem _ hp))
   have hst:=TI b high s a c
   rw[clipFrom]
   refine ⟨by rw[List.length_append,List.length_cons]; omega,fun p hp=>?_⟩
   rcases List.mem_append.1 hp with hp | hp
   ·unfold stepQ at hp
    rcases List.mem_append.1 hp with hp | hp
    ·by_cases e:ins b high s a=ins b high s c
     ·rw[if_pos e] at hp; cases hp
     ·rw[if_neg e] at hp
      rw[List.mem_singleton.1 hp]
      exact AM5 hK ha hc hs (HI e)
    ·by_cases e:ins b high s c=true
     ·rw[if_pos e] at hp
      rw[List.mem_singleton.1 hp]
      exact hc.mono (by omega)
     ·rw[if_neg e] at hp; cases hp
   ·exact i2 p hp
 by_cases hn:ps = []
 ·unfold clipQ
  rw[hn]
  exact ⟨by simp[clipFrom],fun p hp=>by simp[clipFrom] at hp⟩
 ·obtain ⟨k1,k2⟩:=key ps (lastQ ps) (h2 _ (PR hn)) h2
  exact ⟨k1,k2⟩
end
end Go.Proofs.YthipdlhknbhiiaaGreat.Ev

end
section
namespace Go.Proofs.YthipdlhknbhiiaaGreat.Ev
open Go
theorem fl_p (p:Q2):((fl (rp p)).1,((fl (rp p)).2.1,((fl (rp p)).2.2.1,((fl (rp p)).2.2.2.1,rqF p.2))))=fl (rp p):=(rfl)
section
variable {ps:List Q2} {lo hi:Q2} (hps:SzR ps) (hlo:SzP 2 lo) (hhi:SzP 2 hi)
include hps hlo hhi
theorem LN:SzN 8 ps∧SzN 60 (clipQ false true lo.1 ps)∧SzN 424 (clipQ false false hi.1 (clipQ false true lo.1 ps))∧SzN 2972 (clipQ true true lo.2 (clipQ false false hi.1 (clipQ false true lo.1 ps))) ∧
  ((boxQ lo hi ps).length≤640∧∀ p∈boxQ lo hi ps,SzP 20808 p):=by
 have h40:=hps.1
 have s0:SzN 8 ps:=⟨by omega,hps.2⟩
 obtain ⟨l1,z1⟩:=Ot (K:=8) (by omega) s0 (hlo.1.mono (by omega)) false true
 have s1:SzN 60 (clipQ false true lo.1 ps):=⟨by omega,fun p hp=>(z1 p hp).mono (by omega)⟩
 obtain ⟨l2,z2⟩:=Ot (K:=60) (by omega) s1 (hhi.1.mono (by omega)) false false
 have s2:SzN 424 (clipQ false false hi.1 (clipQ false true lo.1 ps)):=⟨by omega,fun p hp=>(z2 p hp).mono (by omega)⟩
 obtain ⟨l3,z3⟩:=Ot (K:=424) (by omega) s2 (hlo.2.mono (by omega)) true true
 have s3:SzN 2972 (clipQ true true lo.2 (clipQ false false hi.1 (clipQ false true lo.1 ps))):=⟨by omega,fun p hp=>(z3 p hp).mono (by omega)⟩
 obtain ⟨l4,z4⟩:=Ot (K:=2972) (by omega) s3 (hhi.2.mono (by omega)) true false
 refine ⟨s0,s1,s2,s3,?_,fun p hp=>(z4 p hp).mono (by omega)⟩
 unfold boxQ
 omega
theorem Ax2:FD (ps.map rp) (fl (rp lo)) (fl (rp hi))=some ((boxQ lo hi ps).map rp):=by
 obtain ⟨s0,s1,s2,s3,_⟩:=LN hps hlo hhi
 unfold FD
 simp only[rq_e,peta,fl_x,fl_y,F7,F6,fl_p]
 rw[R1 (K:=8) (by omega) s0 (hlo.1.mono (by omega)),obs,R1 (K:=60) (by omega) s1 (hhi.1.mono (by omega)),obs,R1 (K:=424) (by omega) s2 (hlo.2.mono (by omega)),obs,R1 (K:=2972) (by omega) s3 (hhi.2.mono (by omega)),obs]
 rfl
theorem AD9:GN (ps.map rp) (fl (rp lo)) (fl (rp hi))=some ((boxQ lo hi ps).map rp):=by
 obtain ⟨s0,s1,s2,s3,_⟩:=LN hps hlo hhi
 unfold GN
 simp only[rq_e,peta,fl_x,fl_y,F7,F6,fl_p]
 rw[IH (K:=8) (by omega) s0 (hlo.1.mono (by omega)),obs,IH (K:=60) (by omega) s1 (hhi.1.mono (by omega)),obs,IH (K:=424) (by omega) s2 (hlo.2.mono (by omega)),obs,IH (K:=2972) (by omega) s3 (hhi.2.mono (by omega)),obs]
 rfl
end
def good2 (x:RPt):Bool:=(goodQ x.1&&goodQ x.2)&&(shQ 2 (fx x)&&shQ 2 (fy x))
theorem Gq {x:RPt}:good2 x=true↔∃ p,SzP 2 p∧x=rp p:=by
 constructor
 ·intro h
  unfold good2 at h
  simp only[Bool.and_eq_true] at h
  obtain ⟨⟨h1,h2⟩,h3,h4⟩:=h
  obtain ⟨a,ha,e1⟩:=Gv.1 h1
  obtain ⟨c,hc,e2⟩:=Gv.1 h2
  have exy:x=(rq a,rq c):=by rw[←e1,←e2]
  have ex:fx x=rqF a:=by rw[exy]; rfl
  have ey:fy x=rqF c:=by rw[exy]; rfl
  rw[ex,Qm (by omega)] at h3
  rw[ey,Qm (by omega)] at h4
  exact ⟨(a,c),⟨of_decide_eq_true h3,of_decide_eq_true h4⟩,by unfold rp; rw[←e1,←e2]⟩
 ·rintro ⟨p,hp,rfl⟩
  unfold good2
  rw[F7,F6,Qm (by omega),Qm (by omega),decide_eq_true hp.1,decide_eq_true hp.2,Bool.and_true,Bool.and_true,Bool.and_eq_true]
  exact ⟨Kx (hp.1.mono (by omega)),Kx (hp.2.mono (by omega))⟩
theorem EL {x:RPt} (h:BrP x):Dx (fl x) 2=some (good2 x):=by
 have hl:CJ [x.1,x.2]=some (goodQ x.1&&goodQ x.2):=by
  rw[LJ (by simp) (by
   intro a ha
   simp at ha
   rcases ha with rfl | rfl
   ·exact h.1
   ·exact h.2)]
  simp
 have e:((((fl x).1,(fl x).2.1),((fl x).2.2.1,(fl x).2.2.2.1)):RQ)=x.1:=rfl
 have e':((((fl x).2.2.2.2.1,(fl x).2.2.2.2.2.1),(fl x).2.2.2.2.2.2):RQ)=x.2:=rfl
 unfold Dx good2
 simp only[peta]
 rw[e,e',hl,obs]
 have s1:=Jc (fx x) 2
 have s2:=Jc (fy x) 2
 rw[show ((2:Nat):Int)=2 from rfl] at s1 s2
 cases hg:goodQ x.1&&goodQ x.2 with
 | false=>rfl
 | true =>
  rw[cT]
  try simp only[fl_x,fl_y]
  rw[s1,obs,Bool.true_and]
  cases shQ 2 (fx x) with
  | false=>rfl
  | true=>rw[cT,s2,obs,Bool.true_and]
theorem Ge {x:RPt} (h:BrP x):Gr (fl x)=some (good2 x):=by
 unfold Gr good2
 simp only[peta,fl_x,fl_y]
 rw[T0 h.1,obs,Ad0]
 cases h1:goodQ x.1 with
 | false=>rw[Bool.false_and,cF,Bool.false_and,Bool.false_and]
 | true =>
  cases h2:shQ 2 (fx x) with
  | false=>rw[Bool.and_false,cF,Bool.false_and,Bool.and_false]
  | true=>rw[Bool.and_true,cT,T0 h.2,obs,Ac6,Bool.true_and,Bool.true_and]
section
variable {ps:List Q2} {lo hi:Q2} (hps:SzR ps) (hlo:SzP 2 lo) (hhi:SzP 2 hi) (hx:lo.1≤hi.1) (hy:lo.2≤hi.2)
include hps hlo hhi hx hy
theorem At1:AU (ps.map rp) (fl (rp lo)) (fl (rp hi))=some (outR (boxQ lo hi ps)):=by
 have hp:=hps.1
 obtain ⟨_,_,_,_,c1,c2⟩:=LN hps hlo hhi
 unfold AU
 simp only[rq_e,peta,fl_x,fl_y,F7,F6,fl_p]
 rw[A2 (by simp; omega) (Px (k:=8) (by omega) hps.2),obs,Ed.2 hps,nT,cF,EL (Nt (k:=2) (by omega) hlo),obs,Gq.2 ⟨lo,hlo,rfl⟩,nT,cF,EL (Nt (k:=2) (by omega) hhi),obs,Gq.2 ⟨hi,hhi,rfl⟩,nT,cF,
  D2 (k:=2) (by omega) hhi.1 hlo.1,obs,decide_eq_false (Rat.not_lt.2 hx),cF,D2 (k:=2) (by omega) hhi.2 hlo.2,obs,decide_eq_false (Rat.not_lt.2 hy),cF,Ax2 hps hlo hhi,obs,Vi (k:=20808) (by omega) (by omega) c2,obs]
theorem Ay0:A9 (ps.map rp) (fl (rp lo)) (fl (rp hi))=some (outR (boxQ lo hi ps)):=by
 have hp:=hps.1
 obtain ⟨_,_,_,_,c1,c2⟩:=LN hps hlo hhi
 have nx:¬cmpQ lo.1 hi.1>0:=fun h=>Rat.not_lt.2 hx (Lr.1 h)
 have ny:¬cmpQ lo.2 hi.2>0:=fun h=>Rat.not_lt.2 hy (Lr.1 h)
 unfold A9
 simp only[rq_e,peta,fl_x,fl_y,F7,F6,fl_p]
 rw[Eb (by simp; omega) (Px (k:=8) (by omega) hps.2),obs,Ed.2 hps,nT,cF,Ge (Nt (k:=2) (by omega) hlo),obs,Gq.2 ⟨lo,hlo,rfl⟩,nT,cF,Ge (Nt (k:=2) (by omega) hhi),obs,Gq.2 ⟨hi,hhi,rfl⟩,nT,cF,
  LG (k:=2) (by omega) hlo.1 hhi.1,obs,decide_eq_false nx,cF,LG (k:=2) (by omega) hlo.2 hhi.2,obs,decide_eq_false ny,cF,AD9 hps hlo hhi,obs,Ay6 (k:=20808) (by omega) (by omega) c2,obs]
end
theorem AB2 {m:List Q2} (h:(outR m).2=true):SzR m∧outR m=(m.map rp,true):=by
 unfold outR at h ⊢
 by_cases hg:goodR (m.map rp)=true
 ·rw[if_pos hg]; exact ⟨Ed.1 hg,rfl⟩
 ·rw[if_neg hg] at h; cases h
theorem Az4 {m:List Q2} (h:(outR m).2=false):(outR m).1 = []:=by
 unfold outR at h ⊢
 by_cases hg:goodR (m.map rp)=true
 ·rw[if_pos hg] at h; cases h
 ·rw[if_neg hg]
theorem Te {l:List RPt} {a c:RPt} (hl:l.length≤1000) (hb:∀ x∈l,BrP x) (ha:BrP a) (hc:BrP c):∃ f,AU l (fl a) (fl c)=some f∧A9 l (fl a) (fl c)=some f∧(f.2=false→f.1 = []) ∧
  (f.2=true→∃ ps lo hi,SzR ps∧SzP 2 lo∧SzP 2 hi∧lo.1≤hi.1∧lo.2≤hi.2∧l=ps.map rp∧a=rp lo∧c=rp hi∧SzR (boxQ lo hi ps)∧f=((boxQ lo hi ps).map rp,true)):=by
 have bad:AU l (fl a) (fl c)=some ([],false)→A9 l (fl a) (fl c)=some ([],false)→∃ f,AU l (fl a) (fl c)=some f∧A9 l (fl a) (fl c)=some f∧(f.2=false→f.1 = []) ∧
  (f.2=true→∃ ps lo hi,SzR ps∧SzP 2 lo∧SzP 2 hi∧lo.1≤hi.1∧lo.2≤hi.2∧l=ps.map rp∧a=rp lo∧c=rp hi∧SzR (boxQ lo hi ps)∧f=((boxQ lo hi ps).map rp,true)) :=
  fun h1 h2=>⟨_,h1,h2,fun _=>rfl,fun h=>by cases h⟩
 cases hg:goodR l with
 | false =>
  refine bad ?_ ?_
  ·unfold AU
   rw[A2 (by omega) hb,obs,hg,nF,cT]
  ·unfold A9
   rw[Eb (by omega) hb,obs,hg,nF,cT]
 | true =>
  cases g1:good2 a with
  | false =>
   refine bad ?_ ?_
   ·unfold AU
    simp only[rq_e,peta]
    rw[A2 (by omega) hb,obs,hg,nT,cF,EL ha,obs,g1,nF,cT]
   ·unfold A9
    simp only[rq_e,peta]
    rw[Eb (by omega) hb,obs,hg,nT,cF,Ge ha,obs,g1,nF,cT]
  | true =>
   cases g2:good2 c with
   | false =>
    refine bad ?_ ?_
    ·unfold AU
     simp only[rq_e,peta]
     rw[A2 (by omega) hb,obs,hg,nT,cF,EL ha,obs,g1,nT,cF,EL hc,obs,g2,nF,cT]
    ·unfold A9
     simp only[rq_e,peta]
     rw[Eb (by omega) hb,obs,hg,nT,cF,Ge ha,obs,g1,nT,cF,Ge hc,obs,g2,nF,cT]
   | true =>
    obtain ⟨ps,hps,el⟩:=PO.1 hg
    obtain ⟨lo,hlo,ea⟩:=Gq.1 g1
    obtain ⟨hi,hhi,ec⟩:=Gq.1 g2
    by_cases hx:lo.1≤hi.1
    ·by_cases hy:lo.2≤hi.2
     ·have q1:=At1 hps hlo hhi hx hy
      have q2:=Ay0 hps hlo hhi hx hy
      rw[←el,←ea,←ec] at q1 q2
      refine ⟨_,q1,q2,Az4,fun h=>?_⟩
      obtain ⟨o1,o2⟩:=AB2 h
      exact ⟨ps,lo,hi,hps,hlo,hhi,hx,hy,el,ea,ec,o1,o2⟩
     ·have hy':=Rat.not_le.1 hy
      refine bad ?_ ?_
      ·unfold AU
       simp only[rq_e,peta]
       rw[A2 (by omega) hb,obs,hg,nT,cF,EL ha,obs,g1,nT,cF,EL hc,obs,g2,nT,cF,ea,ec]
       simp only[rq_e,peta,fl_x,fl_y,F7,F6,fl_p]
       rw[D2 (k:=2) (by omega) hhi.1 hlo.1,obs,decide_eq_false (Rat.not_lt.2 hx),cF,D2 (k:=2) (by omega) hhi.2 hlo.2,obs,decide_eq_true hy',cT]
      ·unfold A9
       simp only[rq_e,peta]
       rw[Eb (by omega) hb,obs,hg,nT,cF,Ge ha,obs,g1,nT,cF,Ge hc,obs,g2,nT,cF,ea,ec]
       simp only[rq_e,peta,fl_x,fl_y,F7,F6,fl_p]
       have nx:¬cmpQ lo.1 hi.1>0:=fun h=>Rat.not_lt.2 hx (Lr.1 h)
       rw[LG (k:=2) (by omega) hlo.1 hhi.1,obs,decide_eq_false nx,cF,LG (k:=2) (by omega) hlo.2 hhi.2,obs,decide_eq_true (Lr.2 hy'),cT]
    ·have hx':=Rat.not_le.1 hx
     refine bad ?_ ?_
     ·unfold AU
      simp only[rq_e,peta]
      rw[A2 (by omega) hb,obs,hg,nT,cF,EL ha,obs,g1,nT,cF,EL hc,obs,g2,nT,cF,ea,ec]
      simp only[rq_e,peta,fl_x,fl_y,F7,F6,fl_p]
      rw[D2 (k:=2) (by omega) hhi.1 hlo.1,obs,decide_eq_true hx',cT]
     ·unfold A9
      simp only[rq_e,peta]
      rw[Eb (by omega) hb,obs,hg,nT,cF,Ge ha,obs,g1,nT,cF,Ge hc,obs,g2,nT,cF,ea,ec]
      simp only[rq_e,peta,fl_x,fl_y,F7,F6,fl_p]
      rw[LG (k:=2) (by omega) hlo.1 hhi.1,obs,decide_eq_true (Lr.2 hx'),cT]
end Go.Proofs.YthipdlhknbhiiaaGreat.Ev

end
section
namespace Go.Proofs.YthipdlhknbhiiaaGreat.Ev
open Go
section
variable {α β:Type}
end
section
variable {α:Type}
end
end Go.Proofs.YthipdlhknbhiiaaGreat.Ev

end
section
namespace Go.Proofs.YthipdlhknbhiiaaGreat.Ev
open Go
abbrev P2:=Int×Int
def within (a b c:Int):Bool:=decide (b≤a)&&decide (a≤c)
theorem Di (a b c:Int):A3 a b c=some (within a b c):=by
 unfold A3 within
 by_cases h:a≥b <;> simp[h]
theorem Ja (a b c:Int):BB a b c=some (within a b c):=by
 unfold BB within
 by_cases h:a≥b <;> simp[h]
theorem Dg {a b c:Int}:within a b c=true↔b≤a∧a≤c:=by simp[within]
def goodPt (p:P2):Bool:=within p.1 (-1000) 1000&&within p.2 (-1000) 1000
section
variable {a b c d p:P2} (ha:goodPt a=true) (hb:goodPt b=true) (hc:goodPt c=true) (hd:goodPt d=true) (hp:goodPt p=true)
include ha hb hc
end
end Go.Proofs.YthipdlhknbhiiaaGreat.Ev

end
section
namespace Go.Proofs.YthipdlhknbhiiaaGreat.Ev
open Go
end Go.Proofs.YthipdlhknbhiiaaGreat.Ev

end
section
namespace Go.Proofs.YthipdlhknbhiiaaGreat.Ev
open Go
def ptQ (p:Int×Int):Q2:=((p.1:Rat),(p.2:Rat))
theorem ZI {n:Int} (h1 : -100000≤n) (h2:n≤100000):Sz 2 (n:Rat):=Tk (by have:B 2=4294967296:=rfl; omega) (by omega)
def SmP (p:Int×Int):Prop:=(-100000≤p.1∧p.1≤100000)∧(-100000≤p.2∧p.2≤100000)
theorem GP.sm {p:Int×Int} (h:GP p):SmP p:=by
 obtain ⟨a,b,c,d⟩:=h
 unfold SmP
 omega
theorem Y7 {p:Int×Int} (h:SmP p):Dp p=some (fl (rp (ptQ p))):=by
 obtain ⟨⟨h1,h2⟩,h3,h4⟩:=h
 unfold Dp
 try simp only
 rw[Ly (by omega) (by omega),obs,Ly (by omega) (by omega),obs]
 rfl
end Go.Proofs.YthipdlhknbhiiaaGreat.Ev

end
section
namespace Go.Proofs.YthipdlhknbhiiaaGreat.Ev
open Go
theorem Ac5 (lo hi:Q2) (mid:Rat) (h1:lo.2≤mid) (h2:mid≤hi.2) (l:List Q2):area2 (boxQ lo (hi.1,mid) l) + area2 (boxQ (lo.1,mid) hi l)=area2 (boxQ lo hi l):=by
 unfold boxQ
 simp only
 generalize clipQ false false hi.1 (clipQ false true lo.1 l)=m
 have hU:Val (pieceE crs true false hi.2):=Gt IP
 have s1:=TA hU true mid (clipQ true true lo.2 m)
 rw[Wi hU h1] at s1
 have s2:sumE (pieceE crs true false hi.2) (clipQ true false mid (clipQ true true lo.2 m))=sumE crs (clipQ true false mid (clipQ true true lo.2 m)):=by
  rw[←Cy IP]
  rw[Aq3 (b:=true) (high:=false) (s:=hi.2) (fun p hp=>by
   have h3:=Hy _ _ p hp
   rw[Ub] at h3 ⊢
   exact decide_eq_true (Rat.le_trans (of_decide_eq_true h3) h2))]
 rw[s2,←Cy IP,←Cy IP] at s1
 exact s1
def sumQ:List Rat→Rat
 | []=>0
 | a::l=>a + sumQ l
theorem Kp:∀ l m:List Rat,sumQ (l++m)=sumQ l + sumQ m
 | [],m=>by simp only[List.nil_append,sumQ]; grind
 | a::l,m=>by simp only[List.cons_append,sumQ,Kp l m]; grind
def cornerQ (x y:Int):Q2:=((x:Rat),(y:Rat))
def sqA (ps:List Q2) (x y:Int):Rat:=area2 (boxQ (cornerQ x y) (cornerQ (x + 1) (y + 1)) ps)
theorem R2 {a b:Int} (h:a≤b):(a:Rat)≤(b:Rat):=Rat.intCast_le_intCast.2 h
def rowQ (ps:List Q2) (y:Int):Nat→Int→List Rat
 | 0,_=>[]
 | n + 1,x=>sqA ps x y::rowQ ps y n (x + 1)
def winQ (ps:List Q2) (w:Nat) (x:Int):Nat→Int→List Rat
 | 0,_=>[]
 | n + 1,y=>rowQ ps y w x++winQ ps w x n (y + 1)
theorem Pn (ps:List Q2) (y:Int):∀ (n:Nat) (x:Int),sumQ (rowQ ps y (n + 1) x)=area2 (boxQ (cornerQ x y) (cornerQ (x + ((n + 1:Nat):Int)) (y + 1)) ps)
 | 0,x=>by
  show sqA ps x y + 0=_
  unfold sqA
  rw[show x + ((0 + 1:Nat):Int)=x + 1 by omega]
  grind
 | n + 1,x=>by
  have h:=Az1 (cornerQ x y) (cornerQ (x + ((n + 1 + 1:Nat):Int)) (y + 1)) ((x + 1:Int):Rat) (R2 (by omega)) (R2 (by omega)) ps
  rw[←h]
  show sqA ps x y + sumQ (rowQ ps y (n + 1) (x + 1))=_
  rw[Pn ps y n (x + 1),show x + 1 + ((n + 1:Nat):Int)=x + ((n + 1 + 1:Nat):Int) by omega]
  rfl
theorem Vz (ps:List Q2) (w:Nat) (x:Int):∀ (n:Nat) (y:Int),sumQ (winQ ps (w + 1) x (n + 1) y)=area2 (boxQ (cornerQ x y) (cornerQ (x + ((w + 1:Nat):Int)) (y + ((n + 1:Nat):Int))) ps)
 | 0,y=>by
  show sumQ (rowQ ps y (w + 1) x ++ [])=_
  rw[List.append_nil,Pn,show y + ((0 + 1:Nat):Int)=y + 1 by omega]
 | n + 1,y=>by
  have h:=Ac5 (cornerQ x y) (cornerQ (x + ((w + 1:Nat):Int)) (y + ((n + 1 + 1:Nat):Int))) ((y + 1:Int):Rat) (R2 (by omega)) (R2 (by omega)) ps
  rw[←h]
  show sumQ (rowQ ps y (w + 1) x++winQ ps (w + 1) x (n + 1) (y + 1))=_
  rw[Kp,Pn,Vz ps w x n (y + 1),show y + 1 + ((n + 1:Nat):Int)=y + ((n + 1 + 1:Nat):Int) by omega]
  rfl
theorem Tj (ps:List Q2) (y:Int):∀ (n:Nat) (x:Int),(rowQ ps y n x).length=n
 | 0,_=>rfl
 | n + 1,x=>by rw[rowQ,List.length_cons,Tj]
theorem Nm (ps:List Q2) (w:Nat) (x:Int):∀ (n:Nat) (y:Int),(winQ ps w x n y).length=w*n
 | 0,_=>rfl
 | n + 1,y=>by rw[winQ,List.length_append,Tj,Nm,Nat.mul_succ]; omega
theorem WB:∀ l:List Rat,sumQ (l.map fun a=>a/2)=sumQ l/2
 | []=>by show (0:Rat)=0/2; rw[Rat.div_def,Rat.zero_mul]
 | a::l=>by
  simp only[List.map_cons,sumQ,WB l]
  rw[Rat.div_def,Rat.div_def,Rat.div_def,Rat.add_mul]
end Go.Proofs.YthipdlhknbhiiaaGreat.Ev

end
section
namespace Go.Proofs.YthipdlhknbhiiaaGreat.Ev
open Go
theorem Lz {x y:Int} (hx : -100≤x∧x≤100) (hy : -100≤y∧y≤100):SzP 2 (cornerQ x y):=⟨ZI (by omega) (by omega),ZI (by omega) (by omega)⟩
theorem Nx {x y:Int}:(((rqF (x:Rat)).1,((rqF (x:Rat)).2.1,((rqF (x:Rat)).2.2.1,((rqF (x:Rat)).2.2.2,rqF (y:Rat))))))=fl (rp (cornerQ x y)):=(rfl)
theorem Ah9 {q:Rat} (h:(fitsQ q).2=false):fitsQ q=(zF,false):=by
 by_cases hz:Sz 40 q
 ·rw[Ip hz] at h; cases h
 ·exact PB hz
theorem Ay1 {l:List RPt} (hl:l.length≤1000) (hb:∀ x∈l,BrP x) {x y:Int} (hx : -90≤x∧x≤90) (hy : -90≤y∧y≤90):∃ f:RF×Bool,Ca l x y=some f∧Cd l x y=some f∧(f.2=false→f=(zF,false)) ∧
  (f.2=true→∃ ps,SzR ps∧l=ps.map rp∧SzR (boxQ (cornerQ x y) (cornerQ (x + 1) (y + 1)) ps)∧Sz 40 (sqA ps x y/2)∧f=(rqF (sqA ps x y/2),true)):=by
 have c1:=Lz (x:=x) (y:=y) (by omega) (by omega)
 have c2:=Lz (x:=x + 1) (y:=y + 1) (by omega) (by omega)
 obtain ⟨f,f1,f2,_,f4⟩:=Te hl hb (Nt (k:=2) (by omega) c1) (Nt (k:=2) (by omega) c2)
 have i1:Ca l x y=(bif !f.2 then some (zF,false) else (B6 f.1).bind fun x5=>some (x5.1,x5.2)):=by
  unfold Ca
  rw[II (by omega) (by omega),obs,II (by omega) (by omega),obs,wrapI (by omega) (by omega),II (by omega) (by omega),obs,wrapI (by omega) (by omega),II (by omega) (by omega),obs]
  simp only[rq_e,peta]
  rw[Nx,Nx,f1,obs]
  rfl
 have s1:Cd l x y=(bif !f.2 then some (zF,false) else (ED f.1).bind fun x3=>(CN x3).bind fun x4=>some (x4.1,x4.2)):=by
  have h1:SmP (x,y):=by unfold SmP; simp only; omega
  have h2:SmP (x + 1,y + 1):=by unfold SmP; simp only; omega
  unfold Cd
  rw[Y7 h1,obs,wrapI (by omega) (by omega),wrapI (by omega) (by omega),Y7 h2,obs]
  simp only[rq_e,peta]
  rw[show ptQ (x,y)=cornerQ x y from rfl,show ptQ (x + 1,y + 1)=cornerQ (x + 1) (y + 1) from rfl,f2,obs]
  rfl
 rw[i1,s1]
 cases h:f.2 with
 | false =>
  exact ⟨(zF,false),by rw[nF,cT],by rw[nF,cT],fun _=>rfl,fun h=>by cases h⟩
 | true =>
  obtain ⟨ps,lo,hi,hps,hlo,hhi,hx',hy',el,ea,ec,hm,ef⟩:=f4 h
  have e1:lo=cornerQ x y:=MF ea.symm
  have e2:hi=cornerQ (x + 1) (y + 1):=MF ec.symm
  rw[e1,e2] at hm ef
  have ef1:f.1=(boxQ (cornerQ x y) (cornerQ (x + 1) (y + 1)) ps).map rp:=by rw[ef]
  refine ⟨fitsQ (sqA ps x y/2),?_,?_,Ah9,fun hf=>?_⟩
  ·rw[nT,cF,ef1,TF hm,obs]
   simp only[peta,sqA]
  ·rw[nT,cF,ef1,(Rm hm).1,obs,Nf (k:=2722) (by omega) (Rm hm).2,obs]
   simp only[peta,sqA]
  ·by_cases hz:Sz 40 (sqA ps x y/2)
   ·exact ⟨ps,hps,el,hm,hz,Ip hz⟩
   ·rw[PB hz] at hf; cases hf
noncomputable def shV (l:List RPt) (x y:Int):RF×Bool:=(Ca l x y).getD (zF,false)
theorem Hh {l:List RPt} (hl:l.length≤1000) (hb:∀ x∈l,BrP x) {x y:Int} (hx : -90≤x∧x≤90) (hy : -90≤y∧y≤90):Ca l x y=some (shV l x y)∧Cd l x y=some (shV l x y)∧((shV l x y).2=false→shV l x y=(zF,false)) ∧
  ((shV l x y).2=true→∃ ps,SzR ps∧l=ps.map rp∧SzR (boxQ (cornerQ x y) (cornerQ (x + 1) (y + 1)) ps)∧Sz 40 (sqA ps x y/2)∧shV l x y=(rqF (sqA ps x y/2),true)):=by
 obtain ⟨f,h1,h2,h3',h4⟩:=Ay1 hl hb hx hy
 have e:shV l x y=f:=by unfold shV; rw[h1]; rfl
 rw[e]
 exact ⟨h1,h2,h3',h4⟩
noncomputable def rowV (l:List RPt) (y:Int):Nat→Int→Option (List RQ)
 | 0,_=>some []
 | n + 1,x=>if (shV l x y).2=true then (rowV l y n (x + 1)).map (toQ (shV l x y).1 :: ·) else none
noncomputable def winV (l:List RPt) (w:Nat) (x:Int):Nat→Int→Option (List RQ)
 | 0,_=>some []
 | n + 1,y=>(rowV l y w x).bind fun r=>(winV l w x n (y + 1)).map (r ++ ·)
abbrev WinT:=Int×(Int×(Int×Int))
def winR {α:Type} (f:List RQ→α):Option (List RQ)→α ⊕ (List RQ×Bool)
 | some r=>.inl (f r)
 | none=>.inr ([],false)
theorem appQ {l:List RQ} {x:RQ} (h:l.length≤100000):appL 64 4 l [x]=some (l ++ [x]):=Na (by simp[maxBytes]; omega) (by simp[maxBytes]; omega)
section
variable {l:List RPt} (hl:l.length≤1000) (hb:∀ x∈l,BrP x) {w:WinT} (w1 : -40≤w.1∧w.1≤40) (w2 : -40≤w.2.1∧w.2.1≤40) (w3 : 0≤w.2.2.1∧w.2.2.1≤40) (w4 : 0≤w.2.2.2∧w.2.2.2≤40)
include hl hb w1 w2 w3 w4
theorem SE {y:Int} (hy:w.2.1≤y∧y<w.2.1 + w.2.2.2):∀ (n:Nat) (x:Int) (out:List RQ),x + (n:Int)=w.1 + w.2.2.1→w.1≤x→out.length + n≤10000 →
  loopM (fun (s:(WinT×((List RQ)×((List RPt)×(Int×Int)))))=>Bj s.1 s.2.1 s.2.2.1 s.2.2.2.1 s.2.2.2.2) (w,(out,(l,(y,x)))) =
   some (winR (fun r=>(w,(out++r,(l,y)))) (rowV l y n x))
 | 0,x,out,hx,hx',ho=>by
  refine Am ?_
  show Bj w out l y x=_
  unfold Bj
  rw[wrapI (by omega) (by omega),decide_eq_false (by omega),cF,rowV]
  exact congrArg (fun z=>some (Sum.inr (Sum.inl (w,(z,(l,y)))))) (List.append_nil out).symm
 | n + 1,x,out,hx,hx',ho=>by
  obtain ⟨s1,s2,_,s4⟩:=Hh hl hb (x:=x) (y:=y) (by omega) (by omega)
  rw[rowV]
  cases h:(shV l x y).2 with
  | false =>
   rw[if_neg (by simp)]
   refine Am ?_
   show Bj w out l y x=_
   unfold Bj
   rw[wrapI (by omega) (by omega),decide_eq_true (by omega),cT,s1,obs,h,nF,cT]
   rfl
  | true =>
   rw[if_pos rfl]
   have hgo:Bj w out l y x=some (.inl (w,(out ++ [toQ (shV l x y).1],(l,(y,x + 1))))):=by
    unfold Bj
    rw[wrapI (n:=w.1 + w.2.2.1) (by omega) (by omega),decide_eq_true (by omega),cT,s1,obs,h,nT,cF,appQ (by omega),obs,wrapI (n:=x + 1) (by omega) (by omega)]
    rfl
   refine (AH (f:=fun (s:(WinT×((List RQ)×((List RPt)×(Int×Int)))))=>Bj s.1 s.2.1 s.2.2.1 s.2.2.2.1 s.2.2.2.2) (s:=(w,(out,(l,(y,x))))) hgo).trans ?_
   rw[SE hy n (x + 1) _ (by omega) (by omega) (by rw[List.length_append,List.length_singleton]; omega)]
   cases rowV l y n (x + 1) with
   | none=>rfl
   | some r=>simp[winR]
theorem Uq {y:Int} (hy:w.2.1≤y∧y<w.2.1 + w.2.2.2):∀ (n:Nat) (x:Int) (out:List RQ),x + (n:Int)=w.1 + w.2.2.1→w.1≤x→out.length + n≤10000 →
  loopM (fun (s:(WinT×((List RQ)×((List RPt)×(Int×Int)))))=>Bi s.1 s.2.1 s.2.2.1 s.2.2.2.1 s.2.2.2.2) (w,(out,(l,(y,x)))) =
   some (winR (fun r=>(w,(out++r,(l,y)))) (rowV l y n x))
 | 0,x,out,hx,hx',ho=>by
  refine Am ?_
  show Bi w out l y x=_
  unfold Bi
  rw[wrapI (by omega) (by omega),decide_eq_false (by omega),cF,rowV]
  exact congrArg (fun z=>some (Sum.inr (Sum.inl (w,(z,(l,y)))))) (List.append_nil out).symm
 | n + 1,x,out,hx,hx',ho=>by
  obtain ⟨s1,s2,_,s4⟩:=Hh hl hb (x:=x) (y:=y) (by omega) (by omega)
  rw[rowV]
  cases h:(shV l x y).2 with
  | false =>
   rw[if_neg (by simp)]
   refine Am ?_
   show Bi w out l y x=_
   unfold Bi
   rw[wrapI (by omega) (by omega),decide_eq_true (by omega),cT,s2,obs,h,nF,cT]
   rfl
  | true =>
   rw[if_pos rfl]
   have hgo:Bi w out l y x=some (.inl (w,(out ++ [toQ (shV l x y).1],(l,(y,x + 1))))):=by
    unfold Bi
    rw[wrapI (n:=w.1 + w.2.2.1) (by omega) (by omega),decide_eq_true (by omega),cT,s2,obs,h,nT,cF,appQ (by omega),obs,wrapI (n:=x + 1) (by omega) (by omega)]
    rfl
   refine (AH (f:=fun (s:(WinT×((List RQ)×((List RPt)×(Int×Int)))))=>Bi s.1 s.2.1 s.2.2.1 s.2.2.2.1 s.2.2.2.2) (s:=(w,(out,(l,(y,x))))) hgo).trans ?_
   rw[Uq hy n (x + 1) _ (by omega) (by omega) (by rw[List.length_append,List.length_singleton]; omega)]
   cases rowV l y n (x + 1) with
   | none=>rfl
   | some r=>simp[winR]
theorem SJ (y:Int):∀ (n:Nat) (x:Int) (r:List RQ),rowV l y n x=some r→r.length=n
 | 0,x,r,h=>by
  rw[rowV] at h
  rw[←Option.some.inj h]; rfl
 | n + 1,x,r,h=>by
  rw[rowV] at h
  split at h
  ·cases hr:rowV l y n (x + 1) with
   | none=>rw[hr] at h; cases h
   | some r' =>
    rw[hr] at h
    rw[←Option.some.inj h,List.length_cons,SJ y n (x + 1) r' hr]
  ·cases h
theorem So:∀ (n:Nat) (y:Int) (out:List RQ),y + (n:Int)=w.2.1 + w.2.2.2→w.2.1≤y→out.length + 40*n≤9000 →
  loopM (fun (s:(WinT×((List RQ)×((List RPt)×Int))))=>AZ s.1 s.2.1 s.2.2.1 s.2.2.2) (w,(out,(l,y))) =
   some (winR (fun r=>out++r) (winV l w.2.2.1.toNat w.1 n y))
 | 0,y,out,hy,hy',ho=>by
  refine Am ?_
  show AZ w out l y=_
  unfold AZ
  rw[wrapI (by omega) (by omega),decide_eq_false (by omega),cF,winV]
  exact congrArg (fun z=>some (Sum.inr (Sum.inl z))) (List.append_nil out).symm
 | n + 1,y,out,hy,hy',ho=>by
  have row:=SE hl hb w1 w2 w3 w4 (y:=y) (by omega) w.2.2.1.toNat w.1 out (by omega) (by omega) (by omega)
  rw[winV]
  cases h:rowV l y w.2.2.1.toNat w.1 with
  | none =>
   rw[h] at row
   change _=some (Sum.inr (([]:List RQ),false)) at row
   refine Am ?_
   show AZ w out l y=_
   unfold AZ
   rw[wrapI (by omega) (by omega),decide_eq_true (by omega),cT,row,obs,sEr]
   rfl
  | some r =>
   rw[h] at row
   change _=some (Sum.inl (w,(out++r,(l,y)))) at row
   have hlen:=SJ hl hb w1 w2 w3 w4 y _ _ _ h
   have hgo:AZ w out l y=some (.inl (w,(out++r,(l,y + 1)))):=by
    unfold AZ
    rw[wrapI (n:=w.2.1 + w.2.2.2) (by omega) (by omega),decide_eq_true (by omega),cT,row,obs,sEl,wrapI (n:=y + 1) (by omega) (by omega)]
   refine (AH (f:=fun (s:(WinT×((List RQ)×((List RPt)×Int))))=>AZ s.1 s.2.1 s.2.2.1 s.2.2.2) (s:=(w,(out,(l,y)))) hgo).trans ?_
   rw[So n (y + 1) _ (by omega) (by omega) (by rw[List.length_append]; omega)]
   show _=some (winR (fun r=>out++r) ((winV l w.2.2.1.toNat w.1 n (y + 1)).map (r ++ ·)))
   cases winV l w.2.2.1.toNat w.1 n (y + 1) with
   | none=>rfl
   | some r'=>simp[winR]
theorem TT:∀ (n:Nat) (y:Int) (out:List RQ),y + (n:Int)=w.2.1 + w.2.2.2→w.2.1≤y→out.length + 40*n≤9000 →
  loopM (fun (s:(WinT×((List RQ)×((List RPt)×Int))))=>AX s.1 s.2.1 s.2.2.1 s.2.2.2) (w,(out,(l,y))) =
   some (winR (fun r=>out++r) (winV l w.2.2.1.toNat w.1 n y))
 | 0,y,out,hy,hy',ho=>by
  refine Am ?_
  show AX w out l y=_
  unfold AX
  rw[wrapI (by omega) (by omega),decide_eq_false (by omega),cF,winV]
  exact congrArg (fun z=>some (Sum.inr (Sum.inl z))) (List.append_nil out).symm
 | n + 1,y,out,hy,hy',ho=>by
  have row:=Uq hl hb w1 w2 w3 w4 (y:=y) (by omega) w.2.2.1.toNat w.1 out (by omega) (by omega) (by omega)
  rw[winV]
  cases h:rowV l y w.2.2.1.toNat w.1 with
  | none =>
   rw[h] at row
   change _=some (Sum.inr (([]:List RQ),false)) at row
   refine Am ?_
   show AX w out l y=_
   unfold AX
   rw[wrapI (by omega) (by omega),decide_eq_true (by omega),cT,row,obs,sEr]
   rfl
  | some r =>
   rw[h] at row
   change _=some (Sum.inl (w,(out++r,(l,y)))) at row
   have hlen:=SJ hl hb w1 w2 w3 w4 y _ _ _ h
   have hgo:AX w out l y=some (.inl (w,(out++r,(l,y + 1)))):=by
    unfold AX
    rw[wrapI (n:=w.2.1 + w.2.2.2) (by omega) (by omega),decide_eq_true (by omega),cT,row,obs,sEl,wrapI (n:=y + 1) (by omega) (by omega)]
   refine (AH (f:=fun (s:(WinT×((List RQ)×((List RPt)×Int))))=>AX s.1 s.2.1 s.2.2.1 s.2.2.2) (s:=(w,(out,(l,y)))) hgo).trans ?_
   rw[TT n (y + 1) _ (by omega) (by omega) (by rw[List.length_append]; omega)]
   show _=some (winR (fun r=>out++r) ((winV l w.2.2.1.toNat w.1 n (y + 1)).map (r ++ ·)))
   cases winV l w.2.2.1.toNat w.1 n (y + 1) with
   | none=>rfl
   | some r'=>simp[winR]
end
def goodW (w:WinT):Bool:=within w.1 (-20) 20&&(within w.2.1 (-20) 20&&(within w.2.2.1 1 8&&within w.2.2.2 1 8))
theorem IR (w:WinT):Ck w=some (goodW w):=by
 unfold Ck goodW
 rw[Di,obs]
 cases within w.1 (-20) 20 with
 | false=>rfl
 | true =>
  rw[cT,Di,obs]
  cases within w.2.1 (-20) 20 with
  | false=>rfl
  | true =>
   rw[cT,Di,obs]
   cases within w.2.2.1 1 8 with
   | false=>rfl
   | true=>rw[cT,Di,obs]; rfl
theorem Jp (w:WinT):Cz w=some (goodW w):=by
 unfold Cz goodW
 rw[Ja,obs]
 cases within w.1 (-20) 20 with
 | false=>rfl
 | true =>
  rw[cT,Ja,obs]
  cases within w.2.1 (-20) 20 with
  | false=>rfl
  | true =>
   rw[cT,Ja,obs]
   cases within w.2.2.1 1 8 with
   | false=>rfl
   | true=>rw[cT,Ja,obs]; rfl
theorem Pl {w:WinT}:goodW w=true↔(-20≤w.1∧w.1≤20)∧(-20≤w.2.1∧w.2.1≤20)∧(1≤w.2.2.1∧w.2.2.1≤8)∧(1≤w.2.2.2∧w.2.2.2≤8):=by
 unfold goodW
 rw[Bool.and_eq_true,Bool.and_eq_true,Bool.and_eq_true,Dg,Dg,Dg,Dg]
theorem Ak2 {l:List RPt} (hl:l.length≤1000) (hb:∀ x∈l,BrP x) (w:WinT):∃ f:List RQ×Bool,BG l w=some f∧Cc l w=some f ∧
  (f.2=false→f.1 = [])∧(f.2=true→goodR l=true∧goodW w=true∧winV l w.2.2.1.toNat w.1 w.2.2.2.toNat w.2.1=some f.1):=by
 cases hw:goodW w with
 | false =>
  refine ⟨([],false),?_,?_,fun _=>rfl,fun h=>by cases h⟩
  ·unfold BG
   simp only[rq_e,peta]
   rw[A2 (by omega) hb,obs]
   cases goodR l with
   | false=>rw[nF,cT]
   | true=>rw[nT,cF,IR,obs,hw,nF,cT]
  ·unfold Cc
   simp only[rq_e,peta]
   rw[Jp,obs,hw,nF,cT]
 | true =>
  obtain ⟨w1,w2,w3,w4⟩:=Pl.1 hw
  have il:=So hl hb (w:=w) (by omega) (by omega) (by omega) (by omega) w.2.2.2.toNat w.2.1 [] (by omega) (by omega) (by simp; omega)
  have sl:=TT hl hb (w:=w) (by omega) (by omega) (by omega) (by omega) w.2.2.2.toNat w.2.1 [] (by omega) (by omega) (by simp; omega)
  have ss:Cc l w=some (match winV l w.2.2.1.toNat w.1 w.2.2.2.toNat w.2.1 with | some r=>(r,true) | none=>(([]:List RQ),false)):=by
   unfold Cc
   simp only[rq_e,peta]
   have sl':loopM (fun (s:(WinT×((List RQ)×((List RPt)×Int))))=>AX s.1 s.2.1 s.2.2.1 s.2.2.2) (w,((List.nil:List RQ),(l,w.2.1)))=_:=sl
   rw[Jp,obs,hw,nT,cF,sl',obs]
   cases winV l w.2.2.1.toNat w.1 w.2.2.2.toNat w.2.1 with
   | none=>rfl
   | some r=>rfl
  cases hg:goodR l with
  | false =>
   have hn:winV l w.2.2.1.toNat w.1 w.2.2.2.toNat w.2.1=none:=by
    obtain ⟨s1,s2,_,s4⟩:=Hh hl hb (x:=w.1) (y:=w.2.1) (by omega) (by omega)
    have h0:(shV l w.1 w.2.1).2=false:=by
     cases h:(shV l w.1 w.2.1).2 with
     | false=>rfl
     | true =>
      obtain ⟨ps,hps,el,_⟩:=s4 h
      rw[el,Ed.2 hps] at hg
      cases hg
    obtain ⟨n,hn⟩:∃ n,w.2.2.1.toNat=n + 1:=⟨w.2.2.1.toNat-1,by omega⟩
    obtain ⟨m,hm⟩:∃ m,w.2.2.2.toNat=m + 1:=⟨w.2.2.2.toNat-1,by omega⟩
    rw[hn,hm,winV,rowV,h0,if_neg (by simp)]
    rfl
   rw[hn] at ss
   refine ⟨([],false),?_,ss,fun _=>rfl,fun h=>by cases h⟩
   unfold BG
   rw[A2 (by omega) hb,obs,hg,nF,cT]
  | true =>
   have ii:BG l w=some (match winV l w.2.2.1.toNat w.1 w.2.2.2.toNat w.2.1 with | some r=>(r,true) | none=>(([]:List RQ),false)):=by
    unfold BG
    simp only[rq_e,peta]
    have il':loopM (fun (s:(WinT×((List RQ)×((List RPt)×Int))))=>AZ s.1 s.2.1 s.2.2.1 s.2.2.2) (w,((List.nil:List RQ),(l,w.2.1)))=_:=il
    rw[A2 (by omega) hb,obs,hg,nT,cF,IR,obs,hw,nT,cF,il',obs]
    cases winV l w.2.2.1.toNat w.1 w.2.2.2.toNat w.2.1 with
    | none=>rfl
    | some r=>rfl
   refine ⟨_,ii,ss,?_,?_⟩
   ·cases winV l w.2.2.1.toNat w.1 w.2.2.2.toNat w.2.1 with
    | none=>intro _; rfl
    | some r=>intro h; cases h
   ·cases winV l w.2.2.1.toNat w.1 w.2.2.2.toNat w.2.1 with
    | none=>intro h; cases h
    | some r=>intro _; exact ⟨rfl,rfl,rfl⟩
section
variable {l:List RPt} {ps:List Q2} (hps:SzR ps) (el:l=ps.map rp)
include hps el
theorem AT0 {x y:Int} (hx : -90≤x∧x≤90) (hy : -90≤y∧y≤90) (h:(shV l x y).2=true):Sz 40 (sqA ps x y/2)∧shV l x y=(rqF (sqA ps x y/2),true):=by
 have h40:=hps.1
 obtain ⟨_,_,_,s4⟩:=Hh (l:=l) (by rw[el]; simp; omega) (by rw[el]; exact Px (k:=8) (by omega) hps.2) hx hy
 obtain ⟨qs,hqs,e,_,k1,k2⟩:=s4 h
 have inj:∀ u v:List Q2,u.map rp=v.map rp→u=v:=by
  intro u
  induction u with
  | nil=>intro v hv; cases v with
   | nil=>rfl
   | cons a t=>cases hv
  | cons b u ih=>intro v hv; cases v with
   | nil=>cases hv
   | cons a t =>
    rw[List.map_cons,List.map_cons] at hv
    obtain ⟨i1,i2⟩:=List.cons.inj hv
    rw[MF i1,ih t i2]
 have e2:qs=ps:=inj _ _ (by rw[←e,el])
 rw[e2] at k1 k2
 exact ⟨k1,k2⟩
theorem AI7 {y:Int} (hy : -90≤y∧y≤90):∀ (n:Nat) (x:Int) (r:List RQ),-90≤x→x + (n:Int)≤90→rowV l y n x=some r→r=(rowQ ps y n x).map (fun a=>rq (a/2))∧(∀ a∈rowQ ps y n x,Sz 40 (a/2))∧∀ i:Nat,i<n→(shV l (x + (i:Int)) y).2=true∧r[i]? = some (toQ (shV l (x + (i:Int)) y).1)
 | 0,x,r,_,_,h=>by
  rw[rowV] at h
  rw[←Option.some.inj h]
  exact ⟨rfl,fun a ha=>(by cases ha),fun i hi=>(by omega)⟩
 | n + 1,x,r,h1,h2,h=>by
  rw[rowV] at h
  split at h
  ·rename_i hs
   cases hr:rowV l y n (x + 1) with
   | none=>rw[hr] at h; cases h
   | some r' =>
    rw[hr] at h
    obtain ⟨k1,k2⟩:=AT0 hps el (x:=x) (y:=y) (by omega) hy hs
    obtain ⟨j1,j2,j3⟩:=AI7 hy n (x + 1) r' (by omega) (by omega) hr
    have hr':toQ (shV l x y).1::r'=r:=Option.some.inj h
    refine ⟨?_,?_,?_⟩
    ·rw[←hr',k2,j1,rowQ,List.map_cons]
     rfl
    ·intro a ha
     rw[rowQ] at ha
     rcases List.mem_cons.1 ha with rfl | ha
     ·exact k1
     ·exact j2 a ha
    ·intro i hi
     cases i with
     | zero =>
      rw[show x + ((0:Nat):Int)=x by omega,←hr']
      exact ⟨hs,rfl⟩
     | succ i =>
      obtain ⟨q1,q2⟩:=j3 i (by omega)
      rw[show x + ((i + 1:Nat):Int)=x + 1 + (i:Int) by omega,←hr']
      exact ⟨q1,by rw[List.getElem?_cons_succ]; exact q2⟩
  ·cases h
theorem Ac2 {w:Nat} {x:Int} (hx : -90≤x∧x + (w:Int)≤90):∀ (n:Nat) (y:Int) (r:List RQ),-90≤y→y + (n:Int)≤90→winV l w x n y=some r→r=(winQ ps w x n y).map (fun a=>rq (a/2))∧(∀ a∈winQ ps w x n y,Sz 40 (a/2)) ∧
  ∀ j i:Nat,j<n→i<w→(shV l (x + (i:Int)) (y + (j:Int))).2=true∧r[j*w + i]? = some (toQ (shV l (x + (i:Int)) (y + (j:Int))).1)
 | 0,y,r,_,_,h=>by
  rw[winV] at h
  rw[←Option.some.inj h]
  exact ⟨rfl,fun a ha=>(by cases ha),fun j i hj=>(by omega)⟩
 | n + 1,y,r,h1,h2,h=>by
  rw[winV] at h
  cases hr:rowV l y w x with
  | none=>rw[hr] at h; cases h
  | some r1 =>
   rw[hr] at h
   have h:(winV l w x n (y + 1)).map (r1 ++ ·)=some r:=h
   cases hw:winV l w x n (y + 1) with
   | none=>rw[hw] at h; cases h
   | some r2 =>
    rw[hw] at h
    have hrr:r1++r2=r:=Option.some.inj h
    obtain ⟨j1,j2,j3⟩:=AI7 hps el (y:=y) (by omega) w x r1 (by omega) (by omega) hr
    obtain ⟨k1,k2,k3⟩:=Ac2 hx n (y + 1) r2 (by omega) (by omega) hw
    have len1:r1.length=w:=by rw[j1,List.length_map,Tj]
    refine ⟨?_,?_,?_⟩
    ·rw[←hrr,j1,k1,winQ,List.map_append]
    ·intro a ha
     rw[winQ] at ha
     rcases List.mem_append.1 ha with ha | ha
     ·exact j2 a ha
     ·exact k2 a ha
    ·intro j i hj hi
     cases j with
     | zero =>
      obtain ⟨q1,q2⟩:=j3 i hi
      rw[show y + ((0:Nat):Int)=y by omega,←hrr,Nat.zero_mul,Nat.zero_add,List.getElem?_append_left (by omega)]
      exact ⟨q1,q2⟩
     | succ j =>
      obtain ⟨q1,q2⟩:=k3 j i (by omega) hi
      rw[show y + ((j + 1:Nat):Int)=y + 1 + (j:Int) by omega,←hrr,Nat.succ_mul,List.getElem?_append_right (by omega),len1,show j*w + w + i-w=j*w + i by omega]
      exact ⟨q1,q2⟩
end
end Go.Proofs.YthipdlhknbhiiaaGreat.Ev

end
section
namespace Go.Proofs.YthipdlhknbhiiaaGreat.Ev
open Go
theorem Ab8 {b:List Int} (hb:∀ x∈b,0≤x∧x≤255) (hl:b.length≤1048576):∃ n:Int,DC b=some n∧0≤n∧n<1000003:=by
 obtain ⟨n,h1,h2⟩:=Fu (body:=fun (s:(Int×((List Int)×(Int×Int))))=>BY s.1 s.2.1 s.2.2.1 s.2.2.2)
  (st:=fun k (n:Int)=>(n,(b,((b.length:Int),(k:Int))))) (fin:=fun n=>n) (I:=fun k n=>0≤n∧n<1000003) b.length
  (by
   rintro k n hk ⟨g1,g2⟩
   have he:b[k]? = some b[k]:=List.getElem?_eq_getElem hk
   generalize b[k]=x at he
   have hx:=hb x (List.mem_of_getElem? he)
   refine ⟨(31*n + x).tmod 1000003,?_,XX (by omega) (by omega)⟩
   show BY n b (b.length:Int) (k:Int)=_
   unfold BY
   rw[decide_eq_true (show (k:Int)<(b.length:Int) by omega),cT,Ak,he,obs,wrapI (n:=31*n) (by omega) (by omega),wrapI (n:=x) (by omega) (by omega),wrapI (n:=31*n + x) (by omega) (by omega),wrapI (n:=(k:Int) + 1) (by omega) (by omega)]
   rfl)
  (by
   rintro n _
   show BY n b (b.length:Int) (b.length:Int)=_
   unfold BY
   rw[decide_eq_false (by omega)]
   rfl) 0 0 (by omega) ⟨by omega,by omega⟩
 unfold DC
 have h1':loopM (fun (s:(Int×((List Int)×(Int×Int))))=>BY s.1 s.2.1 s.2.2.1 s.2.2.2) ((0:Int),(b,((b.length:Int),(0:Int))))=some n:=h1
 rw[h1',obs]
 exact ⟨n,rfl,h2⟩
end Go.Proofs.YthipdlhknbhiiaaGreat.Ev

end
section
namespace Go.Proofs.YthipdlhknbhiiaaGreat.Ev
open Go
def BrQ (a:RQ):Prop:=Brief a.1.2∧Brief a.2.2
def unq (a:RQ):RF:=(a.1.1,(a.1.2,a.2))
theorem VK (a:RQ):(a.1.1,(a.1.2,a.2))=unq a:=(rfl)
theorem Af4 (q:Rat):unq (rq q)=rqF q:=(rfl)
theorem Aq0 (a:RF):unq (toQ a)=a:=(rfl)
theorem Al7 (a:RQ):toQ (unq a)=a:=(rfl)
theorem Pw (l:List Rat) (a:Rat):sumQ (l ++ [a])=sumQ l + a:=by
 rw[Kp]
 show sumQ l + (a + 0)=_
 grind
section
variable {qs:List Rat} (h40:∀ q∈qs,Sz 40 q) (hl:qs.length≤64)
include h40 hl
theorem XP:∀ k:Nat,k≤qs.length→Sz (41*k + 1) (sumQ (qs.take k))
 | 0,_=>by
  rw[List.take_zero]
  exact S0r
 | k + 1,hk=>by
  have hg:qs[k]? = some qs[k]:=List.getElem?_eq_getElem (by omega)
  rw[List.take_add_one,hg]
  show Sz _ (sumQ (qs.take k ++ [qs[k]]))
  rw[Pw]
  exact (SO (XP k (by omega)) (h40 _ (List.mem_of_getElem? hg))).mono (by omega)
theorem Tp:∀ (m k:Nat),k + m=qs.length→loopM (fun (s:(RF×(RF×((List RQ)×(Int×Int)))))=>CG s.1 s.2.1 s.2.2.1 s.2.2.2.1 s.2.2.2.2) (zF,(rqF (sumQ (qs.take k)),(qs.map rq,((qs.length:Int),(k:Int)))))=some (zF,rqF (sumQ qs))
 | 0,k,hk=>by
  refine Am ?_
  show CG zF (rqF (sumQ (qs.take k))) (qs.map rq) (qs.length:Int) (k:Int)=_
  unfold CG
  rw[decide_eq_false (by omega),cF,List.take_of_length_le (by omega)]
 | m + 1,k,hk=>by
  have hg:qs[k]? = some qs[k]:=List.getElem?_eq_getElem (by omega)
  have hz:=h40 _ (List.mem_of_getElem? hg)
  have hgo:CG zF (rqF (sumQ (qs.take k))) (qs.map rq) (qs.length:Int) (k:Int)=some (.inl (zF,(rqF (sumQ (qs.take (k + 1))),(qs.map rq,((qs.length:Int),((k + 1:Nat):Int)))))):=by
   unfold CG
   have e:getI (qs.map rq) (k:Int)=some (rq qs[k]):=by rw[Ak,List.getElem?_map,hg]; rfl
   rw[decide_eq_true (by omega),cT,e,obs]
   simp only[rq_e,peta,VK,Af4]
   have hacc:=XP h40 hl k (by omega)
   rw[H0 (k:=4000) (by omega) (hacc.mono (by omega)) (hz.mono (by omega)),obs,wrap1 (by omega),List.take_add_one,hg]
   show _=some (Sum.inl (zF,(rqF (sumQ (qs.take k ++ [qs[k]])),_)))
   rw[Pw]
  exact (AH (f:=fun (s:(RF×(RF×((List RQ)×(Int×Int)))))=>CG s.1 s.2.1 s.2.2.1 s.2.2.2.1 s.2.2.2.2) (s:=(zF,(rqF (sumQ (qs.take k)),(qs.map rq,((qs.length:Int),(k:Int)))))) hgo).trans (Tp m (k + 1) (by omega))
theorem Uy:∀ (m k:Nat),k + m=qs.length→loopM (fun (s:(RF×(RF×((List RQ)×(Int×Int)))))=>CF s.1 s.2.1 s.2.2.1 s.2.2.2.1 s.2.2.2.2) (zF,(rqF (sumQ (qs.take k)),(qs.map rq,((qs.length:Int),(k:Int)))))=some (zF,rqF (sumQ qs))
 | 0,k,hk=>by
  refine Am ?_
  show CF zF (rqF (sumQ (qs.take k))) (qs.map rq) (qs.length:Int) (k:Int)=_
  unfold CF
  rw[decide_eq_false (by omega),cF,List.take_of_length_le (by omega)]
 | m + 1,k,hk=>by
  have hg:qs[k]? = some qs[k]:=List.getElem?_eq_getElem (by omega)
  have hz:=h40 _ (List.mem_of_getElem? hg)
  have hgo:CF zF (rqF (sumQ (qs.take k))) (qs.map rq) (qs.length:Int) (k:Int)=some (.inl (zF,(rqF (sumQ (qs.take (k + 1))),(qs.map rq,((qs.length:Int),((k + 1:Nat):Int)))))):=by
   unfold CF
   have e:getI (qs.map rq) (k:Int)=some (rq qs[k]):=by rw[Ak,List.getElem?_map,hg]; rfl
   rw[decide_eq_true (by omega),cT,e,obs]
   simp only[rq_e,peta,VK,Af4]
   have hacc:=XP h40 hl k (by omega)
   rw[RY (k:=4000) (by omega) (hacc.mono (by omega)) (hz.mono (by omega)),obs,wrap1 (by omega),List.take_add_one,hg]
   show _=some (Sum.inl (zF,(rqF (sumQ (qs.take k ++ [qs[k]])),_)))
   rw[Pw]
  exact (AH (f:=fun (s:(RF×(RF×((List RQ)×(Int×Int)))))=>CF s.1 s.2.1 s.2.2.1 s.2.2.2.1 s.2.2.2.2) (s:=(zF,(rqF (sumQ (qs.take k)),(qs.map rq,((qs.length:Int),(k:Int)))))) hgo).trans (Uy m (k + 1) (by omega))
end
theorem SK:∀ {l:List RQ},l.all goodQ=true→∃ qs:List Rat,(∀ q∈qs,Sz 40 q)∧l=qs.map rq
 | [],_=>⟨[],by simp,rfl⟩
 | x::l,h=>by
  rw[List.all_cons,Bool.and_eq_true] at h
  obtain ⟨a,ha,e1⟩:=Gv.1 h.1
  obtain ⟨qs,hqs,e2⟩:=SK h.2
  refine ⟨a::qs,fun q hq=>?_,by rw[List.map_cons,←e1,←e2]⟩
  rcases List.mem_cons.1 hq with rfl | hq
  ·exact ha
  ·exact hqs q hq
theorem Ak4 {qs:List Rat} (h:∀ q∈qs,Sz 40 q):(qs.map rq).all goodQ=true:=by
 rw[List.all_eq_true]
 intro x hx
 obtain ⟨q,hq,rfl⟩:=List.mem_map.1 hx
 exact Kx (h q hq)
theorem Aa6 {l:List RQ} (hl:l.length≤1000) (hb:∀ a∈l,BrQ a) (acc:RF):loopM (fun (s:(RF×(RF×((List RQ)×((List RQ)×(Int×Int))))))=>Bo s.1 s.2.1 s.2.2.1 s.2.2.2.1 s.2.2.2.2.1 s.2.2.2.2.2) (zF,(acc,(l,(l,((l.length:Int),(0:Int)))))) =
  some (if l.all goodQ=true then .inl (zF,(acc,l)) else .inr (zF,false)):=by
 have key:=HY (body:=fun (s:(RF×(RF×((List RQ)×((List RQ)×(Int×Int))))))=>Bo s.1 s.2.1 s.2.2.1 s.2.2.2.1 s.2.2.2.2.1 s.2.2.2.2.2) (l:=l) (st:=fun k=>(zF,(acc,(l,(l,((l.length:Int),(k:Int))))))) (p:=goodQ) (fin:=.inl (zF,(acc,l))) (bad:=fun k=>.inr (zF,false))
  (fun k a hk hp=>by
   have:=getL hk
   have hba:=hb a (List.mem_of_getElem? hk)
   show Bo zF acc l l (l.length:Int) (k:Int)=_
   unfold Bo
   rw[decide_eq_true (by omega),cT,Ak,hk,obs]
   simp only[rq_e,peta,VK]
   rw[Lu (a:=unq a) hba,obs,Al7,hp,nT,cF,wrap1 (by omega)])
  (fun k a hk hp=>by
   have:=getL hk
   have hba:=hb a (List.mem_of_getElem? hk)
   show Bo zF acc l l (l.length:Int) (k:Int)=_
   unfold Bo
   rw[decide_eq_true (by omega),cT,Ak,hk,obs]
   simp only[rq_e,peta,VK]
   rw[Lu (a:=unq a) hba,obs,Al7,hp,nF,cT]
   rfl)
  (by
   show Bo zF acc l l (l.length:Int) (l.length:Int)=_
   unfold Bo
   rw[decide_eq_false (by omega),cF])
 rw[show ((0:Nat):Int)=0 from rfl] at key
 cases hall:l.all goodQ with
 | true=>rw[if_pos rfl,key.1 hall]
 | false =>
  obtain ⟨k,_,h⟩:=key.2 hall
  rw[if_neg (by simp),h]
theorem An0 {l:List RQ} (hl:l.length≤1000) (hb:∀ a∈l,BrQ a):∃ f:RF×Bool,CS l=some f∧EE l=some f∧Ar f.1 f.1=some true∧(∀ qs:List Rat,l=qs.map rq→(∀ q∈qs,Sz 40 q)→qs.length≤64→f=fitsQ (sumQ qs)):=by
 have sl:=Aa6 hl hb
 by_cases h64:l.length≤64
 ·cases hall:l.all goodQ with
  | false =>
   refine ⟨(zF,false),?_,?_,Eu,fun qs e h _=>?_⟩
   ·unfold CS
    rw[decide_eq_false (by omega),cF,LJ hl hb,obs,hall,nF,cT]
    rfl
   ·unfold EE
    rw[LZ,obs]
    simp only[rq_e,peta]
    have sl':=sl (rqF 0)
    rw[hall,if_neg (by simp)] at sl'
    have sl2:loopM (fun (s:(RF×(RF×((List RQ)×((List RQ)×(Int×Int))))))=>Bo s.1 s.2.1 s.2.2.1 s.2.2.2.1 s.2.2.2.2.1 s.2.2.2.2.2) ((false,([],(false,[]))),(rqF 0,(l,(l,((l.length:Int),(0:Int))))))=_:=sl'
    rw[sl2,obs,sEr]
   ·rw[e,Ak4 h] at hall; cases hall
  | true =>
   obtain ⟨qs,hqs,el⟩:=SK hall
   have hlen:qs.length≤64:=by rw[el,List.length_map] at h64; exact h64
   have hfin:Sz 4000 (sumQ qs):=by
    have:=XP hqs hlen qs.length (Nat.le_refl _)
    rw[List.take_length] at this
    exact this.mono (by omega)
   refine ⟨fitsQ (sumQ qs),?_,?_,K8 _,fun qs' e h _=>?_⟩
   ·unfold CS
    rw[decide_eq_false (by omega),cF,LJ hl hb,obs,hall,nT,cF,WN,obs]
    simp only[rq_e,peta]
    have k0:=Tp hqs hlen qs.length 0 (by omega)
    have k1:loopM (fun (s:(RF×(RF×((List RQ)×(Int×Int)))))=>CG s.1 s.2.1 s.2.2.1 s.2.2.2.1 s.2.2.2.2) ((false,([],(false,[]))),(rqF 0,(qs.map rq,((qs.length:Int),(0:Int)))))=some (zF,rqF (sumQ qs)):=k0
    rw[el,List.length_map,k1,obs]
    simp only[rq_e,peta]
    rw[NO,obs]
   ·unfold EE
    rw[LZ,obs]
    simp only[rq_e,peta]
    have sl':=sl (rqF 0)
    rw[hall,if_pos rfl] at sl'
    have sl2:loopM (fun (s:(RF×(RF×((List RQ)×((List RQ)×(Int×Int))))))=>Bo s.1 s.2.1 s.2.2.1 s.2.2.2.1 s.2.2.2.2.1 s.2.2.2.2.2) ((false,([],(false,[]))),(rqF 0,(l,(l,((l.length:Int),(0:Int))))))=_:=sl'
    have k0:=Uy hqs hlen qs.length 0 (by omega)
    have k1:loopM (fun (s:(RF×(RF×((List RQ)×(Int×Int)))))=>CF s.1 s.2.1 s.2.2.1 s.2.2.2.1 s.2.2.2.2) (zF,(rqF 0,(qs.map rq,((qs.length:Int),(0:Int)))))=some (zF,rqF (sumQ qs)):=k0
    rw[sl2,obs,sEl]
    simp only
    rw[decide_eq_false (by omega),cF,el,List.length_map,k1,obs]
    simp only[rq_e,peta]
    rw[Nf (k:=4000) (by omega) hfin,obs]
   ·have inj:∀ u v:List Rat,u.map rq=v.map rq→u=v:=by
     intro u
     induction u with
     | nil=>intro v hv; cases v with
      | nil=>rfl
      | cons a t=>cases hv
     | cons b u ih=>intro v hv; cases v with
      | nil=>cases hv
      | cons a t =>
       rw[List.map_cons,List.map_cons] at hv
       obtain ⟨i1,i2⟩:=List.cons.inj hv
       rw[Ag1 i1,ih t i2]
    rw[inj qs' qs (by rw[←e,el])]
 ·refine ⟨(zF,false),?_,?_,Eu,fun qs e h h'=>?_⟩
  ·unfold CS
   rw[decide_eq_true (by omega),cT]
   rfl
  ·unfold EE
   rw[LZ,obs]
   simp only[rq_e,peta]
   have sl':=sl (rqF 0)
   have sl2:loopM (fun (s:(RF×(RF×((List RQ)×((List RQ)×(Int×Int))))))=>Bo s.1 s.2.1 s.2.2.1 s.2.2.2.1 s.2.2.2.2.1 s.2.2.2.2.2) ((false,([],(false,[]))),(rqF 0,(l,(l,((l.length:Int),(0:Int))))))=_:=sl'
   rw[sl2,obs]
   cases hall:l.all goodQ with
   | false=>rw[if_neg (by simp),sEr]
   | true =>
    rw[if_pos rfl,sEl]
    simp only
    rw[decide_eq_true (by omega),cT]
    rfl
  ·rw[e,List.length_map] at h64; omega
theorem TU {l:List RQ} (hl:l.length≤1000) (h:∀ a∈l,Ar (unq a) (unq a)=some true):Dw l l=some true:=by
 unfold Dw
 rw[bne_self_eq_false,cF]
 obtain ⟨h1,h2⟩:=LS (l:=l) (body:=fun (s:((List RQ)×((List RQ)×(Int×Int))))=>BT s.1 s.2.1 s.2.2.1 s.2.2.2)
  (st:=fun k (b:Unit)=>(l,(l,((l.length:Int),(k:Int))))) (step:=fun b p=>()) (fin:=fun b=>.inl ()) (I:=fun k b=>True)
  (by
   rintro k b p hk _
   have hkl:=getL hk
   refine ⟨?_,trivial⟩
   show BT l l (l.length:Int) (k:Int)=_
   unfold BT
   rw[decide_eq_true (by omega),cT,Ak,hk,obs,obs]
   simp only[rq_e,peta,VK]
   rw[h p (List.mem_of_getElem? hk),obs,nT,cF,wrap1 (by omega)])
  (by
   rintro b _
   show BT l l (l.length:Int) (l.length:Int)=_
   unfold BT
   rw[decide_eq_false (by omega)]
   rfl) () trivial
 have h1':loopM (fun (s:((List RQ)×((List RQ)×(Int×Int))))=>BT s.1 s.2.1 s.2.2.1 s.2.2.2) (l,(l,((l.length:Int),(0:Int))))=_:=h1
 rw[h1']
 rfl
end Go.Proofs.YthipdlhknbhiiaaGreat.Ev

end
section
namespace Go.Proofs.YthipdlhknbhiiaaGreat.Ev
open Go
theorem NW {B':Nat} {c:List Int×Int×Int} (h:Cur B' c) (hB:B'≤90000000):∃ c' l,Bl c=some (c',l)∧Cur (B' + 200000) c'∧l.length≤100∧∀ x∈l,ShP x:=by
 unfold Bl
 obtain ⟨c0,v0,e0,q0⟩:=Fp h (by omega) 4
 simp only[peta]
 rw[e0,obs]
 cases v0 with
 | true =>
  obtain ⟨c',l,h1,h2,h3,h4⟩:=AM9 q0 (by omega)
  rw[nT,cF,h1,obs]
  exact ⟨c',l,rfl,h2.mono (by omega),h3,h4⟩
 | false =>
  obtain ⟨c1,w,e1,q1,g1⟩:=AC0 q0 (by omega)
  obtain ⟨l,ok,e2,n2,s2⟩:=Wv g1
  rw[nF,cT,e1,obs]
  simp only
  rw[e2,obs]
  exact ⟨c1,l,rfl,q1.mono (by omega),n2,s2⟩
theorem Ar4 {B':Nat} {c:List Int×Int×Int} (h:Cur B' c) (hB:B'≤800000000):∃ c' w,Cw c=some (c',w)∧Cur (B' + 100) c':=by
 unfold Cw
 obtain ⟨c0,v0,e0,q0,_⟩:=Aw h (by omega) 7
 obtain ⟨c1,v1,e1,q1,_⟩:=Aw q0 (by omega) 7
 obtain ⟨c2,v2,e2,q2,_⟩:=Aw q1 (by omega) 4
 obtain ⟨c3,v3,e3,q3,_⟩:=Aw q2 (by omega) 4
 obtain ⟨c4,v4,e4,q4⟩:=Fp q3 (by omega) 20
 simp only[peta]
 rw[e0,obs,e1,obs,e2,obs,e3,obs,e4,obs]
 cases v4 with
 | false=>exact ⟨c4,_,rfl,q4.mono (by omega)⟩
 | true =>
  obtain ⟨c5,v5,e5,q5,_⟩:=EU q4 (by omega) [-(20:Int),20,21] (by simp) (by simp)
  obtain ⟨c6,v6,e6,q6,_⟩:=Aw q5 (by omega) 3
  obtain ⟨c7,v7,e7,q7,_⟩:=EU q6 (by omega) [(0:Int),8,9] (by simp) (by simp)
  simp only[cT]
  rw[e5,obs,e6,obs,e7,obs]
  exact ⟨c7,_,rfl,q7.mono (by omega)⟩
theorem Z4 {b:List Int} (h:Cur 0 (b,0,0)):∃ l w,BL b=some (l,w)∧l.length≤100∧∀ x∈l,ShP x:=by
 obtain ⟨c0,l,e0,q0,n0,s0⟩:=NW h (by omega)
 obtain ⟨c1,w,e1,q1⟩:=Ar4 q0 (by omega)
 unfold BL
 simp only[peta]
 rw[e0,obs,e1,obs]
 exact ⟨l,w,rfl,n0,s0⟩
theorem Ad1 {b:List Int} (h:Cur 0 (b,0,0)):∃ l x y,B0 b=some (l,(x,y))∧l.length≤100∧∀ x∈l,ShP x:=by
 obtain ⟨c0,l,e0,q0,n0,s0⟩:=NW h (by omega)
 obtain ⟨c5,v5,e5,q5,_⟩:=EU q0 (by omega) [-(3:Int),0,1,2,3,28,29] (by simp) (by simp)
 obtain ⟨c6,v6,e6,q6,_⟩:=Aw q5 (by omega) 6
 unfold B0
 simp only[peta]
 rw[e0,obs]
 simp only
 rw[e5,obs,e6,obs]
 exact ⟨l,v5,_,rfl,n0,s0⟩
theorem AK0 {B':Nat} {c:List Int×Int×Int} (h:Cur B' c) (hB:B'≤800000000):∃ c' a,C3 c=some (c',a)∧Cur (B' + 10) c'∧ShF a:=by
 unfold C3
 obtain ⟨c5,v5,e5,q5,_⟩:=EU h (by omega) [(0:Int),1,1,1,2,-1] (by simp) (by simp)
 obtain ⟨c6,v6,e6,q6,_⟩:=EU q5 (by omega) [(1:Int),2,3,4] (by simp) (by simp)
 simp only[peta]
 rw[e5,obs,e6,obs,R7,obs]
 exact ⟨c6,(ratOfV v5 v6).1,rfl,q6.mono (by omega),LV _ _⟩
theorem Rd:∀ (n:Nat) (B':Nat) (c:List Int×Int×Int) (l:List RQ),Cur B' c→B' + 10*n≤700000000→l.length + n≤1000→(∀ x∈l,ShF (unq x)) →
  ∃ c' l',loopM (fun (s:((List Int×(Int×Int))×((List RQ)×Int)))=>Bn s.1 s.2.1 s.2.2) (c,(l,(n:Int)))=some (c',l')∧Cur (B' + 10*n) c'∧l'.length=l.length + n∧∀ x∈l',ShF (unq x)
 | 0,B',c,l,hc,_,_,hl=>by
  refine ⟨c,l,Am ?_,hc.mono (by omega),rfl,hl⟩
  show Bn c l ((0:Nat):Int)=_
  unfold Bn
  rfl
 | n + 1,B',c,l,hc,hB,hlen,hl=>by
  obtain ⟨c1,a,e1,q1,s1⟩:=AK0 hc (by omega)
  obtain ⟨c',l',h1,h2,h3,h4⟩:=Rd n (B' + 10) c1 (l ++ [toQ a]) q1 (by omega) (by simp; omega) (by
   intro y hy
   rcases List.mem_append.1 hy with hy | hy
   ·exact hl y hy
   ·rw[List.mem_singleton.1 hy,Aq0]; exact s1)
  refine ⟨c',l',?_,h2.mono (by omega),by rw[h3]; simp; omega,h4⟩
  have hgo:Bn c l ((n + 1:Nat):Int)=some (.inl (c1,(l ++ [toQ a],(n:Int)))):=by
   unfold Bn
   rw[decide_eq_true (by omega)]
   simp only[cT,peta]
   rw[e1,obs]
   have e:((((a.1,a.2.1),a.2.2)):RQ)=toQ a:=rfl
   rw[e,appQ (by omega),obs,wrapI (by omega) (by omega),show ((n + 1:Nat):Int)-1=(n:Int) by omega]
  exact (AH (f:=fun (s:((List Int×(Int×Int))×((List RQ)×Int)))=>Bn s.1 s.2.1 s.2.2) (s:=(c,(l,((n + 1:Nat):Int)))) hgo).trans h1
theorem AH9 {b:List Int} (h:Cur 0 (b,0,0)):∃ l,CY b=some l∧l.length≤100∧∀ x∈l,ShF (unq x):=by
 unfold CY
 obtain ⟨c0,v0,e0,q0,a0,b0⟩:=Aw h (by omega) 6
 obtain ⟨c1,v1,e1,q1⟩:=Fp q0 (by omega) 20
 have b0:=b0 (by omega)
 simp only[peta]
 rw[e0,obs,e1,obs]
 have fin:∀ (c3:List Int×Int×Int) (v:Int),Cur 100 c3→0≤v→v≤70→∃ l,((loopM (fun (s:((List Int×(Int×Int))×((List RQ)×Int)))=>Bn s.1 s.2.1 s.2.2) (c3,(([]:List RQ),v))).bind fun x6 =>
  bif decide (((x6.2.length:Nat):Int)>(0:Int)) then
   ((Ap x6.1 (12:Int))).bind fun x7 =>
   bif x7.2 then
    ((BI x7.1)).bind fun x8 =>
    ((idxI (0:Int) (List.length x6.2))).bind fun x9 =>
    ((getN x6.2 x9)).bind fun x10 =>
    some (List.set x6.2 x9 ((x8.2.1,x8.2.2.1),x8.2.2.2))
   else
   some x6.2
  else
  some x6.2)=some l∧l.length≤100∧∀ x∈l,ShF (unq x):=by
  intro c3 v q3 hv0 hv1
  obtain ⟨n,rfl⟩:∃ n:Nat,v=(n:Int):=⟨v.toNat,by omega⟩
  obtain ⟨c4,l,h1,h2,h3,h4⟩:=Rd n 100 c3 [] q3 (by omega) (by simp; omega) (by simp)
  have h3:l.length=n:=by rw[h3]; simp
  rw[h1,obs]
  simp only
  by_cases hn:n=0
  ·rw[decide_eq_false (by omega),cF]
   exact ⟨l,rfl,by omega,h4⟩
  ·obtain ⟨c5,v5,e5,q5⟩:=Fp h2 (by omega) 12
   rw[decide_eq_true (by omega),cT,e5,obs]
   cases v5 with
   | false=>exact ⟨l,rfl,by omega,h4⟩
   | true =>
    obtain ⟨c6,a,e6,q6,s6⟩:=Ag8 q5 (by omega)
    have hg:l[0]? = some l[0]:=List.getElem?_eq_getElem (by omega)
    have i0:idxI (0:Int) l.length=some 0:=AN (i:=0) (by omega)
    have g0:getN l 0=some l[0]:=hg
    simp only[cT]
    rw[e6,obs,i0,obs,g0,obs]
    refine ⟨_,rfl,by rw[List.length_set]; omega,fun x hx=>?_⟩
    rcases List.mem_or_eq_of_mem_set hx with hx | rfl
    ·exact h4 x hx
    ·exact s6
 cases v1 with
 | true =>
  obtain ⟨c2,v2,e2,q2,a2,b2⟩:=Aw q1 (by omega) 2
  have b2:=b2 (by omega)
  simp only[cT]
  rw[e2,obs,obs,sEr,wrapI (by omega) (by omega)]
  exact fin c2 (64 + v2) (q2.mono (by omega)) (by omega) (by omega)
 | false =>
  simp only[cF]
  rw[obs,sEr]
  exact fin c1 v0 (q1.mono (by omega)) (by omega) (by omega)
theorem Al5 {l:List RPt} (hl:l.length≤1000) (hb:∀ x∈l,BrP x) {x y:Int} (hx : -90≤x∧x≤90) (hy : -90≤y∧y≤90):Ar (shV l x y).1 (shV l x y).1=some true:=by
 obtain ⟨_,_,h1,h2⟩:=Hh hl hb hx hy
 cases h:(shV l x y).2 with
 | false=>rw[h1 h]; exact Eu
 | true =>
  obtain ⟨ps,_,_,_,hz,e⟩:=h2 h
  rw[e]
  exact IL (k:=40) (by omega) hz
theorem Aa7 {l:List RPt} (hl:l.length≤1000) (hb:∀ x∈l,BrP x) (x y:Int):∃ f:RF×Bool,Bc l x y=some f∧CI l x y=some f∧Ar f.1 f.1=some true:=by
 have hz:zF=((false,([],(false,[]))):RF):=rfl
 cases wx:within x (-20) 28 with
 | false =>
  refine ⟨(zF,false),?_,?_,Eu⟩
  ·unfold Bc
   rw[A2 (by omega) hb,obs]
   cases goodR l with
   | false=>rw[nF,cT]; rfl
   | true=>rw[nT,cF,Di,obs,wx,nF,cT]; rfl
  ·unfold CI CO
   rw[Ja,obs,obs,wx,nF,cT]; rfl
 | true =>
  cases wy:within y (-20) 28 with
  | false =>
   refine ⟨(zF,false),?_,?_,Eu⟩
   ·unfold Bc
    rw[A2 (by omega) hb,obs]
    cases goodR l with
    | false=>rw[nF,cT]; rfl
    | true=>rw[nT,cF,Di,obs,wx,nT,cF,Di,obs,wy,nF,cT]; rfl
   ·unfold CI CO
    rw[Ja,obs,obs,wx,nT,cF,Ja,obs,obs,wy,nF,cT]; rfl
  | true =>
   have hx:=Dg.1 wx
   have hy:=Dg.1 wy
   obtain ⟨s1,s2,s5,s4⟩:=Hh hl hb (x:=x) (y:=y) (by omega) (by omega)
   have s3:=Al5 hl hb (x:=x) (y:=y) (by omega) (by omega)
   refine ⟨shV l x y,?_,?_,s3⟩
   ·unfold Bc
    simp only[rq_e,peta]
    rw[A2 (by omega) hb,obs]
    cases hg:goodR l with
    | false =>
     have h0:(shV l x y).2=false:=by
      cases h:(shV l x y).2 with
      | false=>rfl
      | true =>
       obtain ⟨ps,hps,el,_⟩:=s4 h
       rw[el,Ed.2 hps] at hg
       cases hg
     rw[nF,cT,s5 h0]; rfl
    | true=>rw[nT,cF,Di,obs,wx,nT,cF,Di,obs,wy,nT,cF,s1,obs]
   ·unfold CI CO
    simp only[rq_e,peta]
    rw[Ja,obs,obs,wx,nT,cF,Ja,obs,obs,wy,nT,cF,s2,obs]
theorem XJ {l:List RPt} (hl:l.length≤1000) (hb:∀ x∈l,BrP x) (hg:goodR l=true) {x y:Int} (hx : -20≤x∧x≤28) (hy : -20≤y∧y≤28):Bc l x y=some (shV l x y):=by
 obtain ⟨s1,s2,s5,s4⟩:=Hh hl hb (x:=x) (y:=y) (by omega) (by omega)
 unfold Bc
 simp only[rq_e,peta]
 rw[A2 (by omega) hb,obs,hg,nT,cF,Di,obs,Dg.2 (by omega),nT,cF,Di,obs,Dg.2 (by omega),nT,cF,s1,obs]
theorem ZE {b:List Int} (hb:Cur 0 (b,0,0)) :
  (((B0 b)).bind fun x24 =>
  ((Bc x24.1 x24.2.1 x24.2.2)).bind fun x25 =>
  ((CI x24.1 x24.2.1 x24.2.2)).bind fun x26 =>
  ((CY b)).bind fun x27 =>
  ((CS x27)).bind fun x28 =>
  ((EE x27)).bind fun x29 =>
  bif (x25.2==x26.2) then
   ((Ar x25.1 x26.1)).bind fun x30 =>
   bif x30 then
    bif (x28.2==x29.2) then
     ((Ar x28.1 x29.1)).bind fun x31 =>
     some x31
    else
    some false
   else
   some false
  else
  some false)=some true:=by
 obtain ⟨l,x,y,e,n0,s0⟩:=Ad1 hb
 obtain ⟨f,f1,f2,f3⟩:=Aa7 (l:=l) (by omega) (fun x hx=>(s0 x hx).br) x y
 obtain ⟨m,em,nm,sm⟩:=AH9 hb
 obtain ⟨g,g1,g2,g3,_⟩:=An0 (l:=m) (by omega) (fun x hx=>(sm x hx).br)
 rw[e,obs]
 simp only
 rw[f1,obs,f2,obs,em,obs,g1,obs,g2,obs,beq_self_eq_true,cT,f3,obs,cT,beq_self_eq_true,cT,g3,obs]
theorem R4 {n:Int} (h : -100≤n∧n≤100):BN n 1=some (rqF (n:Rat),true):=by
 have e:Rat.divInt n 1=(n:Rat):=by
  rw[Rat.divInt_eq_div,show ((1:Int):Rat)=1 from rfl]
  grind
 rw[AK9,Ai6 (by omega) (by omega) (by omega),e]
theorem At5 {a:List Int} (ha:Cur 0 (a,0,0)):∃ (l:List RPt) (w:WinT) (f:List RQ×Bool),BL a=some (l,w)∧(BG l w=some f∧Cc l w=some f∧Dw f.1 f.1=some true) ∧
  (f.2=true→∃ (s6:RF×Bool) (f11:List RPt×Bool) (f12:RF×Bool) (r7 r8 r9 r10:RF),CS f.1=some s6∧BN w.1 1=some (r7,true)∧BN w.2.1 1=some (r8,true)∧BN (IntKind.wrap .i64 (w.1 + w.2.2.1)) 1=some (r9,true)∧BN (IntKind.wrap .i64 (w.2.1 + w.2.2.2)) 1=some (r10,true) ∧
   AU l (r7.1,(r7.2.1,(r7.2.2.1,(r7.2.2.2,r8)))) (r9.1,(r9.2.1,(r9.2.2.1,(r9.2.2.2,r10))))=some f11∧B6 f11.1=some f12∧(((f.1.length:Nat):Int) != IntKind.wrap .i64 (w.2.2.1*w.2.2.2))=false ∧
   (s6.2=true→f11.2=true→f12.2=true→Ar s6.1 f12.1=some true) ∧
   ((((f.1.length:Nat):Int)==(0:Int))=false∧(w.2.2.1==(0:Int))=false) ∧
   ∀ n:Int,0≤n→n<1000003→∃ sh:RF×Bool,Bc l (IntKind.wrap .i64 (w.1 + (Int.tmod (Int.tmod n (f.1.length:Int)) w.2.2.1))) (IntKind.wrap .i64 (w.2.1 + (IntKind.wrap .i64 (Int.tdiv (Int.tmod n (f.1.length:Int)) w.2.2.1))))=some sh∧sh.2=true ∧
    getI f.1 (Int.tmod n (f.1.length:Int))=some (toQ sh.1)∧Ar sh.1 sh.1=some true):=by
 obtain ⟨l,w,e,n0,s0⟩:=Z4 ha
 have hb:∀ x∈l,BrP x:=fun x hx=>(s0 x hx).br
 obtain ⟨f,f1,f2,f3,f4⟩:=Ak2 (by omega) hb w
 refine ⟨l,w,f,e,⟨f1,f2,?_⟩,fun h=>?_⟩
 ·cases h:f.2 with
  | false=>rw[f3 h]; exact TU (by simp) (by simp)
  | true =>
   obtain ⟨hg,hw,hv⟩:=f4 h
   obtain ⟨w1,w2,w3,w4⟩:=Pl.1 hw
   obtain ⟨ps,hps,el⟩:=PO.1 hg
   obtain ⟨k1,k2,k3⟩:=Ac2 hps el (w:=w.2.2.1.toNat) (x:=w.1) (by omega) w.2.2.2.toNat w.2.1 f.1 (by omega) (by omega) hv
   have hlen:f.1.length=w.2.2.1.toNat*w.2.2.2.toNat:=by rw[k1,List.length_map,Nm]
   have:w.2.2.1.toNat*w.2.2.2.toNat≤8*8:=Nat.mul_le_mul (by omega) (by omega)
   refine TU (by omega) fun x hx=>?_
   rw[k1] at hx
   obtain ⟨q,hq,rfl⟩:=List.mem_map.1 hx
   rw[Af4]
   exact IL (k:=40) (by omega) (k2 q hq)
 ·obtain ⟨hg,hw,hv⟩:=f4 h
  obtain ⟨w1,w2,w3,w4⟩:=Pl.1 hw
  obtain ⟨ps,hps,el⟩:=PO.1 hg
  obtain ⟨k1,k2,k3⟩:=Ac2 hps el (w:=w.2.2.1.toNat) (x:=w.1) (by omega) w.2.2.2.toNat w.2.1 f.1 (by omega) (by omega) hv
  have hlen:f.1.length=w.2.2.1.toNat*w.2.2.2.toNat:=by rw[k1,List.length_map,Nm]
  have h64:w.2.2.1.toNat*w.2.2.2.toNat≤8*8:=Nat.mul_le_mul (by omega) (by omega)
  have hpos : 1*1≤w.2.2.1.toNat*w.2.2.2.toNat:=Nat.mul_le_mul (by omega) (by omega)
  have hmul:w.2.2.1*w.2.2.2=((w.2.2.1.toNat*w.2.2.2.toNat:Nat):Int):=by
   rw[Int.natCast_mul,Int.toNat_of_nonneg (by omega),Int.toNat_of_nonneg (by omega)]
  have hz:∀ q∈(winQ ps w.2.2.1.toNat w.1 w.2.2.2.toNat w.2.1).map (fun a=>a/2),Sz 40 q:=by
   intro q hq
   obtain ⟨a,ha',rfl⟩:=List.mem_map.1 hq
   exact k2 a ha'
  have el1:f.1=((winQ ps w.2.2.1.toNat w.1 w.2.2.2.toNat w.2.1).map (fun a=>a/2)).map rq:=by rw[k1,List.map_map]; rfl
  obtain ⟨s6,g1,_,_,g4⟩:=An0 (l:=f.1) (by omega) (fun x hx=>by
   rw[el1] at hx
   obtain ⟨q,hq,rfl⟩:=List.mem_map.1 hx
   exact Ts (k:=40) (by omega) (hz q hq))
  have g5:=g4 _ el1 hz (by rw[List.length_map,Nm]; omega)
  have c1:=Lz (x:=w.1) (y:=w.2.1) (by omega) (by omega)
  have c2:=Lz (x:=w.1 + w.2.2.1) (y:=w.2.1 + w.2.2.2) (by omega) (by omega)
  obtain ⟨f11,p1,_,p3,p4⟩:=Te (l:=l) (by omega) hb (Nt (k:=2) (by omega) c1) (Nt (k:=2) (by omega) c2)
  have hra:∃ m,SzR m∧f11.1=m.map rp∧(f11.2=true→m=boxQ (cornerQ w.1 w.2.1) (cornerQ (w.1 + w.2.2.1) (w.2.1 + w.2.2.2)) ps):=by
   cases hf:f11.2 with
   | false=>exact ⟨[],⟨by simp,by simp⟩,by rw[p3 hf]; rfl,fun h=>by cases h⟩
   | true =>
    obtain ⟨qs,lo,hi,hqs,_,_,_,_,el2,ea,ec,hm,ef⟩:=p4 hf
    have inj:∀ u v:List Q2,u.map rp=v.map rp→u=v:=by
     intro u
     induction u with
     | nil=>intro v hv; cases v with
      | nil=>rfl
      | cons a t=>cases hv
     | cons b u ih=>intro v hv; cases v with
      | nil=>cases hv
      | cons a t =>
       rw[List.map_cons,List.map_cons] at hv
       obtain ⟨i1,i2⟩:=List.cons.inj hv
       rw[MF i1,ih t i2]
    have e1:qs=ps:=inj _ _ (by rw[←el2,←el])
    rw[e1,MF ea.symm,MF ec.symm] at hm ef
    exact ⟨_,hm,by rw[ef],fun _=>rfl⟩
  obtain ⟨m,hm,em,hm2⟩:=hra
  refine ⟨s6,f11,fitsQ (area2 m/2),rqF (w.1:Rat),rqF (w.2.1:Rat),rqF ((w.1 + w.2.2.1:Int):Rat),rqF ((w.2.1 + w.2.2.2:Int):Rat),g1,R4 (by omega),R4 (by omega),by rw[wrapI (by omega) (by omega)]; exact R4 (by omega),by rw[wrapI (by omega) (by omega)]; exact R4 (by omega),
   by rw[Nx,Nx]; exact p1,by rw[em]; exact TF hm,by rw[wrapI (by rw[hmul]; omega) (by rw[hmul]; omega),hmul,hlen]; exact bne_self_eq_false _,fun j1 j2 j3=>?_,⟨beq_eq_false_iff_ne.2 (by omega),beq_eq_false_iff_ne.2 (by omega)⟩,fun n hn0 hn1=>?_⟩
  ·have hmm:=hm2 j2
   obtain ⟨u,hu⟩:∃ u,w.2.2.1.toNat=u + 1:=⟨w.2.2.1.toNat-1,by omega⟩
   obtain ⟨v,hv'⟩:∃ v,w.2.2.2.toNat=v + 1:=⟨w.2.2.2.toNat-1,by omega⟩
   have hsum:sumQ ((winQ ps w.2.2.1.toNat w.1 w.2.2.2.toNat w.2.1).map (fun a=>a/2))=area2 m/2:=by
    rw[WB,hu,hv',Vz,hmm,show w.1 + ((u + 1:Nat):Int)=w.1 + w.2.2.1 by omega,show w.2.1 + ((v + 1:Nat):Int)=w.2.1 + w.2.2.2 by omega]
   rw[g5,hsum]
   exact K8 _
  ·have hk:∃ k:Nat,Int.tmod n (f.1.length:Int)=(k:Int)∧k<w.2.2.1.toNat*w.2.2.2.toNat:=by
    have:=Int.emod_nonneg n (b:=(f.1.length:Int)) (by omega)
    have h2:=Int.emod_lt_of_pos n (b:=(f.1.length:Int)) (by omega)
    rw[Int.tmod_eq_emod_of_nonneg hn0]
    exact ⟨(n%(f.1.length:Int)).toNat,by omega,by omega⟩
   obtain ⟨k,ek,hk⟩:=hk
   have hW : 0<w.2.2.1.toNat:=by omega
   have hj:k/w.2.2.1.toNat<w.2.2.2.toNat:=by
    rw[Nat.div_lt_iff_lt_mul hW,Nat.mul_comm]; exact hk
   have hi:=Nat.mod_lt k hW
   have e1:Int.tmod (k:Int) w.2.2.1=((k%w.2.2.1.toNat:Nat):Int):=by
    rw[Int.tmod_eq_emod_of_nonneg (by omega),Int.natCast_emod,Int.toNat_of_nonneg (by omega)]
   have e2:Int.tdiv (k:Int) w.2.2.1=((k/w.2.2.1.toNat:Nat):Int):=by
    rw[Int.tdiv_eq_ediv_of_nonneg (by omega),Int.natCast_ediv,Int.toNat_of_nonneg (by omega)]
   obtain ⟨q1,q2⟩:=k3 (k/w.2.2.1.toNat) (k%w.2.2.1.toNat) hj hi
   have hdm:k/w.2.2.1.toNat*w.2.2.1.toNat + k%w.2.2.1.toNat=k:=Nat.div_add_mod' k _
   rw[hdm] at q2
   rw[ek,e1,e2]
   clear e1 e2 ek hdm
   generalize k/w.2.2.1.toNat=jj at q1 q2 hj ⊢
   generalize k%w.2.2.1.toNat=ii at q1 q2 hi ⊢
   have s3:=Al5 (l:=l) (by omega) hb (x:=w.1 + (ii:Int)) (y:=w.2.1 + (jj:Int)) (by omega) (by omega)
   refine ⟨shV l (w.1 + (ii:Int)) (w.2.1 + (jj:Int)),?_,q1,?_,s3⟩
   ·rw[wrapI (n:=w.1 + (ii:Int)) (by omega) (by omega),wrapI (n:=(jj:Int)) (by omega) (by omega),wrapI (n:=w.2.1 + (jj:Int)) (by omega) (by omega)]
    exact XJ (by omega) hb hg (by omega) (by omega)
   ·rw[Ak]; exact q2
theorem pureFnShares {a b:List Int} (ha:∀ x∈a,0≤x∧x≤255) (hb:∀ x∈b,0≤x∧x≤255) (la:a.length≤1000000000000000) (lb:b.length≤1000000000000000):E7 a b=some true:=by
 unfold E7
 rw[wrapI (by omega) (by omega)]
 by_cases hl:(a.length:Int) + (b.length:Int)>1048576
 ·rw[decide_eq_true hl]; rfl
 rw[decide_eq_false hl,cF]
 have ca:Cur 0 (a,0,0):=.start ha (by omega)
 have cb:Cur 0 (b,0,0):=.start hb (by omega)
 have last:=ZE cb
 obtain ⟨n,en,hn0,hn1⟩:=Ab8 hb (by omega)
 obtain ⟨l,w,f,e,⟨f1,f2,f3⟩,inn⟩:=At5 ca
 rw[e,obs]
 simp only[rq_e,peta,VK]
 rw[f1,obs,f2,obs,beq_self_eq_true,nT,cF,f3,obs,nT,cF,IR,obs,Jp,obs,beq_self_eq_true,nT,cF]
 cases h:f.2 with
 | false =>
  rw[cF,obs,sEr]
  exact last
 | true =>
  obtain ⟨s6,f11,f12,r7,r8,r9,r10,g1,g2,g3,g4,g5,g6,g7,g8,g9,⟨z1,z2⟩,g10⟩:=inn h
  obtain ⟨sh,k1,k2,k3,k4⟩:=g10 n hn0 hn1
  have tail:∀ o:Option ((Bool ⊕ List Int) ⊕ (WinT×(List Int×(List RPt×List RQ)))),o=some (.inr (w,(b,(l,f.1))))→(o.bind fun x14=>Sum.elim (fun x15=>some x15) (fun x16 =>
    ((DC x16.2.1)).bind fun x17 =>
    bif (((x16.2.2.2.length:Nat):Int)==(0:Int)) then
     none
    else
    bif (x16.1.2.2.1==(0:Int)) then
     none
    else
    bif (x16.1.2.2.1==(0:Int)) then
     none
    else
    ((Bc x16.2.2.1 (IntKind.wrap .i64 (x16.1.1 + (Int.tmod (Int.tmod x17 ((x16.2.2.2.length:Nat):Int)) x16.1.2.2.1))) (IntKind.wrap .i64 (x16.1.2.1 + (IntKind.wrap .i64 (Int.tdiv (Int.tmod x17 ((x16.2.2.2.length:Nat):Int)) x16.1.2.2.1)))))).bind fun x18 =>
    bif (!x18.2) then
     some (Sum.inl false)
    else
    ((getI x16.2.2.2 (Int.tmod x17 ((x16.2.2.2.length:Nat):Int)))).bind fun x19 =>
    ((Ar x18.1 (unq x19))).bind fun x20 =>
    bif (!x20) then
     some (Sum.inl false)
    else
    some (Sum.inr x16.2.1)) x14)=(some (Sum.inr b):Option (Bool ⊕ List Int)):=by
   rintro o rfl
   rw[obs,sEr]
   simp only
   rw[en,obs,z1,cF,z2,cF,cF,k1,obs,k2,nT,cF,k3,obs,Aq0,k4,obs,nT,cF]
  rw[cT,g1,obs,g2,obs,g3,obs,g4,obs,g5,obs]
  simp only
  rw[g6,obs,g7,obs,g8,cF]
  simp only[nT,cF]
  have mid:(bif s6.2 then bif f11.2 then bif f12.2 then (Ar s6.1 f12.1).bind fun x13=>bif !x13 then some (Sum.inl (Sum.inl false)) else some (Sum.inr (w,(b,(l,f.1)))) else some (Sum.inr (w,(b,(l,f.1)))) else some (Sum.inr (w,(b,(l,f.1)))) else some (Sum.inr (w,(b,(l,f.1)))))=(some (Sum.inr (w,(b,(l,f.1)))):Option ((Bool ⊕ List Int) ⊕ (WinT×(List Int×(List RPt×List RQ))))):=by
   cases j1:s6.2 with
   | false=>rw[cF]
   | true =>
    cases j2:f11.2 with
    | false=>rw[cT,cF]
    | true =>
     cases j3:f12.2 with
     | false=>rw[cT,cT,cF]
     | true=>rw[cT,cT,cT,g9 j1 j2 j3,obs,nT,cF]
  rw[tail _ mid,obs,sEr]
  exact last
end Go.Proofs.YthipdlhknbhiiaaGreat.Ev

end
section
namespace Go.Proofs.YthipdlhknbhiiaaGreat.Ev
open Go Go.RowKit Go.ChangeShapes Go.WideShapes Go.ChangeAt
def shs:List Sh:=[.sl 1 (.int .u8),.sl 1 (.int .u8)]
theorem fits:FitsL Tryz.prog [22,22] shs:=by
 have h:Fits Tryz.prog 22 (.sl 1 (.int .u8)):=.sl Tryz.underlying22 (by kernel_rfl) (by kernel_rfl) (.int Tryz.underlying5)
 exact ⟨h,h,trivial⟩
theorem bytes_wf {l:List Int} (h:WFC (.sl 1 (.int .u8)) l):(∀ x∈l,0≤x∧x≤255)∧l.length≤1000000000000000:=by
 have h1:∀ x∈l,(Lit.int .u8 x).wf=true:=h.1
 have h2:l.length*1≤maxBytes:=h.2
 refine ⟨fun x hx=>?_,by unfold maxBytes at h2; omega⟩
 have:=h1 x hx
 simp[Lit.wf,IntKind.min,IntKind.max,IntKind.bits,IntKind.signed] at this
 omega
theorem own:ownKnob Tryz.prog.godebug=none:=by kernel_rfl
theorem laid:laidOutB Tryz.prog=true:=by kernel_rfl
set_option maxRecDepth 100000 in
theorem lifted (os:Os) (started:os.Started) (H:Type) (enc:TypeId×Value→H) :
  ReturnsInHanded {} Tryz.checked os 6 .any (Rows.fnSharesSpec.pre6 enc Tryz.prog Tryz.f6 Rows.fnSharesRow.domain false) (Rows.fnSharesSpec.post enc Tryz.prog Tryz.f6 false true false false):=by
 refine returnsInHanded_of_change_sized (C:=Tryz.checked) own started (by kernel_rfl) Tryz.func6 (ChangeSpec.witness6 (enc:=enc) (C:=Tryz.checked) false ⟨#[],#[.slice none 0 0,.slice none 0 0],[]⟩ 8 (by kernel_rfl) (by kernel_rfl) (by kernel_rfl) (by kernel_rfl)) ?_
 intro W base args ds gs before hval hW hcnd hsz _
 exact X1 (P:=Tryz.prog) (J:=[]) (cf:=cf0) (ext:=ext0) (F:=fun x=>E7 x.1 x.2) (shs:=shs) (by kernel_rfl) AB1 U4 (fun d=>by kernel_rfl)
  (fun d hd=>pureFnShares (bytes_wf hd.1).1 (bytes_wf hd.2.1).1 (bytes_wf hd.1).2 (bytes_wf hd.2.1).2) rfl rfl rfl (by kernel_rfl) fits laid
  (fun t ht=>by
   have:t=22:=by simpa using ht
   subst this
   exact ⟨by kernel_rfl,of_decide_eq_true (by kernel_rfl)⟩) rfl
  (fun ds hl=>by
   match ds,hl with
   | [_,_],_=>rfl) (fun x hx=>absurd hx (List.not_mem_nil)) hval hW hsz
theorem over:Rows.fnSharesRow.holds Tryz.pinned (OpenSpec.ofChange Rows.fnSharesSpec) :=
 OpenClaim.holds_of_wide 6 Tryz.f6 rfl rfl rfl rfl rfl rfl rfl ⟨rfl,rfl,rfl,rfl,rfl⟩ rfl rfl rfl rfl rfl (by kernel_rfl) Tryz.func6 (by kernel_rfl)
  (of_decide_eq_true (by kernel_rfl)) (by unfold Func.isWrapper; first | (rw[if_pos (by decide +kernel)]; kernel_rfl) | (rw[if_neg (by decide +kernel)]; exact ⟨rfl,rfl⟩))
  (fun os started H enc _=>lifted os started H enc)
end Go.Proofs.YthipdlhknbhiiaaGreat.Ev
namespace Go.Proofs.YthipdlhknbhiiaaGreat
theorem fnShares_holds:Rows.FnSharesSaid:=Ev.over
#print axioms fnShares_holds
end Go.Proofs.YthipdlhknbhiiaaGreat

end
