/- Whatever comes in, the law of this claim answers true, and nothing that was handed in changes. -/
import Derived.Test.YtiijheppiboglaaGreatDoorKF
import Derived.Lib.Strings
import Derived.Lib.ItoaNum
import Derived.Lib.ItoaLen
import Derived.Lib.Join
import Derived.Lib.AtoiAllCases
import Derived.Test.YtiijheppiboglaaGreatDoorRows
import Derived.Test.YtiijheppiboglaaGreatDoorCards
import Derived.Test.YtiijheppiboglaaGreatDoorTie
import Derived.WalkKit
import Derived.ProofKit
import Derived.OpenShut
import Derived.ShutString
import Derived.ChangeOld
import Derived.Below
import Derived.SizedLaws
import Derived.SevenTiedAt
import Derived.LaidMore
import Derived.Lay
import Derived.Stop.Joined
import Derived.Test.YtiijheppiboglaaGreatDoorChecked
set_option maxHeartbeats 2000000
open Option renaming map_some → zd7
open List renaming getElem?_eq_getElem → za1,mem_of_getElem? → za3,all_eq_true → za5,drop_eq_getElem_cons → za9,mem_append → zb0,eq_nil_of_length_eq_zero → zb2,length_append → zb5,length_cons → zb7,map_cons → zb9,mem_cons → zc1,length_map → zc5,mem_singleton → zd0,drop_eq_nil_of_le → zd2,mem_map → zd3,getElem?_map → zd4,getElem?_drop → zd5,length_take → zd9,mem_cons_of_mem → ze4,drop_zero → ze5,append_assoc → ze6,take_add_one → ze7,cons_append → ze8,append_nil → zf1
open Bool renaming and_eq_true → za2,true_and → ze2,false_and → zf8
open Sum renaming elim_inr → za6,elim_inl → zg0
open Nat renaming le_refl → za7,zero_add → zf3
open Int renaming toNat_natCast → zc2,tdiv_eq_ediv_of_nonneg → zc7,natCast_mul → zf7
open Go.IntKind renaming wrap → zi, i64 → zj, u64 → zk
open Option.some renaming inj → zv, injEq → zx
open Sum renaming inl → zy, inr → zb
noncomputable section
set_option linter.unusedVariables false
set_option linter.unusedSimpArgs false
set_option linter.unusedSectionVars false
namespace Go.Proofs.YtiijheppiboglaaGreatDoor.Ev
open Go
theorem kc(p:Q2):((fl (rp p)).1,(fl (rp p)).2.1,(fl (rp p)).2.2.1,(fl (rp p)).2.2.2.1,rqF p.2)=fl (rp p):=(rfl)
section
variable {ps:List Q2} {lo hi:Q2} (hps:SzR ps) (hlo:SzP 2 lo) (hhi:SzP 2 hi)
include hps hlo hhi
theorem QS:SzN 8 ps/\SzN 60 (Fy false true lo.1 ps)/\SzN 424 (Fy false false hi.1 (Fy false true lo.1 ps))/\SzN 2972 (Fy true true lo.2 (Fy false false hi.1 (Fy false true lo.1 ps)))/\
  ((Pe lo hi ps).length<=640/\∀p∈Pe lo hi ps,SzP 20808 p):=by
 have h40:=hps.1;have s0:SzN 8 ps:=⟨by omega,hps.2⟩;obtain⟨l1,z1⟩:=T7 (K:=8) (by omega) s0 (hlo.1.mono (by omega)) false true;have s1:SzN 60 (Fy false true lo.1 ps):=⟨by omega,fun p hp=>(z1 p hp).mono (by omega)⟩;obtain⟨l2,z2⟩:=T7 (K:=60) (by omega) s1 (hhi.1.mono (by omega)) false false;have s2:SzN 424 (Fy false false hi.1 (Fy false true lo.1 ps)):=⟨by omega,fun p hp=>(z2 p hp).mono (by omega)⟩;obtain⟨l3,z3⟩:=T7 (K:=424) (by omega) s2 (hlo.2.mono (by omega)) true true
 have s3:SzN 2972 (Fy true true lo.2 (Fy false false hi.1 (Fy false true lo.1 ps))):=⟨by omega,fun p hp=>(z3 p hp).mono (by omega)⟩;obtain⟨l4,z4⟩:=T7 (K:=2972) (by omega) s3 (hhi.2.mono (by omega)) true false;refine⟨s0,s1,s2,s3,?_,fun p hp=>(z4 p hp).mono (by omega)⟩;unfold Pe;omega
theorem sB:Mj (ps.map rp) (fl (rp lo)) (fl (rp hi))=some ((Pe lo hi ps).map rp):=by
 obtain⟨s0,s1,s2,s3,_⟩:=QS hps hlo hhi;unfold Mj;simp only[A2,AR,Sc,Sd,Kd,Ke,kc];rw[Yw (K:=8) (by omega) s0 (hlo.1.mono (by omega)),obs,Yw (K:=60) (by omega) s1 (hhi.1.mono (by omega)),obs,Yw (K:=424) (by omega) s2 (hlo.2.mono (by omega)),obs,Yw (K:=2972) (by omega) s3 (hhi.2.mono (by omega)),obs];rfl
theorem xy:NL (ps.map rp) (fl (rp lo)) (fl (rp hi))=some ((Pe lo hi ps).map rp):=by
 obtain⟨s0,s1,s2,s3,_⟩:=QS hps hlo hhi;unfold NL;simp only[A2,AR,Sc,Sd,Kd,Ke,kc];rw[OO (K:=8) (by omega) s0 (hlo.1.mono (by omega)),obs,OO (K:=60) (by omega) s1 (hhi.1.mono (by omega)),obs,OO (K:=424) (by omega) s2 (hlo.2.mono (by omega)),obs,OO (K:=2972) (by omega) s3 (hhi.2.mono (by omega)),obs];rfl
end
def Uj(x:RPt):Bool:=(CE x.1&&CE x.2)&&(shQ 2 (fx x)&&shQ 2 (fy x))
theorem KT{x:RPt}:Uj x=true↔∃p,SzP 2 p/\x=rp p:=by
 constructor
 ·intro h;unfold Uj at h;simp only[za2]at h;obtain⟨⟨h1,h2⟩,h3,h4⟩:=h;obtain⟨a,ha,e1⟩:=Nm.1 h1;obtain⟨c,hc,e2⟩:=Nm.1 h2;have exy:x=(rq a,rq c):=by rw[<-e1,<-e2]
  have ex:fx x=rqF a:=by rw[exy];rfl
  have ey:fy x=rqF c:=by rw[exy];rfl
  rw[ex,X3]at h3;rw[ey,X3]at h4;exact⟨(a,c),⟨of_decide_eq_true h3,of_decide_eq_true h4⟩,by unfold rp;rw[<-e1,<-e2]⟩
 ·rintro⟨p,hp,rfl⟩;unfold Uj;rw[Kd,Ke,X3,X3,zp hp.1,zp hp.2,Bool.and_true,Bool.and_true,za2];exact⟨Uk (hp.1.mono (by omega)),Uk (hp.2.mono (by omega))⟩
theorem Iw{x:RPt}(h:BrP x):Hx (fl x) 2=some (Uj x):=by
 have hl:Hw [x.1,x.2]=some (CE x.1&&CE x.2):=by
  rw[eF (by simp) (by
   intro a ha;simp at ha;rcases ha with rfl|rfl
   ·exact h.1
   ·exact h.2)]
  simp
 have e:((((fl x).1,(fl x).2.1),(fl x).2.2.1,(fl x).2.2.2.1):RQ)=x.1:=rfl;have e':((((fl x).2.2.2.2.1,(fl x).2.2.2.2.2.1),(fl x).2.2.2.2.2.2):RQ)=x.2:=rfl;unfold Hx Uj;simp only[AR];rw[e,e',hl,obs];have s1:=N8 (fx x) 2;have s2:=N8 (fy x) 2;rw[show((2:Nat):Int)=2 from rfl]at s1 s2;cases hg:CE x.1&&CE x.2 with
 |false=>rfl
 |true=>
  rw[cT]
  try simp only[Sc,Sd]
  rw[s1,obs,ze2];cases shQ 2 (fx x)with
  |false=>rfl
  |true=>rw[cT,s2,obs,ze2]
theorem KG{x:RPt}(h:BrP x):MV (fl x)=some (Uj x):=by
 unfold MV Uj;simp only[AR,Sc,Sd];rw[bo h.1,obs,oS];cases h1:CE x.1 with
 |false=>rw[zf8,cF,zf8,zf8]
 |true=>
  cases h2:shQ 2 (fx x)with
  |false=>rw[Bool.and_false,cF,zf8,Bool.and_false]
  |true=>rw[Bool.and_true,cT,bo h.2,obs,oT,ze2,ze2]
section
variable {ps:List Q2} {lo hi:Q2} (hps:SzR ps) (hlo:SzP 2 lo) (hhi:SzP 2 hi) (hx:lo.1<=hi.1) (hy:lo.2<=hi.2)
include hps hlo hhi hx hy
theorem so:Cv (ps.map rp) (fl (rp lo)) (fl (rp hi))=some (Yi (Pe lo hi ps)):=by
 have hp:=hps.1;obtain⟨_,_,_,_,c1,c2⟩:=QS hps hlo hhi;unfold Cv;simp only[A2,AR,Sc,Sd,Kd,Ke,kc];rw[DE (by simp;omega) (R4 (k:=8) (by omega) hps.2),obs,I9.2 hps,nT,cF,Iw (ZI (k:=2) (by omega) hlo),obs,KT.2 ⟨lo,hlo,rfl⟩,nT,cF,Iw (ZI (k:=2) (by omega) hhi),obs,KT.2 ⟨hi,hhi,rfl⟩,nT,cF,Gc (k:=2) (by omega) hhi.1 hlo.1,obs,zq (Rat.not_lt.2 hx),cF,Gc (k:=2) (by omega) hhi.2 hlo.2,obs,zq (Rat.not_lt.2 hy),cF,sB hps hlo hhi,obs,cr (k:=20808) (by omega) (by omega) c2,obs]
theorem tB:Cx (ps.map rp) (fl (rp lo)) (fl (rp hi))=some (Yi (Pe lo hi ps)):=by
 have hp:=hps.1;obtain⟨_,_,_,_,c1,c2⟩:=QS hps hlo hhi;have nx:¬T9 lo.1 hi.1>0:=fun h=>Rat.not_lt.2 hx (MA.1 h)
 have ny:¬T9 lo.2 hi.2>0:=fun h=>Rat.not_lt.2 hy (MA.1 h)
 unfold Cx;simp only[A2,AR,Sc,Sd,Kd,Ke,kc];rw[Hn (by simp;omega) (R4 (k:=8) (by omega) hps.2),obs,I9.2 hps,nT,cF,KG (ZI (k:=2) (by omega) hlo),obs,KT.2 ⟨lo,hlo,rfl⟩,nT,cF,KG (ZI (k:=2) (by omega) hhi),obs,KT.2 ⟨hi,hhi,rfl⟩,nT,cF,OP (k:=2) (by omega) hlo.1 hhi.1,obs,zq nx,cF,OP (k:=2) (by omega) hlo.2 hhi.2,obs,zq ny,cF,xy hps hlo hhi,obs,tK (k:=20808) (by omega) (by omega) c2,obs]
end
theorem wH{m:List Q2}(h:(Yi m).2=true):SzR m/\Yi m=(m.map rp,true):=by
 unfold Yi at h⊢
 by_cases hg:IL (m.map rp)=true
 ·rw[zr hg];exact⟨I9.1 hg,rfl⟩
 ·rw[zw hg]at h;cases h
theorem ta{m:List Q2}(h:(Yi m).2=false):(Yi m).1=[]:=by
 unfold Yi at h⊢
 by_cases hg:IL (m.map rp)=true
 ·rw[zr hg]at h;cases h
 ·rw[zw hg]
theorem m8{l:List RPt}{a c:RPt}(hl:l.length<=1000)(hb:∀x∈l,BrP x)(ha:BrP a)(hc:BrP c):∃f,Cv l (fl a) (fl c)=some f/\Cx l (fl a) (fl c)=some f/\(f.2=false->f.1=[])/\
  (f.2=true->∃ps lo hi,SzR ps/\SzP 2 lo/\SzP 2 hi/\lo.1<=hi.1/\lo.2<=hi.2/\l=ps.map rp/\a=rp lo/\c=rp hi/\SzR (Pe lo hi ps)/\f=((Pe lo hi ps).map rp,true)):=by
 have bad:Cv l (fl a) (fl c)=some ([],false)->Cx l (fl a) (fl c)=some ([],false)->∃f,Cv l (fl a) (fl c)=some f/\Cx l (fl a) (fl c)=some f/\(f.2=false->f.1=[])/\
  (f.2=true->∃ps lo hi,SzR ps/\SzP 2 lo/\SzP 2 hi/\lo.1<=hi.1/\lo.2<=hi.2/\l=ps.map rp/\a=rp lo/\c=rp hi/\SzR (Pe lo hi ps)/\f=((Pe lo hi ps).map rp,true)):=
  fun h1 h2=>⟨_,h1,h2,fun _=>rfl,fun h=>by cases h⟩
 cases hg:IL l with
 |false=>
  refine bad ?_ ?_
  ·unfold Cv;rw[DE (by omega) hb,obs,hg,nF,cT]
  ·unfold Cx;rw[Hn (by omega) hb,obs,hg,nF,cT]
 |true=>
  cases g1:Uj a with
  |false=>
   refine bad ?_ ?_
   ·unfold Cv;simp only[A2,AR];rw[DE (by omega) hb,obs,hg,nT,cF,Iw ha,obs,g1,nF,cT]
   ·unfold Cx;simp only[A2,AR];rw[Hn (by omega) hb,obs,hg,nT,cF,KG ha,obs,g1,nF,cT]
  |true=>
   cases g2:Uj c with
   |false=>
    refine bad ?_ ?_
    ·unfold Cv;simp only[A2,AR];rw[DE (by omega) hb,obs,hg,nT,cF,Iw ha,obs,g1,nT,cF,Iw hc,obs,g2,nF,cT]
    ·unfold Cx;simp only[A2,AR];rw[Hn (by omega) hb,obs,hg,nT,cF,KG ha,obs,g1,nT,cF,KG hc,obs,g2,nF,cT]
   |true=>
    obtain⟨ps,hps,el⟩:=sn.1 hg;obtain⟨lo,hlo,ea⟩:=KT.1 g1;obtain⟨hi,hhi,ec⟩:=KT.1 g2;by_cases hx:lo.1<=hi.1
    ·by_cases hy:lo.2<=hi.2
     ·have q1:=so hps hlo hhi hx hy;have q2:=tB hps hlo hhi hx hy;rw[<-el,<-ea,<-ec]at q1 q2;refine⟨_,q1,q2,ta,fun h=> ?_⟩;obtain⟨o1,o2⟩:=wH h;exact⟨ps,lo,hi,hps,hlo,hhi,hx,hy,el,ea,ec,o1,o2⟩
     ·have hy':=Rat.not_le.1 hy;refine bad ?_ ?_
      ·unfold Cv;simp only[A2,AR];rw[DE (by omega) hb,obs,hg,nT,cF,Iw ha,obs,g1,nT,cF,Iw hc,obs,g2,nT,cF,ea,ec];simp only[A2,AR,Sc,Sd,Kd,Ke,kc];rw[Gc (k:=2) (by omega) hhi.1 hlo.1,obs,zq (Rat.not_lt.2 hx),cF,Gc (k:=2) (by omega) hhi.2 hlo.2,obs,zp hy',cT]
      ·unfold Cx;simp only[A2,AR];rw[Hn (by omega) hb,obs,hg,nT,cF,KG ha,obs,g1,nT,cF,KG hc,obs,g2,nT,cF,ea,ec];simp only[A2,AR,Sc,Sd,Kd,Ke,kc];have nx:¬T9 lo.1 hi.1>0:=fun h=>Rat.not_lt.2 hx (MA.1 h)
       rw[OP (k:=2) (by omega) hlo.1 hhi.1,obs,zq nx,cF,OP (k:=2) (by omega) hlo.2 hhi.2,obs,zp (MA.2 hy'),cT]
    ·have hx':=Rat.not_le.1 hx;refine bad ?_ ?_
     ·unfold Cv;simp only[A2,AR];rw[DE (by omega) hb,obs,hg,nT,cF,Iw ha,obs,g1,nT,cF,Iw hc,obs,g2,nT,cF,ea,ec];simp only[A2,AR,Sc,Sd,Kd,Ke,kc];rw[Gc (k:=2) (by omega) hhi.1 hlo.1,obs,zp hx',cT]
     ·unfold Cx;simp only[A2,AR];rw[Hn (by omega) hb,obs,hg,nT,cF,KG ha,obs,g1,nT,cF,KG hc,obs,g2,nT,cF,ea,ec];simp only[A2,AR,Sc,Sd,Kd,Ke,kc];rw[OP (k:=2) (by omega) hlo.1 hhi.1,obs,zp (MA.2 hx'),cT]
def ptQ(p:Int×Int):Q2:=((p.1:Rat),(p.2:Rat))
theorem UP{n:Int}(h1: -100000<=n)(h2:n<=100000):Sz 2 (n:Rat):=iJ (by have:B 2=4294967296:=rfl;omega) (by omega)
def SmP(p:Int×Int):Prop:=(-100000<=p.1/\p.1<=100000)/\(-100000<=p.2/\p.2<=100000)
theorem Ai6{p:Int×Int}(h:SmP p):SzP 2 (ptQ p):=⟨UP h.1.1 h.1.2,UP h.2.1 h.2.2⟩
theorem GP.sm{p:Int×Int}(h:GP p):SmP p:=by
 obtain⟨a,b,c,d⟩:=h;unfold SmP;omega
theorem bm{p:Int×Int}(h:SmP p):KL p=some (fl (rp (ptQ p))):=by
 obtain⟨⟨h1,h2⟩,h3,h4⟩:=h;unfold KL
 try simp only
 rw[Ri,obs,Ri,obs];rfl
theorem vN{w:List (Int×Int)}(hl:w.length<=1000)(h:∀p∈w,SmP p):NH w=some ((w.map ptQ).map rp):=by
 have key:∀(m k:Nat)(l:List RPt),k+m=w.length->l.length=k->Ad (fun(s:List RPt×(List (Int×Int))×Int×Int)=>DR s.1 s.2.1 s.2.2.1 s.2.2.2) (l,w,(w.length:Int),(k:Int))=some (l++((w.drop k).map ptQ).map rp):=by
  intro m
  induction m with
  |zero=>
   intro k l hk hlk;refine Ak ?_;show DR l w (w.length:Int) (k:Int)=_;unfold DR;rw[zq,zd2 (by omega)];simp[cF]
  |succ m ih=>
   intro k l hk hlk;have hlt:k<w.length:=by omega
   have hg:w[k]? =some w[k]:=za1 hlt;have hd:w.drop k=w[k]::w.drop (k+1):=za9 hlt;have gp:=h _ (za3 hg);generalize w[k]=p at hg hd gp;obtain⟨⟨g1,g2⟩,g3,g4⟩:=gp;have hb:DR l w (w.length:Int) (k:Int)=some (.inl (l++[rp (ptQ p)],w,(w.length:Int),((k+1:Nat):Int))):=by
    unfold DR;rw[zp,cT,Af,hg,obs]
    try simp only
    rw[Jp,obs,Jp,obs];simp only[AR];have e:(((((rqF (p.1:Rat)).1,(rqF (p.1:Rat)).2.1),(rqF (p.1:Rat)).2.2),((rqF (p.2:Rat)).1,(rqF (p.2:Rat)).2.1),(rqF (p.2:Rat)).2.2):RPt)=rp (ptQ p):=rfl;rw[e,ci (by omega),obs,Aw]
   refine(AP (f:=fun(s:List RPt×(List (Int×Int))×Int×Int)=>DR s.1 s.2.1 s.2.2.1 s.2.2.2) (s:=(l,w,(w.length:Int),(k:Int))) hb).trans ?_;rw[ih (k+1) _ (by omega) (by simp;omega),hd];simp
 have k0:=key w.length 0 [] (by omega) rfl;have k0':Ad (fun(s:List RPt×(List (Int×Int))×Int×Int)=>DR s.1 s.2.1 s.2.2.1 s.2.2.2) ((List.nil:List RPt),w,(w.length:Int),(0:Int))=_:=k0;unfold NH;rw[k0',obs];rfl
theorem cD{w:List (Int×Int)}(hl:w.length<=1000)(h:∀p∈w,SmP p):Ad (fun(s:List RPt×(List (Int×Int))×Int×Int)=>DS s.1 s.2.1 s.2.2.1 s.2.2.2) ((List.nil:List RPt),w,(w.length:Int),(0:Int))=some ((w.map ptQ).map rp):=by
 have key:∀(m k:Nat)(l:List RPt),k+m=w.length->l.length=k->Ad (fun(s:List RPt×(List (Int×Int))×Int×Int)=>DS s.1 s.2.1 s.2.2.1 s.2.2.2) (l,w,(w.length:Int),(k:Int))=some (l++((w.drop k).map ptQ).map rp):=by
  intro m
  induction m with
  |zero=>
   intro k l hk hlk;refine Ak ?_;show DS l w (w.length:Int) (k:Int)=_;unfold DS;rw[zq,zd2 (by omega)];simp[cF]
  |succ m ih=>
   intro k l hk hlk;have hlt:k<w.length:=by omega
   have hg:w[k]? =some w[k]:=za1 hlt;have hd:w.drop k=w[k]::w.drop (k+1):=za9 hlt;have gp:=h _ (za3 hg);generalize w[k]=p at hg hd gp;have hb:DS l w (w.length:Int) (k:Int)=some (.inl (l++[rp (ptQ p)],w,(w.length:Int),((k+1:Nat):Int))):=by
    unfold DS;rw[zp,cT,Af,hg,obs];simp only[AR];rw[bm gp,obs,oW,bL,ci (by omega),obs,Aw]
   refine(AP (f:=fun(s:List RPt×(List (Int×Int))×Int×Int)=>DS s.1 s.2.1 s.2.2.1 s.2.2.2) (s:=(l,w,(w.length:Int),(k:Int))) hb).trans ?_;rw[ih (k+1) _ (by omega) (by simp;omega),hd];simp
 exact key w.length 0 [] (by omega) rfl
theorem oX{w:List (Int×Int)}(h:Fe w=true):∀p∈w,SmP p:=by
 intro p hp;have:=(Gz.1 h).2 p hp;rw[Sg]at this;unfold SmP;omega
theorem Aa1{w:List (Int×Int)}(h:Fe w=true):SzR (w.map ptQ):=by
 have h12:=(Gz.1 h).1.2;refine⟨by rw[zc5];omega,fun p hp=> ?_⟩;obtain⟨q,hq,rfl⟩:=zd3.1 hp;exact(Ai6 (oX h q hq)).mono (by omega)
def D5(x y:Int):Q2:=((x:Rat),(y:Rat))
def sqA(ps:List Q2)(x y:Int):Rat:=J8 (Pe (D5 x y) (D5 (x+1) (y+1)) ps)
def UE(ps:List Q2)(y:Int):Nat->Int->List Rat
 |0,_=>[]
 |n+1,x=>sqA ps x y::UE ps y n (x+1)
def S5(ps:List Q2)(w:Nat)(x:Int):Nat->Int->List Rat
 |0,_=>[]
 |n+1,y=>UE ps y w x++S5 ps w x n (y+1)
theorem a8(ps:List Q2)(y:Int):∀(n:Nat)(x:Int),(UE ps y n x).length=n
 |0,_=>rfl
 |n+1,x=>by rw[UE,zb7,a8]
theorem mw(ps:List Q2)(w:Nat)(x:Int):∀(n:Nat)(y:Int),(S5 ps w x n y).length=w*n
 |0,_=>rfl
 |n+1,y=>by rw[S5,zb5,a8,mw,Nat.mul_succ];omega
theorem dW{x y:Int}(hx: -100<=x/\x<=100)(hy: -100<=y/\y<=100):SzP 2 (D5 x y):=⟨UP (by omega) (by omega),UP (by omega) (by omega)⟩
theorem ky{x y:Int}:(((rqF (x:Rat)).1,(rqF (x:Rat)).2.1,(rqF (x:Rat)).2.2.1,(rqF (x:Rat)).2.2.2,rqF (y:Rat)))=fl (rp (D5 x y)):=(rfl)
theorem nv{q:Rat}(h:(RU q).2=false):RU q=(zF,false):=by
 by_cases hz:Sz 40 q
 ·rw[KQ hz]at h;cases h
 ·exact Q1 hz
theorem tU{l:List RPt}(hl:l.length<=1000)(hb:∀x∈l,BrP x){x y:Int}(hx: -90<=x/\x<=90)(hy: -90<=y/\y<=90):∃f:RF×Bool,FW l x y=some f/\Gn l x y=some f/\(f.2=false->f=(zF,false))/\
  (f.2=true->∃ps,SzR ps/\l=ps.map rp/\SzR (Pe (D5 x y) (D5 (x+1) (y+1)) ps)/\Sz 40 (sqA ps x y/2)/\f=(rqF (sqA ps x y/2),true)):=by
 have c1:=dW (x:=x) (y:=y) (by omega) (by omega);have c2:=dW (x:=x+1) (y:=y+1) (by omega) (by omega);obtain⟨f,f1,f2,_,f4⟩:=m8 hl hb (ZI (k:=2) (by omega) c1) (ZI (k:=2) (by omega) c2);have i1:FW l x y=(bif !f.2 then some (zF,false)else(HV f.1).bind fun x5=>some (x5.1,x5.2)):=by
  unfold FW;rw[Jp,obs,Jp,obs,Ae,Jp,obs,Ae,Jp,obs];simp only[A2,AR];rw[ky,ky,f1,obs];rfl
 have s1:Gn l x y=(bif !f.2 then some (zF,false)else(JD f.1).bind fun x3=>(F2 x3).bind fun x4=>some (x4.1,x4.2)):=by
  have h1:SmP (x,y):=by unfold SmP;simp only;omega
  have h2:SmP (x+1,y+1):=by unfold SmP;simp only;omega
  unfold Gn;rw[bm h1,obs,Ae,Ae,bm h2,obs];simp only[A2,AR];rw[show ptQ (x,y)=D5 x y from rfl,show ptQ (x+1,y+1)=D5 (x+1) (y+1)from rfl,f2,obs];rfl
 rw[i1,s1];cases h:f.2 with
 |false=>
  exact⟨(zF,false),by rw[nF,cT],by rw[nF,cT],fun _=>rfl,fun h=>by cases h⟩
 |true=>
  obtain⟨ps,lo,hi,hps,hlo,hhi,hx',hy',el,ea,ec,hm,ef⟩:=f4 h;have e1:lo=D5 x y:=ik ea.symm;have e2:hi=D5 (x+1) (y+1):=ik ec.symm;rw[e1,e2]at hm ef;have ef1:f.1=(Pe (D5 x y) (D5 (x+1) (y+1)) ps).map rp:=by rw[ef]
  refine⟨RU (sqA ps x y/2),?_,?_,nv,fun hf=> ?_⟩
  ·rw[nT,cF,ef1,nH hm,obs];simp only[AR,sqA]
  ·rw[nT,cF,ef1,(X2 hm).1,obs,UL (k:=2722) (by omega) (X2 hm).2,obs];simp only[AR,sqA]
  ·by_cases hz:Sz 40 (sqA ps x y/2)
   ·exact⟨ps,hps,el,hm,hz,KQ hz⟩
   ·rw[Q1 hz]at hf;cases hf
def shV (l:List RPt) (x y:Int):RF×Bool:=(FW l x y).getD (zF,false)
theorem UO{l:List RPt}(hl:l.length<=1000)(hb:∀x∈l,BrP x){x y:Int}(hx: -90<=x/\x<=90)(hy: -90<=y/\y<=90):FW l x y=some (shV l x y)/\Gn l x y=some (shV l x y)/\((shV l x y).2=false->shV l x y=(zF,false))/\
  ((shV l x y).2=true->∃ps,SzR ps/\l=ps.map rp/\SzR (Pe (D5 x y) (D5 (x+1) (y+1)) ps)/\Sz 40 (sqA ps x y/2)/\shV l x y=(rqF (sqA ps x y/2),true)):=by
 obtain⟨f,h1,h2,h3',h4⟩:=tU hl hb hx hy;have e:shV l x y=f:=by unfold shV;rw[h1];rfl
 rw[e];exact⟨h1,h2,h3',h4⟩
def L5 (l:List RPt) (y:Int):Nat->Int->Option (List RQ)
 |0,_=>some []
 |n+1,x=>if(shV l x y).2=true then(L5 l y n (x+1)).map (toQ (shV l x y).1:: ·)else none
def J5 (l:List RPt) (w:Nat) (x:Int):Nat->Int->Option (List RQ)
 |0,_=>some []
 |n+1,y=>(L5 l y w x).bind fun r=>(J5 l w x n (y+1)).map (r++ ·)
abbrev Bh:=Int×(Int×Int×Int)
def cI{α:Type}(f:List RQ->α):Option (List RQ)->α⊕(List RQ×Bool)
 |some r=>.inl (f r)
 |none=>.inr ([],false)
theorem Ae8{l:List RQ}{x:RQ}(h:l.length<=100000):BV 64 4 l [x]=some (l++[x]):=Bu (by simp[Aa];omega) (by simp[Aa];omega)
section
variable {l:List RPt} (hl:l.length<=1000) (hb:∀x∈l,BrP x) {w:Bh} (w1: -40<=w.1/\w.1<=40) (w2: -40<=w.2.1/\w.2.1<=40) (w3:0<=w.2.2.1/\w.2.2.1<=40) (w4:0<=w.2.2.2/\w.2.2.2<=40)
include hl hb w1 w2 w3 w4
theorem al{y:Int}(hy:w.2.1<=y/\y<w.2.1+w.2.2.2):∀(n:Nat)(x:Int)(out:List RQ),x+(n:Int)=w.1+w.2.2.1->w.1<=x->out.length+n<=10000->
  Ad (fun(s:Bh×List RQ×List RPt×Int×Int)=>Cf s.1 s.2.1 s.2.2.1 s.2.2.2.1 s.2.2.2.2) (w,out,l,y,x)=
   some (cI (fun r=>(w,out++r,l,y)) (L5 l y n x))
 |0,x,out,hx,hx',ho=>by
  refine Ak ?_;show Cf w out l y x=_;unfold Cf;rw[Ae,zq,cF,L5];exact congrArg (fun z=>some (zb (zy (w,z,l,y)))) (zf1 out).symm
 |n+1,x,out,hx,hx',ho=>by
  obtain⟨s1,s2,_,s4⟩:=UO hl hb (x:=x) (y:=y) (by omega) (by omega);rw[L5];cases h:(shV l x y).2 with
  |false=>
   rw[zw (by simp)];refine Ak ?_;show Cf w out l y x=_;unfold Cf;rw[Ae,zp,cT,s1,obs,h,nF,cT];rfl
  |true=>
   rw[zr rfl];have hgo:Cf w out l y x=some (.inl (w,out++[toQ (shV l x y).1],l,y,x+1)):=by
    unfold Cf;rw[Ae (n:=w.1+w.2.2.1),zp,cT,s1,obs,h,nT,cF,Ae8 (by omega),obs,Ae (n:=x+1)];rfl
   refine(AP (f:=fun(s:Bh×List RQ×List RPt×Int×Int)=>Cf s.1 s.2.1 s.2.2.1 s.2.2.2.1 s.2.2.2.2) (s:=(w,out,l,y,x)) hgo).trans ?_;rw[al hy n (x+1) _ (by omega) (by omega) (by rw[zb5,List.length_singleton];omega)];cases L5 l y n (x+1)with
   |none=>rfl
   |some r=>simp[cI]
theorem bt{y:Int}(hy:w.2.1<=y/\y<w.2.1+w.2.2.2):∀(n:Nat)(x:Int)(out:List RQ),x+(n:Int)=w.1+w.2.2.1->w.1<=x->out.length+n<=10000->
  Ad (fun(s:Bh×List RQ×List RPt×Int×Int)=>Cg s.1 s.2.1 s.2.2.1 s.2.2.2.1 s.2.2.2.2) (w,out,l,y,x)=
   some (cI (fun r=>(w,out++r,l,y)) (L5 l y n x))
 |0,x,out,hx,hx',ho=>by
  refine Ak ?_;show Cg w out l y x=_;unfold Cg;rw[Ae,zq,cF,L5];exact congrArg (fun z=>some (zb (zy (w,z,l,y)))) (zf1 out).symm
 |n+1,x,out,hx,hx',ho=>by
  obtain⟨s1,s2,_,s4⟩:=UO hl hb (x:=x) (y:=y) (by omega) (by omega);rw[L5];cases h:(shV l x y).2 with
  |false=>
   rw[zw (by simp)];refine Ak ?_;show Cg w out l y x=_;unfold Cg;rw[Ae,zp,cT,s2,obs,h,nF,cT];rfl
  |true=>
   rw[zr rfl];have hgo:Cg w out l y x=some (.inl (w,out++[toQ (shV l x y).1],l,y,x+1)):=by
    unfold Cg;rw[Ae (n:=w.1+w.2.2.1),zp,cT,s2,obs,h,nT,cF,Ae8 (by omega),obs,Ae (n:=x+1)];rfl
   refine(AP (f:=fun(s:Bh×List RQ×List RPt×Int×Int)=>Cg s.1 s.2.1 s.2.2.1 s.2.2.2.1 s.2.2.2.2) (s:=(w,out,l,y,x)) hgo).trans ?_;rw[bt hy n (x+1) _ (by omega) (by omega) (by rw[zb5,List.length_singleton];omega)];cases L5 l y n (x+1)with
   |none=>rfl
   |some r=>simp[cI]
theorem ba(y:Int):∀(n:Nat)(x:Int)(r:List RQ),L5 l y n x=some r->r.length=n
 |0,x,r,h=>by
  rw[L5]at h;rw[<-zv h];rfl
 |n+1,x,r,h=>by
  rw[L5]at h;split at h
  ·cases hr:L5 l y n (x+1)with
   |none=>rw[hr]at h;cases h
   |some r'=>
    rw[hr]at h;rw[<-zv h,zb7,ba y n (x+1) r' hr]
  ·cases h
theorem aq:∀(n:Nat)(y:Int)(out:List RQ),y+(n:Int)=w.2.1+w.2.2.2->w.2.1<=y->out.length+40*n<=9000->
  Ad (fun(s:Bh×List RQ×List RPt×Int)=>BP s.1 s.2.1 s.2.2.1 s.2.2.2) (w,out,l,y)=
   some (cI (fun r=>out++r) (J5 l w.2.2.1.toNat w.1 n y))
 |0,y,out,hy,hy',ho=>by
  refine Ak ?_;show BP w out l y=_;unfold BP;rw[Ae,zq,cF,J5];exact congrArg (fun z=>some (zb (zy z))) (zf1 out).symm
 |n+1,y,out,hy,hy',ho=>by
  have row:=al hl hb w1 w2 w3 w4 (y:=y) (by omega) w.2.2.1.toNat w.1 out (by omega) (by omega) (by omega);rw[J5];cases h:L5 l y w.2.2.1.toNat w.1 with
  |none=>
   rw[h]at row;change _=some (zb (([]:List RQ),false))at row;refine Ak ?_;show BP w out l y=_;unfold BP;rw[Ae,zp,cT,row,obs,sEr];rfl
  |some r=>
   rw[h]at row;change _=some (zy (w,out++r,l,y))at row;have hlen:=ba hl hb w1 w2 w3 w4 y _ _ _ h;have hgo:BP w out l y=some (.inl (w,out++r,l,y+1)):=by
    unfold BP;rw[Ae (n:=w.2.1+w.2.2.2),zp,cT,row,obs,sEl,Ae (n:=y+1)]
   refine(AP (f:=fun(s:Bh×List RQ×List RPt×Int)=>BP s.1 s.2.1 s.2.2.1 s.2.2.2) (s:=(w,out,l,y)) hgo).trans ?_;rw[aq n (y+1) _ (by omega) (by omega) (by rw[zb5];omega)];show _=some (cI (fun r=>out++r) ((J5 l w.2.2.1.toNat w.1 n (y+1)).map (r++ ·)));cases J5 l w.2.2.1.toNat w.1 n (y+1)with
   |none=>rfl
   |some r'=>simp[cI]
theorem bu:∀(n:Nat)(y:Int)(out:List RQ),y+(n:Int)=w.2.1+w.2.2.2->w.2.1<=y->out.length+40*n<=9000->
  Ad (fun(s:Bh×List RQ×List RPt×Int)=>BQ s.1 s.2.1 s.2.2.1 s.2.2.2) (w,out,l,y)=
   some (cI (fun r=>out++r) (J5 l w.2.2.1.toNat w.1 n y))
 |0,y,out,hy,hy',ho=>by
  refine Ak ?_;show BQ w out l y=_;unfold BQ;rw[Ae,zq,cF,J5];exact congrArg (fun z=>some (zb (zy z))) (zf1 out).symm
 |n+1,y,out,hy,hy',ho=>by
  have row:=bt hl hb w1 w2 w3 w4 (y:=y) (by omega) w.2.2.1.toNat w.1 out (by omega) (by omega) (by omega);rw[J5];cases h:L5 l y w.2.2.1.toNat w.1 with
  |none=>
   rw[h]at row;change _=some (zb (([]:List RQ),false))at row;refine Ak ?_;show BQ w out l y=_;unfold BQ;rw[Ae,zp,cT,row,obs,sEr];rfl
  |some r=>
   rw[h]at row;change _=some (zy (w,out++r,l,y))at row;have hlen:=ba hl hb w1 w2 w3 w4 y _ _ _ h;have hgo:BQ w out l y=some (.inl (w,out++r,l,y+1)):=by
    unfold BQ;rw[Ae (n:=w.2.1+w.2.2.2),zp,cT,row,obs,sEl,Ae (n:=y+1)]
   refine(AP (f:=fun(s:Bh×List RQ×List RPt×Int)=>BQ s.1 s.2.1 s.2.2.1 s.2.2.2) (s:=(w,out,l,y)) hgo).trans ?_;rw[bu n (y+1) _ (by omega) (by omega) (by rw[zb5];omega)];show _=some (cI (fun r=>out++r) ((J5 l w.2.2.1.toNat w.1 n (y+1)).map (r++ ·)));cases J5 l w.2.2.1.toNat w.1 n (y+1)with
   |none=>rfl
   |some r'=>simp[cI]
end
def GX(w:Bh):Bool:=C7 w.1 (-20) 20&&(C7 w.2.1 (-20) 20&&(C7 w.2.2.1 1 8&&C7 w.2.2.2 1 8))
theorem Kz(w:Bh):Ci w=some (GX w):=by
 unfold Ci GX;rw[Lr,obs];cases C7 w.1 (-20) 20 with
 |false=>rfl
 |true=>
  rw[cT,Lr,obs];cases C7 w.2.1 (-20) 20 with
  |false=>rfl
  |true=>
   rw[cT,Lr,obs];cases C7 w.2.2.1 1 8 with
   |false=>rfl
   |true=>rw[cT,Lr,obs];rfl
theorem ON(w:Bh):EA w=some (GX w):=by
 unfold EA GX;rw[S0,obs];cases C7 w.1 (-20) 20 with
 |false=>rfl
 |true=>
  rw[cT,S0,obs];cases C7 w.2.1 (-20) 20 with
  |false=>rfl
  |true=>
   rw[cT,S0,obs];cases C7 w.2.2.1 1 8 with
   |false=>rfl
   |true=>rw[cT,S0,obs];rfl
theorem Fp{w:Bh}:GX w=true↔(-20<=w.1/\w.1<=20)/\(-20<=w.2.1/\w.2.1<=20)/\(1<=w.2.2.1/\w.2.2.1<=8)/\(1<=w.2.2.2/\w.2.2.2<=8):=by
 unfold GX;rw[za2,za2,za2,L2,L2,L2,L2]
theorem oL{l:List RPt}(hl:l.length<=1000)(hb:∀x∈l,BrP x)(w:Bh):∃f:List RQ×Bool,CR l w=some f/\D0 l w=some f/\
  (f.2=false->f.1=[])/\(f.2=true->IL l=true/\GX w=true/\J5 l w.2.2.1.toNat w.1 w.2.2.2.toNat w.2.1=some f.1):=by
 cases hw:GX w with
 |false=>
  refine⟨([],false),?_,?_,fun _=>rfl,fun h=>by cases h⟩
  ·unfold CR;simp only[A2,AR];rw[DE (by omega) hb,obs];cases IL l with
   |false=>rw[nF,cT]
   |true=>rw[nT,cF,Kz,obs,hw,nF,cT]
  ·unfold D0;simp only[A2,AR];rw[ON,obs,hw,nF,cT]
 |true=>
  obtain⟨w1,w2,w3,w4⟩:=Fp.1 hw;have il:=aq hl hb (w:=w) (by omega) (by omega) (by omega) (by omega) w.2.2.2.toNat w.2.1 [] (by omega) (by omega) (by simp;omega);have sl:=bu hl hb (w:=w) (by omega) (by omega) (by omega) (by omega) w.2.2.2.toNat w.2.1 [] (by omega) (by omega) (by simp;omega);have ss:D0 l w=some (match J5 l w.2.2.1.toNat w.1 w.2.2.2.toNat w.2.1 with|some r=>(r,true)|none=>(([]:List RQ),false)):=by
   unfold D0;simp only[A2,AR];have sl':Ad (fun(s:Bh×List RQ×List RPt×Int)=>BQ s.1 s.2.1 s.2.2.1 s.2.2.2) (w,(List.nil:List RQ),l,w.2.1)=_:=sl;rw[ON,obs,hw,nT,cF,sl',obs];cases J5 l w.2.2.1.toNat w.1 w.2.2.2.toNat w.2.1 with
   |none=>rfl
   |some r=>rfl
  cases hg:IL l with
  |false=>
   have hn:J5 l w.2.2.1.toNat w.1 w.2.2.2.toNat w.2.1=none:=by
    obtain⟨s1,s2,_,s4⟩:=UO hl hb (x:=w.1) (y:=w.2.1) (by omega) (by omega);have h0:(shV l w.1 w.2.1).2=false:=by
     cases h:(shV l w.1 w.2.1).2 with
     |false=>rfl
     |true=>
      obtain⟨ps,hps,el,_⟩:=s4 h;rw[el,I9.2 hps]at hg;cases hg
    obtain⟨n,hn⟩:∃n,w.2.2.1.toNat=n+1:=⟨w.2.2.1.toNat-1,by omega⟩;obtain⟨m,hm⟩:∃m,w.2.2.2.toNat=m+1:=⟨w.2.2.2.toNat-1,by omega⟩;rw[hn,hm,J5,L5,h0,zw (by simp)];rfl
   rw[hn]at ss;refine⟨([],false),?_,ss,fun _=>rfl,fun h=>by cases h⟩;unfold CR;rw[DE (by omega) hb,obs,hg,nF,cT]
  |true=>
   have ii:CR l w=some (match J5 l w.2.2.1.toNat w.1 w.2.2.2.toNat w.2.1 with|some r=>(r,true)|none=>(([]:List RQ),false)):=by
    unfold CR;simp only[A2,AR];have il':Ad (fun(s:Bh×List RQ×List RPt×Int)=>BP s.1 s.2.1 s.2.2.1 s.2.2.2) (w,(List.nil:List RQ),l,w.2.1)=_:=il;rw[DE (by omega) hb,obs,hg,nT,cF,Kz,obs,hw,nT,cF,il',obs];cases J5 l w.2.2.1.toNat w.1 w.2.2.2.toNat w.2.1 with
    |none=>rfl
    |some r=>rfl
   refine⟨_,ii,ss,?_,?_⟩
   ·cases J5 l w.2.2.1.toNat w.1 w.2.2.2.toNat w.2.1 with
    |none=>intro _;rfl
    |some r=>intro h;cases h
   ·cases J5 l w.2.2.1.toNat w.1 w.2.2.2.toNat w.2.1 with
    |none=>intro h;cases h
    |some r=>intro _;exact⟨rfl,rfl,rfl⟩
section
variable {l:List RPt} {ps:List Q2} (hps:SzR ps) (el:l=ps.map rp)
include hps el
theorem Ao7{x y:Int}(hx: -90<=x/\x<=90)(hy: -90<=y/\y<=90)(h:(shV l x y).2=true):Sz 40 (sqA ps x y/2)/\shV l x y=(rqF (sqA ps x y/2),true):=by
 have h40:=hps.1;obtain⟨_,_,_,s4⟩:=UO (l:=l) (by rw[el];simp;omega) (by rw[el];exact R4 (k:=8) (by omega) hps.2) hx hy;obtain⟨qs,hqs,e,_,k1,k2⟩:=s4 h;have inj:∀u v:List Q2,u.map rp=v.map rp->u=v:=by
  intro u
  induction u with
  |nil=>intro v hv;cases v with
   |nil=>rfl
   |cons a t=>cases hv
  |cons b u ih=>intro v hv;cases v with
   |nil=>cases hv
   |cons a t=>
    rw[zb9,zb9]at hv;obtain⟨i1,i2⟩:=List.cons.inj hv;rw[ik i1,ih t i2]
 have e2:qs=ps:=inj _ _ (by rw[<-e,el]);rw[e2]at k1 k2;exact⟨k1,k2⟩
theorem xf{y:Int}(hy: -90<=y/\y<=90):∀(n:Nat)(x:Int)(r:List RQ),-90<=x->x+(n:Int)<=90->L5 l y n x=some r->r=(UE ps y n x).map (fun a=>rq (a/2))/\(∀a∈UE ps y n x,Sz 40 (a/2))/\∀i:Nat,i<n->(shV l (x+(i:Int)) y).2=true/\r[i]? =some (toQ (shV l (x+(i:Int)) y).1)
 |0,x,r,_,_,h=>by
  rw[L5]at h;rw[<-zv h];exact⟨rfl,fun a ha=>(by cases ha),fun i hi=>(by omega)⟩
 |n+1,x,r,h1,h2,h=>by
  rw[L5]at h;split at h
  ·rename_i hs;cases hr:L5 l y n (x+1)with
   |none=>rw[hr]at h;cases h
   |some r'=>
    rw[hr]at h;obtain⟨k1,k2⟩:=Ao7 hps el (x:=x) (y:=y) (by omega) hy hs;obtain⟨j1,j2,j3⟩:=xf hy n (x+1) r' (by omega) (by omega) hr;have hr':toQ (shV l x y).1::r'=r:=zv h;refine⟨?_,?_,?_⟩
    ·rw[<-hr',k2,j1,UE,zb9];rfl
    ·intro a ha;rw[UE]at ha;rcases zc1.1 ha with rfl|ha
     ·exact k1
     ·exact j2 a ha
    ·intro i hi;cases i with
     |zero=>
      rw[show x+((0:Nat):Int)=x by omega,<-hr'];exact⟨hs,rfl⟩
     |succ i=>
      obtain⟨q1,q2⟩:=j3 i (by omega);rw[show x+((i+1:Nat):Int)=x+1+(i:Int) by omega,<-hr'];exact⟨q1,by rw[List.getElem?_cons_succ];exact q2⟩
  ·cases h
theorem yh{w:Nat}{x:Int}(hx: -90<=x/\x+(w:Int)<=90):∀(n:Nat)(y:Int)(r:List RQ),-90<=y->y+(n:Int)<=90->J5 l w x n y=some r->r=(S5 ps w x n y).map (fun a=>rq (a/2))/\(∀a∈S5 ps w x n y,Sz 40 (a/2))/\
  ∀j i:Nat,j<n->i<w->(shV l (x+(i:Int)) (y+(j:Int))).2=true/\r[j*w+i]? =some (toQ (shV l (x+(i:Int)) (y+(j:Int))).1)
 |0,y,r,_,_,h=>by
  rw[J5]at h;rw[<-zv h];exact⟨rfl,fun a ha=>(by cases ha),fun j i hj=>(by omega)⟩
 |n+1,y,r,h1,h2,h=>by
  rw[J5]at h;cases hr:L5 l y w x with
  |none=>rw[hr]at h;cases h
  |some r1=>
   rw[hr]at h;have h:(J5 l w x n (y+1)).map (r1++ ·)=some r:=h;cases hw:J5 l w x n (y+1)with
   |none=>rw[hw]at h;cases h
   |some r2=>
    rw[hw]at h;have hrr:r1++r2=r:=zv h;obtain⟨j1,j2,j3⟩:=xf hps el (y:=y) (by omega) w x r1 (by omega) (by omega) hr;obtain⟨k1,k2,k3⟩:=yh hx n (y+1) r2 (by omega) (by omega) hw;have len1:r1.length=w:=by rw[j1,zc5,a8]
    refine⟨?_,?_,?_⟩
    ·rw[<-hrr,j1,k1,S5,List.map_append]
    ·intro a ha;rw[S5]at ha;rcases zb0.1 ha with ha|ha
     ·exact j2 a ha
     ·exact k2 a ha
    ·intro j i hj hi;cases j with
     |zero=>
      obtain⟨q1,q2⟩:=j3 i hi;rw[show y+((0:Nat):Int)=y by omega,<-hrr,Nat.zero_mul,zf3,List.getElem?_append_left (by omega)];exact⟨q1,q2⟩
     |succ j=>
      obtain⟨q1,q2⟩:=k3 j i (by omega) hi;rw[show y+((j+1:Nat):Int)=y+1+(j:Int) by omega,<-hrr,Nat.succ_mul,List.getElem?_append_right (by omega),len1,show j*w+w+i-w=j*w+i by omega];exact⟨q1,q2⟩
end
theorem nS{b:List Int}(hb:∀x∈b,0<=x/\x<=255)(hl:b.length<=1048576):∃n:Int,H3 b=some n/\0<=n/\n<1000003:=by
 obtain⟨n,h1,h2⟩:=Bw (body:=fun(s:Int×List Int×Int×Int)=>Dx s.1 s.2.1 s.2.2.1 s.2.2.2)
  (st:=fun k (n:Int)=>(n,b,(b.length:Int),(k:Int))) (fin:=fun n=>n) (I:=fun k n=>0<=n/\n<1000003) b.length
  (by
   rintro k n hk ⟨g1,g2⟩;have he:b[k]? =some b[k]:=za1 hk;generalize b[k]=x at he;have hx:=hb x (za3 he);refine⟨(31*n+x).tmod 1000003,?_,UU (by omega) (by omega)⟩;show Dx n b (b.length:Int) (k:Int)=_;unfold Dx;rw[zp (show(k:Int)<(b.length:Int) by omega),cT,Af,he,obs,Ae (n:=31*n),Ae (n:=x),Ae (n:=31*n+x),Ae (n:=(k:Int)+1)];rfl)
  (by
   rintro n _;show Dx n b (b.length:Int) (b.length:Int)=_;unfold Dx;rw[zq];rfl) 0 0 (by omega) ⟨by omega,by omega⟩
 unfold H3;have h1':Ad (fun(s:Int×List Int×Int×Int)=>Dx s.1 s.2.1 s.2.2.1 s.2.2.2) ((0:Int),b,(b.length:Int),(0:Int))=some n:=h1;rw[h1',obs];exact⟨n,rfl,h2⟩
def unq(a:RQ):RF:=(a.1.1,a.1.2,a.2)
theorem fM(a:RQ):(a.1.1,a.1.2,a.2)=unq a:=(rfl)
theorem Wl(q:Rat):unq (rq q)=rqF q:=(rfl)
section
variable {qs:List Rat} (h40:∀q∈qs,Sz 40 q) (hl:qs.length<=64)
include h40 hl
end
def Rt(q:Rat):Rat:=if 0<=q.num then q else-q
theorem Zz(q:Rat):(Rt q).num=(q.num.natAbs:Int):=by
 unfold Rt;split
 ·omega
 ·rw[Rat.neg_num];omega
theorem jD(q:Rat):(Rt q).den=q.den:=by
 unfold Rt;split
 ·rfl
 ·exact Rat.neg_den q
theorem uC(q:Rat):0<=Rt q:=Rat.num_nonneg.1 (by rw[Zz];omega)
theorem gl{q:Rat}{k:Nat}(h:Sz k q):Sz k (Rt q):=⟨by rw[Zz];exact h.1,by rw[jD];exact h.2⟩
theorem ph(q:Rat):rqF (Rt q)=((big (q.num.natAbs:Int)).1,(big (q.num.natAbs:Int)).2,(big (q.den:Int)).1,(big (q.den:Int)).2):=by
 unfold rqF;rw[Zz,jD]
theorem pR(q:Rat):(big q.num).2=(big (q.num.natAbs:Int)).2:=by unfold big;simp
def IR(q:Rat):Rat:=if 1<Rt q then 1 else Rt q
theorem z7(q:Rat):0<=IR q/\IR q<=1:=by
 unfold IR;have:=uC q;split<;>constructor<;>grind
def byQ(q:Rat):Int:=(IR q*255+1/2).floor
theorem gt(q:Rat):0<=byQ q/\byQ q<=255:=by
 obtain⟨h1,h2⟩:=z7 q;have a:(0:Int)<=byQ q:=Rat.le_floor_iff.2 (by grind);have b:byQ q<256:=Rat.floor_lt_iff.2 (by grind);omega
theorem Af1{q:Rat}(h:1<Rt q):byQ q=255:=by
 unfold byQ IR;rw[zr h];have h1:(255:Int)<=((1:Rat)*255+1/2).floor:=Rat.le_floor_iff.2 (by grind);have h2:((1:Rat)*255+1/2).floor<256:=Rat.floor_lt_iff.2 (by grind);omega
theorem lQ(q:Rat):S1 (byQ q)=(byQ q,true):=by
 have:=gt q;unfold S1;rw[zr (by omega)]
theorem sz1:Sz 1 (1:Rat):=by
 have:B 1=65536:=rfl;exact⟨by rw[this];decide,by rw[this];decide⟩
theorem sz2:Sz 1 (2:Rat):=by
 have:B 1=65536:=rfl;exact⟨by rw[this];decide,by rw[this];decide⟩
theorem xG:Sz 1 (255:Rat):=by
 have:B 1=65536:=rfl;exact⟨by rw[this];decide,by rw[this];decide⟩
theorem nM:Be (255:Int)=some (rqF 255):=by rw[Jp];rfl
theorem tQ:C4 (1:Int)=some (rqF 1):=by rw[Ri];rfl
theorem oH:C4 (255:Int)=some (rqF 255):=by rw[Ri];rfl
section
variable {q:Rat} (hq:Sz 40 q)
include hq
theorem iN:Sz 40 (IR q):=by
 unfold IR;split
 ·exact sz1.mono (by omega)
 ·exact gl hq
theorem gI:Sz 40 (1/2:Rat):=(iI (k:=1) (m:=1) sz1 sz2 Wj).mono (by omega)
theorem gX:Sz 80 (IR q*255):=(LX (iN hq) xG).mono (by omega)
theorem jO:Sz 200 (IR q*255+1/2):=(S3 (gX hq) (gI hq)).mono (by omega)
theorem byB:((byQ q).natAbs:Int)<B 40:=by
 have:=gt q;have h1:B 1=65536:=rfl;have:=K2 (show 1<=40 by omega);omega
theorem sw:Mg (rqF q)=some (rqF (Rt q)):=by
 unfold Mg Pk;rw[ph];simp only[rqF];rw[pR,YC (k:=40) (by omega) hq.1,YC (k:=40) (by omega) hq.2];rfl
theorem zO:QI (rqF q)=some (rqF (Rt q)):=by
 unfold QI;rw[ph];simp only[rqF];rw[pR,fD (k:=40) (by omega) hq.1];rfl
theorem vC:NF (rqF q)=some (byQ q):=by
 have tail:((Be (255:Int))).bind (fun x7=>((CY (rqF (IR q)) (x7.1,x7.2.1,x7.2.2.1,x7.2.2.2))).bind fun x8=>
  (some (rqF 1)).bind fun x9=>
  ((DX (x9.1,x9.2.1,x9.2.2.1,x9.2.2.2))).bind fun x10=>
  ((Dj (x8.1,x8.2.1,x8.2.2.1,x8.2.2.2) (x10.1,x10.2.1,x10.2.2.1,x10.2.2.2))).bind fun x11=>
  ((GQ (x11.1,x11.2.1,x11.2.2.1,x11.2.2.2))).bind fun x12=>
  ((KJ (x12.1,x12.2))).bind fun x13=>
  some x13.1)=some (byQ q):=by
  have hh:DX (rqF 1)=some (rqF (1/2)):=by
   unfold DX;simp only[A2];rw[eK,obs]
   try simp only[A2]
   rw[VJ (k:=1) (by omega) sz1 sz2 Wj,obs]
  rw[nM,obs]
  try simp only[A2,AR]
  rw[Ja (k:=40) (by omega) (iN hq) (xG.mono (by omega)),obs,obs]
  try simp only[A2,AR]
  rw[hh,obs]
  try simp only[A2,AR]
  rw[KX (k:=80) (by omega) (gX hq) ((gI hq).mono (by omega)),obs]
  try simp only[A2,AR]
  rw[kt (k:=200) (by omega) (by omega) (jO hq),obs,show(IR q*255+1/2).floor=byQ q from rfl,yO (byB hq),obs,lQ]
 unfold NF
 try simp only[A2,AR]
 rw[sw hq,obs,eJ,obs]
 try simp only[A2,AR]
 rw[Gc (k:=40) (by omega) (sz1.mono (by omega)) (gl hq),obs];by_cases h:1<Rt q
 ·rw[zp h,cT,obs,obs,sEr];rw[show IR q=1 by unfold IR;rw[zr h]]at tail;exact tail
 ·rw[zq h,cF,obs,sEr,show Rt q=IR q by unfold IR;rw[zw h]];exact tail
theorem tL:Mp (rqF q)=some (byQ q):=by
 unfold Mp
 try simp only[A2,AR]
 rw[zO hq,obs,tQ,obs]
 try simp only[A2,AR]
 rw[OP (k:=40) (by omega) (gl hq) (sz1.mono (by omega)),obs];by_cases h:1<Rt q
 ·rw[zp (MA.2 h),cT,Af1 h]
 ·have hb1:((1:Int).natAbs:Int)<B 1:=by have:B 1=65536:=rfl;rw[this];decide
  have hb2:((2:Int).natAbs:Int)<B 1:=by have:B 1=65536:=rfl;rw[this];decide
  have e2:Rat.divInt 1 2=(1/2:Rat):=by rw[Rat.divInt_eq_div];rfl
  rw[zq (fun g=>h (MA.1 g)),cF,UG,obs,UG,obs]
  try simp only[A2,AR]
  rw[UM (k:=1) (by omega) hb1 hb2 (by omega),obs,oH,obs,e2,show Rt q=IR q by unfold IR;rw[zw h]]
  try simp only[A2,AR]
  rw[YH (k:=40) (by omega) (iN hq) (xG.mono (by omega)),obs]
  try simp only[A2,AR]
  rw[UK (k:=80) (by omega) (gX hq) ((gI hq).mono (by omega)),obs]
  try simp only[A2,AR]
  rw[tP (k:=200) (by omega) (by omega) (jO hq),obs,show(IR q*255+1/2).floor=byQ q from rfl,zK (byB hq),obs,lQ]
end
theorem yM{l:List Rat}{k:Nat}{q:Rat}(h:l[k]? =some q):AA (l.map rq) (k:Int)=some (rq q):=by rw[Af,zd4,h];rfl
section
variable {qs:List Rat} (h40:∀q∈qs,Sz 40 q) (hl:qs.length<=1000)
include h40 hl
theorem sA:Jz (qs.map rq)=some (qs.map byQ):=by
 obtain⟨_,h1,_⟩:=Bw (body:=fun(s:List Int×List RQ×Int×Int)=>D9 s.1 s.2.1 s.2.2.1 s.2.2.2) (fun k (_:Unit)=>((qs.take k).map byQ,qs.map rq,(qs.length:Int),(k:Int))) (fun _=>qs.map byQ) (fun _ _=>True) qs.length (by
  intro k _ hk _;have he:qs[k]? =some qs[k]:=za1 hk;have hz:=h40 _ (za3 he);generalize qs[k]=q at he hz;refine⟨(),?_,trivial⟩;show D9 ((qs.take k).map byQ) (qs.map rq) (qs.length:Int) (k:Int)=_;unfold D9;rw[zp,cT,yM he,obs];simp only[A2,AR,fM,Wl];rw[vC hz,obs,Bu (by simp[Aa];omega) (by simp[Aa];omega),obs,Aw,ze7,he];simp) (by
  intro _ _;show D9 ((qs.take qs.length).map byQ) (qs.map rq) (qs.length:Int) (qs.length:Int)=_;unfold D9;rw[zq,cF,List.take_length]) 0 () (by omega) trivial
 have h1':Ad (fun(s:List Int×List RQ×Int×Int)=>D9 s.1 s.2.1 s.2.2.1 s.2.2.2) ((List.nil:List Int),qs.map rq,(qs.length:Int),(0:Int))=_:=h1;unfold Jz;rw[zc5,h1',obs]
theorem ix:Ad (fun(s:List Int×List RQ×Int×Int)=>B5 s.1 s.2.1 s.2.2.1 s.2.2.2) ((List.nil:List Int),qs.map rq,(qs.length:Int),(0:Int))=some (qs.map byQ):=by
 obtain⟨_,h1,_⟩:=Bw (body:=fun(s:List Int×List RQ×Int×Int)=>B5 s.1 s.2.1 s.2.2.1 s.2.2.2) (fun k (_:Unit)=>((qs.take k).map byQ,qs.map rq,(qs.length:Int),(k:Int))) (fun _=>qs.map byQ) (fun _ _=>True) qs.length (by
  intro k _ hk _;have he:qs[k]? =some qs[k]:=za1 hk;have hz:=h40 _ (za3 he);generalize qs[k]=q at he hz;refine⟨(),?_,trivial⟩;show B5 ((qs.take k).map byQ) (qs.map rq) (qs.length:Int) (k:Int)=_;unfold B5;rw[zp,cT,yM he,obs];simp only[A2,AR,fM,Wl];rw[tL hz,obs,Bu (by simp[Aa];omega) (by simp[Aa];omega),obs,Aw,ze7,he];simp) (by
  intro _ _;show B5 ((qs.take qs.length).map byQ) (qs.map rq) (qs.length:Int) (qs.length:Int)=_;unfold B5;rw[zq,cF,List.take_length]) 0 () (by omega) trivial
 exact h1
end
def LK:Option (List Rat)->List RQ×Bool
 |none=>([],false)
 |some qs=>(qs.map rq,true)
def nW(w:Bh):Nat:=w.2.2.1.toNat*w.2.2.2.toNat
theorem Uw{w:Bh}(h:GX w=true):w.2.2.1*w.2.2.2=(nW w:Int)/\1<=nW w/\nW w<=64:=by
 obtain⟨_,_,h3,h4⟩:=Fp.1 h;refine⟨?_,?_,?_⟩
 ·unfold nW;rw[zf7,Int.toNat_of_nonneg (by omega),Int.toNat_of_nonneg (by omega)]
 ·unfold nW;exact Nat.mul_pos (by omega) (by omega)
 ·unfold nW;exact Nat.mul_le_mul (show w.2.2.1.toNat<=8 by omega) (show w.2.2.2.toNat<=8 by omega)
def shW (w:Bh) (x:List P2):Option (List Rat):=if((CR ((x.map ptQ).map rp) w).getD ([],false)).2=true then some ((S5 (x.map ptQ) w.2.2.1.toNat w.1 w.2.2.2.toNat w.2.1).map fun a=>a/2)else none
theorem oK{x:List P2}(hx:Fe x=true){w:Bh}(hw:GX w=true):CR ((x.map ptQ).map rp) w=some (LK (shW w x))/\D0 ((x.map ptQ).map rp) w=some (LK (shW w x))/\∀qs,shW w x=some qs->qs.length=nW w/\∀q∈qs,Sz 40 q:=by
 have hz:=Aa1 hx;have h40:=hz.1;obtain⟨g1,g2,g3,g4⟩:=Fp.1 hw;obtain⟨f,f1,f2,f3,f4⟩:=oL (l:=(x.map ptQ).map rp) (by rw[zc5];omega) (R4 (k:=8) (by omega) hz.2) w;cases hf:f.2 with
 |false=>
  have e:shW w x=none:=by
   unfold shW;rw[f1];exact zw (by rw[Option.getD_some,hf];simp)
  have ef:f=LK none:=Prod.ext (f3 hf) hf;rw[e,f1,f2,ef];exact⟨rfl,rfl,fun qs h=>by cases h⟩
 |true=>
  obtain⟨_,_,hwin⟩:=f4 hf;obtain⟨j1,j2,_⟩:=yh hz rfl (w:=w.2.2.1.toNat) (x:=w.1) (by omega) w.2.2.2.toNat w.2.1 f.1 (by omega) (by omega) hwin;have e:shW w x=some ((S5 (x.map ptQ) w.2.2.1.toNat w.1 w.2.2.2.toNat w.2.1).map fun a=>a/2):=by
   unfold shW;rw[f1];exact zr hf
  have ef:f=LK (some ((S5 (x.map ptQ) w.2.2.1.toNat w.1 w.2.2.2.toNat w.2.1).map fun a=>a/2)):=Prod.ext (by rw[j1];show _=List.map rq _;rw[List.map_map];rfl) hf;rw[e,f1,f2,<-ef];refine⟨rfl,rfl,fun qs h=> ?_⟩;cases h;refine⟨by rw[zc5,mw];rfl,fun q hq=> ?_⟩;obtain⟨a,ha,rfl⟩:=zd3.1 hq;exact j2 a ha
def JO:List Rat->List Rat->Option (List Rat)
 |a::us,q::qs=>if Sz 40 (a+q)then(JO us qs).map ((a+q):: ·)else none
 |_,_=>some []
theorem uD(l:List Rat):JO [] l=some []:=by cases l<;>rfl
theorem Vm(a q:Rat)(us qs:List Rat):JO (a::us) (q::qs)=if Sz 40 (a+q)then(JO us qs).map ((a+q):: ·)else none:=(rfl)
theorem R2:∀(us qs r:List Rat),us.length=qs.length->JO us qs=some r->r.length=us.length/\∀q∈r,Sz 40 q:=by
 intro us
 induction us with
 |nil=>
  intro qs r _ h;rw[uD]at h;rw[<-zv h];exact⟨rfl,fun q hq=>absurd hq List.not_mem_nil⟩
 |cons a us ih=>
  intro qs r hl h;cases qs with
  |nil=>exact absurd hl (by simp)
  |cons q qs=>
   rw[Vm]at h;by_cases hz:Sz 40 (a+q)
   ·rw[zr hz]at h;cases hr:JO us qs with
    |none=>rw[hr]at h;exact absurd h (by simp)
    |some r'=>
     rw[hr,zd7]at h;obtain⟨i1,i2⟩:=ih qs r' (by simpa using hl) hr;rw[<-zv h];refine⟨by simp[i1],fun x hx=> ?_⟩;rcases zc1.1 hx with e|hx
     ·rw[e];exact hz
     ·exact i2 x hx
   ·rw[zw hz]at h;exact absurd h (by simp)
def adR(w:Bh)(ws:A3)(c d:Int)(dn:List Rat):Option (List Rat)->(Bh×List RQ×A3×Int×Int)⊕(List RQ×Bool)
 |some r=>.inl (w,(dn++r).map rq,ws,c,d)
 |none=>.inr ([],false)
theorem fG(dn us:List Rat)(a b:Rat){k:Nat}(h:dn.length=k):((dn++a::us).map rq).set k (rq b)=(dn++[b]++us).map rq:=by
 subst h;simp[List.map_append,List.set_append]
theorem YA(pre qs:List Rat)(q:Rat):(pre++q::qs)[pre.length]? =some q:=by simp
theorem vA(w:Bh)(ws:A3)(c d:Int):∀(us qs dn pre:List Rat),(∀q∈us,Sz 40 q)->(∀q∈qs,Sz 40 q)->us.length=qs.length->dn.length=pre.length->pre.length+qs.length<=1000->
  Ad (fun(s:Bh×List RQ×A3×Int×Int×List RQ×Int×Int)=>BX s.1 s.2.1 s.2.2.1 s.2.2.2.1 s.2.2.2.2.1 s.2.2.2.2.2.1 s.2.2.2.2.2.2.1 s.2.2.2.2.2.2.2) (w,(dn++us).map rq,ws,c,d,(pre++qs).map rq,((pre++qs).length:Int),(pre.length:Int))=some (adR w ws c d dn (JO us qs))
 |[],[],dn,pre,_,_,_,hd,hp=>by
  refine Ak ?_;show BX w ((dn++[]).map rq) ws c d ((pre++[]).map rq) ((pre++[]).length:Int) (pre.length:Int)=_;unfold BX;rw[zq (by simp),cF];rfl
 |[],q::qs,dn,pre,_,_,hl,_,_=>by cases hl
 |a::us,[],dn,pre,_,_,hl,_,_=>by cases hl
 |a::us,q::qs,dn,pre,ha,hq,hl,hd,hp=>by
  have ka:=ha a (by simp);have kq:=hq q (by simp);have h81:Sz 81 (a+q):=(S3 ka kq).mono (by omega);rw[zb7]at hp;have hlen:((pre++q::qs).length:Int)=(pre.length:Int)+qs.length+1:=by simp;omega
  have hg:AN ((dn++a::us).map rq) pre.length=some (rq a):=by
   show((dn++a::us).map rq)[pre.length]? =_;rw[zd4,<-hd,YA];rfl
  have hi:AW (pre.length:Int) ((dn++a::us).map rq).length=some pre.length:=AT (by simp[hd]);have key:BX w ((dn++a::us).map rq) ws c d ((pre++q::qs).map rq) ((pre++q::qs).length:Int) (pre.length:Int)=if Sz 40 (a+q)then some (.inl (w,(dn++[a+q]++us).map rq,ws,c,d,(pre++q::qs).map rq,((pre++q::qs).length:Int),((pre.length+1:Nat):Int)))else some (.inr (.inr ([],false))):=by
   unfold BX;rw[zp,cT,yM (YA pre qs q),obs,hi,obs,hg,obs];simp only[A2,AR,fM,Wl];rw[KX (k:=40) (by omega) ka kq,obs]
   try simp only[A2,AR,fM,Wl]
   rw[Uq,obs,obs,hg,obs];by_cases hz:Sz 40 (a+q)
   ·rw[zr hz,KQ hz,nT,cF,Aw];rw[<-fG dn us a (a+q) hd];rfl
   ·rw[zw hz,Q1 hz,nF,cT]
  rw[Vm];by_cases hz:Sz 40 (a+q)
  ·rw[zr hz]at key⊢
   refine(AP (f:=fun(s:Bh×List RQ×A3×Int×Int×List RQ×Int×Int)=>BX s.1 s.2.1 s.2.2.1 s.2.2.2.1 s.2.2.2.2.1 s.2.2.2.2.2.1 s.2.2.2.2.2.2.1 s.2.2.2.2.2.2.2) (s:=(w,(dn++a::us).map rq,ws,c,d,(pre++q::qs).map rq,((pre++q::qs).length:Int),(pre.length:Int))) key).trans ?_;have ih:=vA w ws c d us qs (dn++[a+q]) (pre++[q]) (fun x hx=>ha x (by simp[hx])) (fun x hx=>hq x (by simp[hx])) (by simpa using hl) (by simp[hd]) (by simp;omega);rw[show(pre++[q])++qs=pre++q::qs by simp,show(pre++[q]).length=pre.length+1 by simp]at ih;rw[ih];cases JO us qs with
   |none=>rfl
   |some r=>simp[adR]
  ·rw[zw hz]at key⊢
   exact Ak key
theorem xp(w:Bh)(ws:A3)(c d:Int):∀(us qs dn pre:List Rat),(∀q∈us,Sz 40 q)->(∀q∈qs,Sz 40 q)->us.length=qs.length->dn.length=pre.length->pre.length+qs.length<=1000->
  Ad (fun(s:Bh×List RQ×A3×Int×Int×List RQ×Int×Int)=>BY s.1 s.2.1 s.2.2.1 s.2.2.2.1 s.2.2.2.2.1 s.2.2.2.2.2.1 s.2.2.2.2.2.2.1 s.2.2.2.2.2.2.2) (w,(dn++us).map rq,ws,c,d,(pre++qs).map rq,((pre++qs).length:Int),(pre.length:Int))=some (adR w ws c d dn (JO us qs))
 |[],[],dn,pre,_,_,_,hd,hp=>by
  refine Ak ?_;show BY w ((dn++[]).map rq) ws c d ((pre++[]).map rq) ((pre++[]).length:Int) (pre.length:Int)=_;unfold BY;rw[zq (by simp),cF];rfl
 |[],q::qs,dn,pre,_,_,hl,_,_=>by cases hl
 |a::us,[],dn,pre,_,_,hl,_,_=>by cases hl
 |a::us,q::qs,dn,pre,ha,hq,hl,hd,hp=>by
  have ka:=ha a (by simp);have kq:=hq q (by simp);have h81:Sz 81 (a+q):=(S3 ka kq).mono (by omega);rw[zb7]at hp;have hlen:((pre++q::qs).length:Int)=(pre.length:Int)+qs.length+1:=by simp;omega
  have hg:AN ((dn++a::us).map rq) pre.length=some (rq a):=by
   show((dn++a::us).map rq)[pre.length]? =_;rw[zd4,<-hd,YA];rfl
  have hi:AW (pre.length:Int) ((dn++a::us).map rq).length=some pre.length:=AT (by simp[hd]);have key:BY w ((dn++a::us).map rq) ws c d ((pre++q::qs).map rq) ((pre++q::qs).length:Int) (pre.length:Int)=if Sz 40 (a+q)then some (.inl (w,(dn++[a+q]++us).map rq,ws,c,d,(pre++q::qs).map rq,((pre++q::qs).length:Int),((pre.length+1:Nat):Int)))else some (.inr (.inr ([],false))):=by
   unfold BY;rw[zp,cT,yM (YA pre qs q),obs,hi,obs,hg,obs];simp only[A2,AR,fM,Wl];rw[UK (k:=40) (by omega) ka kq,obs]
   try simp only[A2,AR,fM,Wl]
   rw[UL (k:=81) (by omega) h81,obs];by_cases hz:Sz 40 (a+q)
   ·rw[zr hz,KQ hz,nT,cF,obs,hg,obs,Aw];rw[<-fG dn us a (a+q) hd];rfl
   ·rw[zw hz,Q1 hz,nF,cT]
  rw[Vm];by_cases hz:Sz 40 (a+q)
  ·rw[zr hz]at key⊢
   refine(AP (f:=fun(s:Bh×List RQ×A3×Int×Int×List RQ×Int×Int)=>BY s.1 s.2.1 s.2.2.1 s.2.2.2.1 s.2.2.2.2.1 s.2.2.2.2.2.1 s.2.2.2.2.2.2.1 s.2.2.2.2.2.2.2) (s:=(w,(dn++a::us).map rq,ws,c,d,(pre++q::qs).map rq,((pre++q::qs).length:Int),(pre.length:Int))) key).trans ?_;have ih:=xp w ws c d us qs (dn++[a+q]) (pre++[q]) (fun x hx=>ha x (by simp[hx])) (fun x hx=>hq x (by simp[hx])) (by simpa using hl) (by simp[hd]) (by simp;omega);rw[show(pre++[q])++qs=pre++q::qs by simp,show(pre++[q]).length=pre.length+1 by simp]at ih;rw[ih];cases JO us qs with
   |none=>rfl
   |some r=>simp[adR]
  ·rw[zw hz]at key⊢
   exact Ak key
theorem lD{x:List P2}(hx:Fe x=true):NI x=some ((x.map ptQ).map rp,true):=by
 have h12:=(Gz.1 hx).1.2;unfold NI;rw[iE (by unfold ED;omega),obs,hx,nT,cF,cD (by omega) (oX hx),obs]
def aV (w:Bh):A3->List Rat->Option (List Rat)
 |[],acc=>some acc
 |x::l,acc=>(shW w x).bind fun qs=>(JO acc qs).bind fun r=>aV w l r
def Ai5:Option (List Rat)->List RQ⊕(List RQ×Bool)
 |some r=>.inl (r.map rq)
 |none=>.inr ([],false)
section
variable {w:Bh} {l:A3} (hw:GX w=true) (hg:∀x∈l,Fe x=true) (hl:l.length<=4)
include hw hg
theorem ff:∀(m:A3)(acc r:List Rat),(∀x∈m,Fe x=true)->acc.length=nW w->(∀q∈acc,Sz 40 q)->aV w m acc=some r->r.length=nW w/\∀q∈r,Sz 40 q
 |[],acc,r,_,h1,h2,h=>by
  cases h;exact⟨h1,h2⟩
 |x::m,acc,r,hm,h1,h2,h=>by
  obtain⟨_,_,k⟩:=oK (hm x (by simp)) hw;rw[aV]at h;cases hs:shW w x with
  |none=>rw[hs]at h;cases h
  |some qs=>
   obtain⟨k1,k2⟩:=k qs hs;rw[hs,obs]at h;cases ha:JO acc qs with
   |none=>rw[ha]at h;cases h
   |some r'=>
    obtain⟨a1,a2⟩:=R2 acc qs r' (by omega) ha;rw[ha,obs]at h;exact ff m r' r (fun y hy=>hm y (by simp[hy])) (by omega) a2 h
include hl
theorem Aa9:∀(m k:Nat)(acc:List Rat),k+m=l.length->acc.length=nW w->(∀q∈acc,Sz 40 q)->
  Ad (fun(s:Bh×List RQ×A3×Int×Int)=>Bk s.1 s.2.1 s.2.2.1 s.2.2.2.1 s.2.2.2.2) (w,acc.map rq,l,(l.length:Int),(k:Int))=some (Ai5 (aV w (l.drop k) acc))
 |0,k,acc,hk,h1,h2=>by
  refine Ak ?_;show Bk w (acc.map rq) l (l.length:Int) (k:Int)=_;unfold Bk;rw[zq,cF,List.drop_of_length_le (by omega)];rfl
 |m+1,k,acc,hk,h1,h2=>by
  have hkl:k<l.length:=by omega
  have he:l[k]? =some l[k]:=za1 hkl;have hx:=hg _ (za3 he);rw[za9 hkl];generalize l[k]=x at he hx;obtain⟨s1,s2,s3⟩:=oK hx hw;have hn:=Uw hw;have h12:=(Gz.1 hx).1.2;rw[aV];have top:Bk w (acc.map rq) l (l.length:Int) (k:Int)=(some (LK (shW w x))).bind fun x2=>
    bif(!x2.2)then some (zb (zb (([]:List RQ),false)))else
    (Ad (fun(s:Bh×List RQ×A3×Int×Int×List RQ×Int×Int)=>BX s.1 s.2.1 s.2.2.1 s.2.2.2.1 s.2.2.2.2.1 s.2.2.2.2.2.1 s.2.2.2.2.2.2.1 s.2.2.2.2.2.2.2) (w,acc.map rq,l,(l.length:Int),(k:Int),x2.1,(x2.1.length:Int),(0:Int))).bind fun x3=>
    Sum.elim (fun x4=>some (zy (x4.1,x4.2.1,x4.2.2.1,x4.2.2.2.1,zi zj (x4.2.2.2.2+(1:Int))))) (fun x5=>some (zb (zb (x5.1,x5.2)))) x3:=by
   unfold Bk;rw[zp,cT,Af,he,obs,vN (by omega) (oX hx),obs];rw[show CR ((x.map ptQ).map rp) (w.1,w.2.1,w.2.2.1,w.2.2.2)=some (LK (shW w x))from s1]
  cases hs:shW w x with
  |none=>
   refine Ak ?_;show Bk w (acc.map rq) l (l.length:Int) (k:Int)=_;rw[top,hs,obs];rfl
  |some qs=>
   obtain⟨q1,q2⟩:=s3 qs hs;have ad:=vA w l (l.length:Int) (k:Int) acc qs [] [] h2 q2 (by omega) rfl (by simp;omega);rw[hs,obs]at top;have ad':Ad (fun(s:Bh×List RQ×A3×Int×Int×List RQ×Int×Int)=>BX s.1 s.2.1 s.2.2.1 s.2.2.2.1 s.2.2.2.2.1 s.2.2.2.2.2.1 s.2.2.2.2.2.2.1 s.2.2.2.2.2.2.2) (w,acc.map rq,l,(l.length:Int),(k:Int),(LK (some qs)).1,((LK (some qs)).1.length:Int),(0:Int))=some (adR w l (l.length:Int) (k:Int) [] (JO acc qs)):=by
    have el:(LK (some qs)).1.length=([]++qs:List Rat).length:=by show(qs.map rq).length=_;simp
    rw[el];exact ad
   rw[ad',obs,show(LK (some qs)).2=true from rfl,nT,cF]at top;rw[obs];cases ha:JO acc qs with
   |none=>
    refine Ak ?_;show Bk w (acc.map rq) l (l.length:Int) (k:Int)=_;rw[top,ha];rfl
   |some r=>
    obtain⟨a1,a2⟩:=R2 acc qs r (by omega) ha;have go:Bk w (acc.map rq) l (l.length:Int) (k:Int)=some (.inl (w,r.map rq,l,(l.length:Int),((k+1:Nat):Int))):=by
     rw[top,ha,<-Aw (k:=k)];rfl
    refine(AP (f:=fun(s:Bh×List RQ×A3×Int×Int)=>Bk s.1 s.2.1 s.2.2.1 s.2.2.2.1 s.2.2.2.2) (s:=(w,acc.map rq,l,(l.length:Int),(k:Int))) go).trans ?_;rw[obs];exact Aa9 m (k+1) r (by omega) (by omega) a2
theorem Ac0:∀(m k:Nat)(acc:List Rat),k+m=l.length->acc.length=nW w->(∀q∈acc,Sz 40 q)->
  Ad (fun(s:Bh×List RQ×A3×Int×Int)=>Bl s.1 s.2.1 s.2.2.1 s.2.2.2.1 s.2.2.2.2) (w,acc.map rq,l,(l.length:Int),(k:Int))=some (Ai5 (aV w (l.drop k) acc))
 |0,k,acc,hk,h1,h2=>by
  refine Ak ?_;show Bl w (acc.map rq) l (l.length:Int) (k:Int)=_;unfold Bl;rw[zq,cF,List.drop_of_length_le (by omega)];rfl
 |m+1,k,acc,hk,h1,h2=>by
  have hkl:k<l.length:=by omega
  have he:l[k]? =some l[k]:=za1 hkl;have hx:=hg _ (za3 he);rw[za9 hkl];generalize l[k]=x at he hx;obtain⟨s1,s2,s3⟩:=oK hx hw;have hn:=Uw hw;have h12:=(Gz.1 hx).1.2;have r2:=lD hx;rw[aV];have top:Bl w (acc.map rq) l (l.length:Int) (k:Int)=(some (LK (shW w x))).bind fun x2=>
    bif(!x2.2)then some (zb (zb (([]:List RQ),false)))else
    (Ad (fun(s:Bh×List RQ×A3×Int×Int×List RQ×Int×Int)=>BY s.1 s.2.1 s.2.2.1 s.2.2.2.1 s.2.2.2.2.1 s.2.2.2.2.2.1 s.2.2.2.2.2.2.1 s.2.2.2.2.2.2.2) (w,acc.map rq,l,(l.length:Int),(k:Int),x2.1,(x2.1.length:Int),(0:Int))).bind fun x3=>
    Sum.elim (fun x4=>some (zy (x4.1,x4.2.1,x4.2.2.1,x4.2.2.2.1,zi zj (x4.2.2.2.2+(1:Int))))) (fun x5=>some (zb (zb (x5.1,x5.2)))) x3:=by
   unfold Bl;rw[zp,cT,AT hkl,obs,show AN l k=some x from he,obs,r2,obs];rw[show D0 ((x.map ptQ).map rp) (w.1,w.2.1,w.2.2.1,w.2.2.2)=some (LK (shW w x))from s2]
  cases hs:shW w x with
  |none=>
   refine Ak ?_;show Bl w (acc.map rq) l (l.length:Int) (k:Int)=_;rw[top,hs,obs];rfl
  |some qs=>
   obtain⟨q1,q2⟩:=s3 qs hs;have ad:=xp w l (l.length:Int) (k:Int) acc qs [] [] h2 q2 (by omega) rfl (by simp;omega);rw[hs,obs]at top;have ad':Ad (fun(s:Bh×List RQ×A3×Int×Int×List RQ×Int×Int)=>BY s.1 s.2.1 s.2.2.1 s.2.2.2.1 s.2.2.2.2.1 s.2.2.2.2.2.1 s.2.2.2.2.2.2.1 s.2.2.2.2.2.2.2) (w,acc.map rq,l,(l.length:Int),(k:Int),(LK (some qs)).1,((LK (some qs)).1.length:Int),(0:Int))=some (adR w l (l.length:Int) (k:Int) [] (JO acc qs)):=by
    have el:(LK (some qs)).1.length=([]++qs:List Rat).length:=by show(qs.map rq).length=_;simp
    rw[el];exact ad
   rw[ad',obs,show(LK (some qs)).2=true from rfl,nT,cF]at top;rw[obs];cases ha:JO acc qs with
   |none=>
    refine Ak ?_;show Bl w (acc.map rq) l (l.length:Int) (k:Int)=_;rw[top,ha];rfl
   |some r=>
    obtain⟨a1,a2⟩:=R2 acc qs r (by omega) ha;have go:Bl w (acc.map rq) l (l.length:Int) (k:Int)=some (.inl (w,r.map rq,l,(l.length:Int),((k+1:Nat):Int))):=by
     rw[top,ha,<-Aw (k:=k)];rfl
    refine(AP (f:=fun(s:Bh×List RQ×A3×Int×Int)=>Bl s.1 s.2.1 s.2.2.1 s.2.2.2.1 s.2.2.2.2) (s:=(w,acc.map rq,l,(l.length:Int),(k:Int))) go).trans ?_;rw[obs];exact Ac0 m (k+1) r (by omega) (by omega) a2
end
def zer(n:Nat):List Rat:=List.replicate n 0
theorem yl(n:Nat):zer (n+1)=zer n++[0]:=List.replicate_succ'
theorem pa{n:Nat}:∀q∈zer n,Sz 40 q:=fun q hq=>by
 rw[List.eq_of_mem_replicate hq];exact S0r.mono (by omega)
theorem Al8{n:Nat}(h:n<=1000):BV 64 4 ((zer n).map rq) [rq 0]=some ((zer (n+1)).map rq):=by
 rw[Ae8 (by simp[zer];omega),yl,List.map_append];rfl
theorem An1(w:Bh)(l:A3){n:Nat}(hn:n<=1000):Ad (fun(s:Bh×List RQ×A3×Int×Int)=>Ct s.1 s.2.1 s.2.2.1 s.2.2.2.1 s.2.2.2.2) (w,(List.nil:List RQ),l,(n:Int),(0:Int))=some (w,(zer n).map rq,l):=by
 obtain⟨_,h1,_⟩:=Bw (body:=fun(s:Bh×List RQ×A3×Int×Int)=>Ct s.1 s.2.1 s.2.2.1 s.2.2.2.1 s.2.2.2.2) (fun k (_:Unit)=>(w,(zer k).map rq,l,(n:Int),(k:Int))) (fun _=>(w,(zer n).map rq,l)) (fun _ _=>True) n (by
  intro k _ hk _;refine⟨(),?_,trivial⟩;show Ct w ((zer k).map rq) l (n:Int) (k:Int)=_;unfold Ct;rw[zp,cT,eI,obs];rw[show BV 64 4 ((zer k).map rq) (List.cons (((rqF 0).1,(rqF 0).2.1),(rqF 0).2.2.1,(rqF 0).2.2.2) (List.nil:List RQ))=some ((zer (k+1)).map rq)from Al8 (by omega),obs,Aw]) (by
  intro _ _;show Ct w ((zer n).map rq) l (n:Int) (n:Int)=_;unfold Ct;rw[zq,cF]) 0 () (by omega) trivial
 exact h1
theorem Ac2(w:Bh)(l:A3):∀(m n:Nat),m+n<=1000->Ad (fun(s:Bh×A3×List RQ×Int)=>Cu s.1 s.2.1 s.2.2.1 s.2.2.2) (w,l,(zer n).map rq,(m:Int))=some (w,l,(zer (n+m)).map rq)
 |0,n,h=>by
  refine Ak ?_;show Cu w l ((zer n).map rq) (0:Int)=_;unfold Cu;rw[zq,cF];rfl
 |m+1,n,h=>by
  have go:Cu w l ((zer n).map rq) ((m+1:Nat):Int)=some (.inl (w,l,(zer (n+1)).map rq,(m:Int))):=by
   unfold Cu;rw[zp,cT,fB,obs];rw[show BV 64 4 ((zer n).map rq) (List.cons (((rqF 0).1,(rqF 0).2.1),(rqF 0).2.2.1,(rqF 0).2.2.2) (List.nil:List RQ))=some ((zer (n+1)).map rq)from Al8 (by omega),obs,Ae,show((m+1:Nat):Int)-1=(m:Int) by omega]
  refine(AP (f:=fun(s:Bh×A3×List RQ×Int)=>Cu s.1 s.2.1 s.2.2.1 s.2.2.2) (s:=(w,l,(zer n).map rq,((m+1:Nat):Int))) go).trans ?_;rw[Ac2 w l m (n+1) (by omega),show n+1+m=n+(m+1) by omega]
def HM (s:Str) (w:Bh):Option (List Rat):=if(GD s).2.2.2=true/\GX w=true then aV w (GD s).1 (zer (nW w))else none
theorem wG(o:Option (List Rat)):(Sum.elim (fun x4=>some (x4,true)) (fun x5=>some (x5.1,x5.2)) (Ai5 o):Option (List RQ×Bool))=some (LK o):=by
 cases o<;>rfl
theorem U1{l:A3}(h:Bn l=true):∀w∈l,Fe w=true:=by
 unfold Bn at h;simp only[za2]at h;exact za5.1 h.1
theorem Gd{s:Str}{w:Bh}{r:List Rat}(h:HM s w=some r):GX w=true/\r.length=nW w/\∀q∈r,Sz 40 q:=by
 unfold HM at h;split at h
 ·rename_i hc;rcases LN s with⟨l,e,hg⟩|⟨c,a,e,hc'⟩
  ·rw[e]at h;exact⟨hc.2,ff (l:=l) hc.2 (U1 hg) l _ _ (U1 hg) (by simp[zer]) pa h⟩
  ·rw[e]at hc;cases hc.1
 ·cases h
theorem ku{s:Str}(hs:s.length<=1048576)(w:Bh):GR s w=some (LK (HM s w)):=by
 unfold GR HM;rw[XG (by omega),obs];rcases LN s with⟨l,e,hg⟩|⟨c,a,e,hc⟩
 ·rw[e];simp only;rw[nT,cF,show Ci (w.1,w.2.1,w.2.2.1,w.2.2.2)=some (GX w)from Kz w,obs];cases hw:GX w with
  |false=>rw[nF,cT,zw (by simp)];rfl
  |true=>
   obtain⟨n1,n2,n3⟩:=Uw hw;have hn:=gH hg;have z:=An1 w l (n:=nW w) (by omega);have p:=Aa9 hw (U1 hg) (l:=l) (by omega) l.length 0 (zer (nW w)) (by omega) (by simp[zer]) pa;rw[nT,cF,n1,Ae];rw[show Ad (fun(s:Bh×List RQ×A3×Int×Int)=>Ct s.1 s.2.1 s.2.2.1 s.2.2.2.1 s.2.2.2.2) ((w.1,w.2.1,w.2.2.1,w.2.2.2),(List.nil:List RQ),l,(nW w:Int),(0:Int))=_ from z,obs];rw[show Ad (fun(s:Bh×List RQ×A3×Int×Int)=>Bk s.1 s.2.1 s.2.2.1 s.2.2.2.1 s.2.2.2.2) ((w.1,w.2.1,w.2.2.1,w.2.2.2),(zer (nW w)).map rq,l,(l.length:Int),(0:Int))=_ from p,obs,wG,zr ⟨trivial,rfl⟩];rfl
 ·rw[e];simp only;rw[nF,cT,zw (by simp)];rfl
theorem lE{s:Str}(hs:s.length<=1048576)(w:Bh):GS s w=some (LK (HM s w)):=by
 unfold GS HM;rw[lB (by omega),obs];rcases LN s with⟨l,e,hg⟩|⟨c,a,e,hc⟩
 ·rw[e];simp only;rw[nT,cF,show EA (w.1,w.2.1,w.2.2.1,w.2.2.2)=some (GX w)from ON w,obs];cases hw:GX w with
  |false=>rw[nF,cT,zw (by simp)];rfl
  |true=>
   obtain⟨n1,n2,n3⟩:=Uw hw;have hn:=gH hg;have z:=Ac2 w l (nW w) 0 (by omega);rw[zf3]at z;have p:=Ac0 hw (U1 hg) (l:=l) (by omega) l.length 0 (zer (nW w)) (by omega) (by simp[zer]) pa;rw[nT,cF,n1,Ae];rw[show Ad (fun(s:Bh×A3×List RQ×Int)=>Cu s.1 s.2.1 s.2.2.1 s.2.2.2) ((w.1,w.2.1,w.2.2.1,w.2.2.2),l,(List.nil:List RQ),(nW w:Int))=_ from z,obs];rw[show Ad (fun(s:Bh×List RQ×A3×Int×Int)=>Bl s.1 s.2.1 s.2.2.1 s.2.2.2.1 s.2.2.2.2) ((w.1,w.2.1,w.2.2.1,w.2.2.2),(zer (nW w)).map rq,l,(l.length:Int),(0:Int))=_ from p,obs,wG,zr ⟨trivial,rfl⟩];rfl
 ·rw[e];simp only;rw[nF,cT,zw (by simp)];rfl
def V3:Option (List Rat)->List Int×Bool
 |none=>([],false)
 |some r=>(r.map byQ,true)
theorem KA{s:Str}(hs:s.length<=1048576)(w:Bh):BS s w=some (V3 (HM s w)):=by
 unfold BS;rw[show GR s (w.1,w.2.1,w.2.2.1,w.2.2.2)=_ from ku hs w,obs];cases h:HM s w with
 |none=>rfl
 |some r=>
  obtain⟨h1,h2,h3⟩:=Gd h;have:=(Uw h1).2.2;show(bif !true then _ else(Jz (r.map rq)).bind fun x1=>some (x1,true))=_;rw[nT,cF,sA h3 (by omega),obs];rfl
theorem UH{s:Str}(hs:s.length<=1048576)(w:Bh):EB s w=some (V3 (HM s w)):=by
 unfold EB;rw[show GS s (w.1,w.2.1,w.2.2.1,w.2.2.2)=_ from lE hs w,obs];cases h:HM s w with
 |none=>rfl
 |some r=>
  obtain⟨h1,h2,h3⟩:=Gd h;have:=(Uw h1).2.2;have lp:=ix h3 (by omega);have lp':Ad (fun(s:List Int×List RQ×Int×Int)=>B5 s.1 s.2.1 s.2.2.1 s.2.2.2) ((List.nil:List Int),(LK (some r)).1,((LK (some r)).1.length:Int),(0:Int))=some (r.map byQ):=by
   rw[show(LK (some r)).1.length=r.length by show(r.map rq).length=_;simp];exact lp
  rw[show(LK (some r)).2=true from rfl,nT,cF,lp',obs];rfl
def ob(s:Str)(a:Nat)(b:Nat):Int×Int×Int:=
 let d:=Gb s 4 a
 if Ye d\/(s[a+d.length]?).map (·.toNat)≠some b then(-1,-1,(a:Int))else(((L6 0 d:Nat):Int),IM s (a+d.length+1))
theorem rV{s:Str}{a:Nat}{X Y:Str}(h:s.drop a=X++Y)(i:Nat):s[a+X.length+i]? =Y[i]? :=by
 have:(s.drop a)[X.length+i]? =Y[i]? :=by rw[h,List.getElem?_append_right (by omega)];congr 1;omega
 rw[zd5]at this;rw[<-this];congr 1;omega
theorem np{s:Str}{a:Nat}{X Y:Str}(h:s.drop a=X++Y):s.drop (a+X.length)=Y:=by
 rw[<-List.drop_drop,h];simp
theorem dY(s:Str)(n a:Nat):Gb s n a=Gb (s.drop a) n 0:=by unfold Gb;rw[ze5]
theorem Xo{d t:Str}{n:Nat}(h:YL d)(hn:d.length<=n)(hb:∀b,t.head?=some b->D7 b=false):Gb (d++t) n 0=d:=by
 unfold Gb;rw[ze5];have key:∀(d:Str)(n:Nat),(∀b∈d,D7 b=true)->d.length<=n->((d++t).take n).takeWhile D7=d:=by
  intro d
  induction d with
  |nil=>
   intro n _ _;cases n with
   |zero=>simp
   |succ n=>
    cases t with
    |nil=>simp
    |cons b t=>simp[hb b rfl]
  |cons b d ih=>
   intro n hd hn;cases n with
   |zero=>simp at hn
   |succ n=>
    rw[ze8,List.take_succ_cons,List.takeWhile_cons,zr (hd b (by simp)),ih n (fun x hx=>hd x (ze4 _ hx)) (by simpa using hn)]
 exact key d n h.1 hn
theorem RW{d:Str}(h:YL d):¬Ye d:=by
 rintro(h1|h1)
 ·exact h.2.1 h1
 ·exact h.2.2 h1
theorem oc{s:Str}{a:Nat}{m v:Nat}{c:UInt8}{t:Str}(h:s.drop a=Lib.decDigits m++(c::(Lib.decDigits v++t)))(hm:m<=9999)(hv:v<=9999)(hc:D7 c=false)
  (ht:∀b,t.head?=some b->D7 b=false):ob s a c.toNat=((m:Int),(v:Int),((a+(Lib.decDigits m).length+1+(Lib.decDigits v).length:Nat):Int)):=by
 obtain⟨m1,m2,_⟩:=Gu m;obtain⟨v1,v2,_⟩:=Gu v;have e1:Gb s 4 a=Lib.decDigits m:=by
  rw[dY,h];exact Xo m1 (Ua.2 hm) (fun b hb=>by cases hb;exact hc)
 have h2:s.drop (a+(Lib.decDigits m).length+1)=Lib.decDigits v++t:=by
  rw[<-List.drop_drop,np h];rfl
 have e2:Gb s 4 (a+(Lib.decDigits m).length+1)=Lib.decDigits v:=by
  rw[dY,h2];exact Xo v1 (Ua.2 hv) ht
 have e3:=rV h 0;rw[Nat.add_zero]at e3;unfold ob IM;simp only[e1,e2];rw[zw,zw (RW v1),m2,v2];rintro(hb|hb)
 ·exact RW m1 hb
 ·exact hb (by rw[e3];rfl)
theorem iF{σ ρ:Type}{body:σ->Option (σ⊕ρ)}(st:Int->σ)(c:Int){z:ρ}(hgo:∀k,k<c->1<=k->body (st k)=some (.inl (st (k+1))))(hz:body (st c)=some (.inr z))(hc:1<=c):Ad body (st 1)=some z:=by
 have key:∀(n:Nat)(a:Int),a+n=c->1<=a->Ad body (st a)=some z:=by
  intro n
  induction n with
  |zero=>
   intro a ha _;have:a=c:=by omega
   subst this;exact Ak hz
  |succ n ih=>
   intro a ha h1;rw[AP (hgo a (by omega) h1)];exact ih (a+1) (by omega) (by omega)
 exact key (c-1).toNat 1 (by omega) (by omega)
def JT(w h:Int):Str:=[80,53,10]++(Lib.itoa w++(32::(Lib.itoa h++[10,50,53,53,10])))
def S7(s:Str)(w h:Int)(b:Str):Prop:=1<=w/\w<=10/\1<=h/\h<=10/\s=JT w h++b/\(b.length:Int)=w*h
theorem nL{w h:Int}(hw:1<=w/\w<=10)(hh:1<=h/\h<=10):MS w h=some (JT w h):=by
 unfold MS JT;have n1:=BJ (n:=w);have n2:=BJ (n:=h);rw[OF,obs,AK (by simp;omega),obs,AK (by simp;omega),obs,OF,obs,AK (by simp;omega),obs,AK (by simp;omega),obs]
 try simp
theorem k9{s:Str}{w h:Int}{b:Str}(p:S7 s w h b):ob s 3 32=(w,h,((3+(Lib.itoa w).length+1+(Lib.itoa h).length:Nat):Int)):=by
 obtain⟨w0,w1,h0,h1,hs,hb⟩:=p;have hd:s.drop 3=Lib.decDigits w.toNat++(32::(Lib.decDigits h.toNat++([10,50,53,53,10]++b))):=by
  rw[hs];unfold JT;rw[JU,JU];simp
 have:=oc (c:=32) hd (by omega) (by omega) (by decide) (fun b hb=>by cases hb;decide);rw[JU,JU];have e1:((w.toNat:Nat):Int)=w:=by omega
 have e2:((h.toNat:Nat):Int)=h:=by omega
 rw[e1,e2]at this;exact this
theorem aU{s:Str}{w h w' h':Int}{b b':Str}(p:S7 s w h b)(p':S7 s w' h' b'):w=w'/\h=h'/\b=b':=by
 have e:=(k9 p).symm.trans (k9 p');have e1:w=w':=(Prod.mk.inj e).1;have e2:h=h':=(Prod.mk.inj (Prod.mk.inj e).2).1;subst e1;subst e2;exact⟨rfl,rfl,List.append_cancel_left (p.2.2.2.2.1.symm.trans p'.2.2.2.2.1)⟩
theorem SY{s p:Str}:Lib.hasPrefix s p=true↔∃b,s=p++b:=by
 unfold Lib.hasPrefix;rw[List.isPrefixOf_iff_prefix];constructor
 ·rintro⟨b,rfl⟩;exact⟨b,rfl⟩
 ·rintro⟨b,rfl⟩;exact⟨b,rfl⟩
theorem rg(p b:Str):Lib.trimPrefix (p++b) p=b:=by
 unfold Lib.trimPrefix;rw[zr (SY.2 ⟨b,rfl⟩),List.drop_left]
abbrev PV:=List Int×Int×Int×Bool
theorem aG{w h:Int}(hw:1<=w/\w<=10)(hh:1<=h/\h<=10):1<=w*h/\w*h<=100:=by
 have h1:w*h<=10*10:=Int.mul_le_mul hw.2 hh.2 (by omega) (by omega);have h2:1*1<=w*h:=Int.mul_le_mul hw.1 hh.1 (by omega) (by omega);omega
theorem Ag8{l:List Int}(w h:Int)(hl:l.length<=1000)(hb:∀x∈l,0<=x/\x<=255):Ad (fun(s:List Int×Int×Int×List Int×Int×Int)=>DQ s.1 s.2.1 s.2.2.1 s.2.2.2.1 s.2.2.2.2.1 s.2.2.2.2.2) (([]:List Int),w,h,l,(l.length:Int),(0:Int))=some (l,w,h):=by
 obtain⟨_,h1,_⟩:=Bw (body:=fun(s:List Int×Int×Int×List Int×Int×Int)=>DQ s.1 s.2.1 s.2.2.1 s.2.2.2.1 s.2.2.2.2.1 s.2.2.2.2.2)
  (fun k (_:Unit)=>(l.take k,w,h,l,(l.length:Int),(k:Int))) (fun _=>(l,w,h)) (fun _ _=>True) l.length (by
   intro k _ hk _;have he:l[k]? =some l[k]:=za1 hk;generalize l[k]=x at he;have hx:=hb x (za3 he);refine⟨(),?_,trivial⟩;unfold DQ;simp only;rw[zp,cT,Af,he,obs,Ae (n:=x),Bu (by simp[Aa];omega) (by simp[Aa];omega),obs,Aw,ze7,he];rfl) (by
   intro _ _;unfold DQ;simp) 0 () (by omega) trivial
 exact h1
theorem sW(b:Str):∀x∈GH b,0<=x/\x<=255:=by
 intro x hx;unfold GH at hx;obtain⟨c,_,rfl⟩:=zd3.1 hx;have:=c.toNat_lt;omega
def ln:Str×(Int×Int)->Option ((Str×Int×Int)⊕((Str×Int)⊕PV)):=fun s=>Ce s.1 s.2.1 s.2.2
def xj:Str×Int->Option ((Str×Int)⊕(Unit⊕PV)):=fun s=>DP s.1 s.2
theorem zG{s:Str}{w h:Int}{b:Str}(p:S7 s w h b):ln (s,w,h)=some (.inr (.inr (GH b,w,h,true))):=by
 obtain⟨w0,w1,h0,h1,hs,hb⟩:=p;have hm:=aG ⟨w0,w1⟩ ⟨h0,h1⟩;unfold ln Ce;simp only;unfold Es YN;have hp:Lib.hasPrefix s (JT w h)=true:=SY.2 ⟨b,hs⟩;have ht:Lib.trimPrefix s (JT w h)=b:=by rw[hs,rg]
 rw[zp h1,cT,nL ⟨w0,w1⟩ ⟨h0,h1⟩,obs,obs,hp,ht];simp only;rw[nT,cF,Ae (n:=w*h),show(((b.length:Nat):Int) != w*h)=false by simp[bne,hb],cF,zp,cT,Ag8 w h (by simp[GH];omega) (sW b),obs]
theorem lm{s:Str}{w h:Int}(hw:1<=w/\w<=10)(hh:1<=h/\h<=10)(hs:s.length<=1048576)(p:∀b,¬S7 s w h b):ln (s,w,h)=some (.inl (s,w,h+1)):=by
 unfold ln Ce;simp only;unfold Es YN;have hm:=aG hw hh;rw[zp hh.2,cT,nL hw hh,obs,obs,Ae (n:=h+1)];cases hp:Lib.hasPrefix s (JT w h)with
 |false=>rfl
 |true=>
  obtain⟨b,hb⟩:=SY.1 hp;have ht:Lib.trimPrefix s (JT w h)=b:=by rw[hb,rg]
  simp only[ht];have hne:¬(b.length:Int)=w*h:=fun he=>p b ⟨hw.1,hw.2,hh.1,hh.2,hb,he⟩
  rw[nT,cF,Ae (n:=w*h),show(((b.length:Nat):Int) != w*h)=true by simpa[bne]using hne,cT]
theorem zE{s:Str}{w h:Int}(h1:h=11):ln (s,w,h)=some (.inr (.inl (s,w))):=by
 unfold ln Ce;simp only;rw[zq,cF]
theorem xi{s:Str}{w:Int}(hw:1<=w/\w<=10)(hs:s.length<=1048576)(p:∀h b,¬S7 s w h b):xj (s,w)=some (.inl (s,w+1)):=by
 unfold xj DP;simp only;have:=iF (body:=ln) (fun h=>(s,w,h)) 11 (z:=.inl (s,w)) (fun k hk hk1=>lm hw ⟨hk1,by omega⟩ hs (p k)) (zE rfl) (by omega);have h':Ad (fun(s:Str×Int×Int)=>Ce s.1 s.2.1 s.2.2) (s,w,(1:Int))=_:=this;rw[zp hw.2,cT,h',obs];simp only[zg0];rw[Ae]
theorem zD{s:Str}{w h:Int}{b:Str}(hs:s.length<=1048576)(p:S7 s w h b):xj (s,w)=some (.inr (.inr (GH b,w,h,true))):=by
 unfold xj DP;simp only;have hw:1<=w/\w<=10:=⟨p.1,p.2.1⟩;have:=iF (body:=ln) (fun h=>(s,w,h)) h (z:=.inr (GH b,w,h,true)) (fun k hk hk1=>lm hw ⟨hk1,by have:=p.2.2.2.1;omega⟩ hs (fun b' p'=>by have:=(aU p p').2.1;omega)) (zG p) p.2.2.1;have h':Ad (fun(s:Str×Int×Int)=>Ce s.1 s.2.1 s.2.2) (s,w,(1:Int))=_:=this;rw[zp hw.2,cT,h',obs];rfl
theorem sv{s:Str}{w h:Int}{b:Str}(hs:s.length<=1048576)(p:S7 s w h b):E8 s=some (GH b,w,h,true):=by
 unfold E8;have:=iF (body:=xj) (fun w=>(s,w)) w (z:=.inr (GH b,w,h,true)) (fun k hk hk1=>xi ⟨hk1,by have:=p.2.1;omega⟩ hs (fun h' b' p'=>by have:=(aU p p').1;omega)) (zD hs p) p.1;have h':Ad (fun(s:Str×Int)=>DP s.1 s.2) (s,(1:Int))=_:=this;rw[h',obs];rfl
theorem xn{a b c:Int}:BT a b c=some (decide (b<=a/\a<=c)):=by
 unfold BT;by_cases h:a>=b
 ·rw[zp h,cT];congr 1;simp;omega
 ·rw[zq h,cF];congr 1;simp;omega
def Yg(x:Int):Bool:=decide (0<=x/\x<=255)
theorem Ao5(x:Int):BT x 0 255=some (Yg x):=xn
theorem pH{a b c:Int}:AE a b c=some (decide (b<=a/\a<=c)):=by
 unfold AE;by_cases h:b<=a
 ·first|(rw[zp h,cT];congr 1;simp;omega)|(simp[h])
 ·first|(rw[zq h,cF];congr 1;simp;omega)|(simp[h])
theorem zg{l:List Int}(hl:l.length<4611686018427387904):HW l=some (l.all Yg):=by
 obtain⟨h1,h2⟩:=Fc (l:=l) (st:=fun k=>(l,(l.length:Int),(k:Int))) (p:=Yg) (body:=fun(s:List Int×Int×Int)=>Ar s.1 s.2.1 s.2.2) (fin:=.inl ()) (bad:=fun k=>.inr (k:Int))
  (by
   intro k a hk ha;have:=Dd hk;show Ar l (l.length:Int) (k:Int)=_;unfold Ar HX;rw[zp,cT,Af,hk,obs,pH,obs,show decide ((0:Int)<=a/\a<=255)=true from ha,nT,obs,cF,Aw])
  (by
   intro k a hk ha;have:=Dd hk;show Ar l (l.length:Int) (k:Int)=_;unfold Ar HX;rw[zp,cT,Af,hk,obs,pH,obs,show decide ((0:Int)<=a/\a<=255)=false from ha,nF,obs,cT])
  (by
   show Ar l (l.length:Int) (l.length:Int)=_;unfold Ar;rw[zq];rfl)
 unfold HW Bs BN;cases ha:l.all Yg with
 |true=>
  have h1':Ad (fun(s:List Int×Int×Int)=>Ar s.1 s.2.1 s.2.2) (l,(l.length:Int),(0:Int))=_:=h1 ha;rw[h1'];rfl
 |false=>
  obtain⟨k,hk,h3⟩:=h2 ha;have h3':Ad (fun(s:List Int×Int×Int)=>Ar s.1 s.2.1 s.2.2) (l,(l.length:Int),(0:Int))=_:=h3;rw[h3',obs];simp only[za6,obs];rw[zp];rfl
theorem zn{l:List Int}(hl:l.length<=100):NO l=some (l.all Yg):=by
 obtain⟨h1,h2⟩:=Fc (l:=l) (st:=fun k=>(l,l,(l.length:Int),(k:Int))) (p:=Yg) (body:=fun(s:List Int×List Int×Int×Int)=>CQ s.1 s.2.1 s.2.2.1 s.2.2.2) (fin:=.inl l) (bad:=fun k=>.inr false)
  (by
   intro k a hk ha;have:=Dd hk;show CQ l l (l.length:Int) (k:Int)=_;unfold CQ;rw[zp,cT,Af,hk,obs,Ao5,obs,ha,nT,cF,Aw])
  (by
   intro k a hk ha;have:=Dd hk;show CQ l l (l.length:Int) (k:Int)=_;unfold CQ;rw[zp,cT,Af,hk,obs,Ao5,obs,ha,nF,cT])
  (by
   show CQ l l (l.length:Int) (l.length:Int)=_;unfold CQ;rw[zq];rfl)
 unfold NO;cases ha:l.all Yg with
 |true=>
  have h1':Ad (fun(s:List Int×List Int×Int×Int)=>CQ s.1 s.2.1 s.2.2.1 s.2.2.2) (l,l,(l.length:Int),(0:Int))=_:=h1 ha;rw[h1',obs];simp only[zg0];rw[zp]
 |false=>
  obtain⟨k,hk,h3⟩:=h2 ha;have h3':Ad (fun(s:List Int×List Int×Int×Int)=>CQ s.1 s.2.1 s.2.2.1 s.2.2.2) (l,l,(l.length:Int),(0:Int))=_:=h3;rw[h3'];rfl
theorem Aj3{l:List Int}(hl:l.length<=100):∀(n a:Nat)(s:Str),a+n=l.length->s.length<=1000+a->
  Ad (fun(s:List UInt8×List Int×Int×Int)=>Dq s.1 s.2.1 s.2.2.1 s.2.2.2) (s,l,(l.length:Int),(a:Int))=some (s++BK ((l.drop a).map (zi .u8))):=by
 intro n
 induction n with
 |zero=>
  intro a s ha hs;rw[zd2 (by omega)];refine Ak ?_;unfold Dq;simp only;rw[zq,cF];simp[BK]
 |succ n ih=>
  intro a s ha hs;have hlt:a<l.length:=by omega
  have he:l[a]? =some l[a]:=za1 hlt;have hd:l.drop a=l[a]::l.drop (a+1):=za9 hlt;generalize l[a]=x at he hd;have hgo:(fun(s:List UInt8×List Int×Int×Int)=>Dq s.1 s.2.1 s.2.2.1 s.2.2.2) (s,l,(l.length:Int),(a:Int))=some (.inl (s++BK [zi .u8 x],l,(l.length:Int),((a+1:Nat):Int))):=by
   unfold Dq;simp only;rw[zp,cT,Af,he,obs,AK (by simp[BK];omega),obs,Aw]
  rw[AP hgo,ih (a+1) _ (by omega) (by simp[BK];omega),hd];simp[BK]
theorem tT{w h:Int}{l:List Int}(hw:1<=w/\w<=10)(hh:1<=h/\h<=10)(hl:l.length<=100):H9 w h l=some (JT w h++BK (l.map (zi .u8))):=by
 unfold H9;have n1:=BJ (n:=w);have n2:=BJ (n:=h);have e:([80,53,10]++Lib.itoa w++[32]++Lib.itoa h++[10,50,53,53,10]:Str)=JT w h:=by unfold JT;simp
 have hb:=Aj3 hl l.length 0 (JT w h) (by omega) (by rw[<-e];simp;omega);rw[NA,obs,AK (by simp;omega),obs,AK (by simp;omega),obs,NA,obs,AK (by simp;omega),obs,AK (by simp;omega),obs];rw[e];have hb':Ad (fun(s:List UInt8×List Int×Int×Int)=>Dq s.1 s.2.1 s.2.2.1 s.2.2.2) (JT w h,l,(l.length:Int),(0:Int))=_:=hb;rw[hb',obs,ze5]
def XV(w h:Int)(l:List Int):Prop:=1<=w/\w<=10/\1<=h/\h<=10/\(l.length:Int)=w*h/\l.all Yg=true
instance (w h:Int) (l:List Int):Decidable (XV w h l):=by unfold XV;exact inferInstance
def UA(w h:Int)(l:List Int):Str×Bool:=if XV w h l then(JT w h++BK (l.map (zi .u8)),true)else([],false)
theorem JX{w h:Int}{l:List Int}(p:¬XV w h l):UA w h l=([],false):=zw p
theorem bj{w h:Int}{l:List Int}:Gm w h l=some (UA w h l):=by
 unfold Gm;rw[xn,obs];by_cases c1:1<=w/\w<=10
 ·rw[zp c1,nT,cF,xn,obs];by_cases c2:1<=h/\h<=10
  ·have hm:=aG c1 c2;rw[zp c2,nT,cF,Ae (n:=w*h)];by_cases c3:(l.length:Int)=w*h
   ·rw[show((l.length:Int) != w*h)=false by simpa[bne]using c3,cF,zn (by omega),obs];cases c4:l.all Yg with
    |true=>
     rw[nT,cF,tT c1 c2 (by omega),obs];unfold UA;rw[zr ⟨c1.1,c1.2,c2.1,c2.2,c3,c4⟩]
    |false=>
     rw[nF,cT,JX (fun p=>by rw[p.2.2.2.2.2]at c4;cases c4)]
   ·rw[show((l.length:Int) != w*h)=true by simpa[bne]using c3,cT,JX (fun p=>c3 p.2.2.2.2.1)]
  ·rw[zq c2,nF,cT,JX (fun p=>c2 ⟨p.2.2.1,p.2.2.2.1⟩)]
 ·rw[zq c1,nF,cT,JX (fun p=>c1 ⟨p.1,p.2.1⟩)]
theorem ai{w h:Int}{l:List Int}:Gl w h l=some (UA w h l):=by
 unfold Gl tg;rw[pH,obs];by_cases c1:1<=w/\w<=10
 ·rw[zp c1,nT,cF,pH,obs];by_cases c2:1<=h/\h<=10
  ·have hm:=aG c1 c2;rw[zp c2,nT,cF,Ae (n:=w*h)];by_cases c3:(l.length:Int)=w*h
   ·rw[zw (fun h=>h c3),zg (by omega),obs];cases c4:l.all Yg with
    |true=>
     have n1:=BJ (n:=w);have n2:=BJ (n:=h);rw[nT,cF,nL c1 c2,obs,zr ⟨by unfold JT;simp;omega,by omega⟩];unfold UA;rw[zr ⟨c1.1,c1.2,c2.1,c2.2,c3,c4⟩]
    |false=>
     rw[nF,cT,JX (fun p=>by rw[p.2.2.2.2.2]at c4;cases c4)]
   ·rw[zr c3,JX (fun p=>c3 p.2.2.2.2.1)]
  ·rw[zq c2,nF,cT,JX (fun p=>c2 ⟨p.2.2.1,p.2.2.2.1⟩)]
 ·rw[zq c1,nF,cT,JX (fun p=>c1 ⟨p.1,p.2.1⟩)]
theorem wK{w h:Int}{l:List Int}:(UA w h l).1.length<=1000:=by
 unfold UA;split
 ·rename_i p;have hm:=aG ⟨p.1,p.2.1⟩ ⟨p.2.2.1,p.2.2.2.1⟩;have n1:=BJ (n:=w) (by have:=p.1;omega) (by have:=p.2.1;omega);have n2:=BJ (n:=h) (by have:=p.2.2.1;omega) (by have:=p.2.2.2.1;omega);have:=p.2.2.2.2.1;simp[JT,BK];omega
 ·simp
def Xw (s:Str) (w:Bh):Str×Bool:=if(V3 (HM s w)).2=true then UA w.2.2.1 w.2.2.2 (V3 (HM s w)).1 else([],false)
theorem tC{s:Str}(hs:s.length<=1048576)(w:Bh):Ml s w=some (Xw s w):=by
 have h:=UH (s:=s) hs w;unfold Ml Xw;simp only[AR];rw[h,obs];cases(V3 (HM s w)).2 with
 |false=>rw[nF,cT,zw (by simp)]
 |true=>rw[nT,cF,bj,obs,zr rfl]
theorem sq{s:Str}(hs:s.length<=1048576)(w:Bh):Mc s w=some (Xw s w):=by
 have h:=KA (s:=s) hs w;unfold Mc Xw;simp only[AR];rw[h,obs];cases(V3 (HM s w)).2 with
 |false=>rw[nF,cT,zw (by simp)]
 |true=>rw[nT,cF,ai,obs,zr rfl]
theorem kE{x:Int}:Yg x=true↔0<=x/\x<=255:=by unfold Yg;simp
theorem wB{l:List Int}(h:∀x∈l,0<=x/\x<=255):GH (BK (l.map (zi .u8)))=l:=by
 unfold GH BK;rw[List.map_map,List.map_map]
 conv=>rhs;rw[<-List.map_id l]
 apply List.map_congr_left;intro x hx;have:=h x hx;simp only[Function.comp_apply,id];rw[Ae0 (by omega) (by omega)];obtain⟨k,rfl⟩:∃k:Nat,x=k:=⟨x.toNat,by omega⟩;rw[zc2,UInt8.toNat_ofNat'];omega
theorem xE(l:List Int):(BK (l.map (zi .u8))).length=l.length:=by unfold BK;simp
theorem p8{w h:Int}{l:List Int}(p:XV w h l):UA w h l=(JT w h++BK (l.map (zi .u8)),true):=zr p
theorem Ai4{w h:Int}{l:List Int}(p:XV w h l):S7 (UA w h l).1 w h (BK (l.map (zi .u8))):=by
 rw[p8 p];exact⟨p.1,p.2.1,p.2.2.1,p.2.2.2.1,rfl,by rw[xE];exact p.2.2.2.2.1⟩
theorem wW{w h:Int}{l:List Int}(p:XV w h l):E8 (UA w h l).1=some (l,w,h,true):=by
 have:=sv (by have:=wK (w:=w) (h:=h) (l:=l);omega) (Ai4 p);rw[this,wB];intro x hx;exact kE.1 (za5.1 p.2.2.2.2.2 x hx)
abbrev Rn:=Int×Int
def Kf(b:Int×Option Int)(r:Rn):(Unit⊕Bool)⊕(Int×Option Int):=if 0<=r.1/\r.1<=255/\1<=r.2/\r.2<=b.1/\b.2≠some r.1 then .inr (b.1-r.2,some r.1)else .inl (.inr false)
def Lq(l:List Rn):Bool:=match Eo Kf (100,none) l with|.inl _=>false|.inr _=>true
theorem XC:∀(l:List Rn)(b b':Int×Option Int),0<=b.1->Eo Kf b l=.inr b'->(∀r∈l,0<=r.1/\r.1<=255/\1<=r.2/\r.2<=b.1)/\(l.length:Int)<=b.1
 |[],b,b',h0,_=>⟨fun r hr=>absurd hr List.not_mem_nil,by simpa using h0⟩
 |r::l,b,b',h0,h=>by
  unfold Eo Kf at h;split at h
  ·cases h
  ·rename_i b1 h1;split at h1
   ·rename_i hc;cases h1;obtain⟨h2,h3⟩:=XC l _ b' (by simp only;omega) h;refine⟨fun x hx=> ?_,by simp only[zb7]at h3⊢;omega⟩;rcases zc1.1 hx with rfl|hx
    ·omega
    ·have:=h2 x hx;simp only at this;omega
   ·cases h1
theorem Qk{l:List Rn}(h:Lq l=true):(∀r∈l,0<=r.1/\r.1<=255/\1<=r.2/\r.2<=100)/\l.length<=100:=by
 unfold Lq at h;split at h
 ·cases h
 ·rename_i b' hb;obtain⟨h1,h2⟩:=XC l (100,none) b' (by simp) hb;exact⟨h1,by simp only at h2;omega⟩
def lc(l:List Rn)(k:Nat):Option Int:=if k=0 then none else(l[k-1]?).map (·.1)
theorem Am9{a b c:Int}:AE a b c=some (decide (b<=a/\a<=c)):=by
 unfold AE;by_cases h:a>=b
 ·rw[zp h,cT];congr 1;simp;omega
 ·rw[zq h,cF];congr 1;simp;omega
theorem ah{l:List Rn}(hl:l.length<4611686018427387904):HQ l=some (Lq l):=by
 unfold HQ;obtain⟨h,_⟩:=bK (body:=fun(s:List Rn×Int×List Rn×Int×Int)=>FF s.1 s.2.1 s.2.2.1 s.2.2.2.1 s.2.2.2.2) (l:=l)
  (fun k (b:Int×Option Int)=>(l,100-b.1,l,(l.length:Int),(k:Int))) Kf (fun _=>.inl ()) (fun k b=>b.2=lc l k/\0<=b.1/\b.1<=100) (by
   rintro k ⟨left,p⟩ r hk ⟨hp,h0,h1⟩;have hlt:=Dd hk;simp only at hp h0 h1;unfold FF;simp only;rw[zp (show(k:Int)<(l.length:Int) by omega),cT,Af,hk,obs,Am9,obs,Ae (n:=100-(100-left)),show 100-(100-left)=left by omega,Am9];by_cases c1:0<=r.1/\r.1<=255
   ·rw[zp c1,nT,cF,obs];by_cases c2:1<=r.2/\r.2<=left
    ·rw[zp c2,nT,cF,Ae (n:=100-left+r.2),Aw];by_cases hk0:k=0
     ·subst hk0
      left
      refine⟨(left-r.2,some r.1),?_,?_,?_,by simp only;omega,by simp only;omega⟩
      ·unfold Kf;rw[zr];refine⟨c1.1,c1.2,c2.1,c2.2,?_⟩;rw[hp];simp[lc]
      ·simp only;rw[show 100-(left-r.2)=100-left+r.2 by omega];rfl
      ·simp[lc,hk]
     ·obtain⟨c,hc⟩:∃c,l[k-1]? =some c:=⟨_,za1 (by omega)⟩;have hpc:p=some c.1:=by rw[hp];simp[lc,hk0,hc]
      rw[zp,cT,Ae,show(k:Int)-1=((k-1:Nat):Int) by omega,Af,hc,obs];by_cases c3:r.1=c.1
      ·right
       refine⟨.inr false,?_,?_⟩
       ·unfold Kf;rw[zw];rintro⟨_,_,_,_,h⟩;exact h (by simp only[hpc,c3])
       ·rw[show(r.1==c.1)=true by simpa using c3];rfl
      ·left
       refine⟨(left-r.2,some r.1),?_,?_,?_,by simp only;omega,by simp only;omega⟩
       ·unfold Kf;rw[zr];refine⟨c1.1,c1.2,c2.1,c2.2,?_⟩;simp only[hpc];intro h;exact c3 (zv h).symm
       ·rw[show(r.1==c.1)=false by simpa using c3];simp only;rw[show 100-(left-r.2)=100-left+r.2 by omega];rfl
       ·simp[lc,hk]
    ·right
     refine⟨.inr false,?_,?_⟩
     ·unfold Kf;rw[zw];rintro⟨_,_,h2,h3,_⟩;exact c2 ⟨h2,h3⟩
     ·rw[zq c2];rfl
   ·right
    refine⟨.inr false,?_,?_⟩
    ·unfold Kf;rw[zw];rintro⟨h2,h3,_⟩;exact c1 ⟨h2,h3⟩
    ·rw[zq c1];rfl) (by
   rintro⟨left,p⟩ _;unfold FF;simp) (100,none) ⟨rfl,by simp,by simp⟩
 have h':Ad (fun(s:List Rn×Int×List Rn×Int×Int)=>FF s.1 s.2.1 s.2.2.1 s.2.2.2.1 s.2.2.2.2) (l,(0:Int),l,(l.length:Int),(0:Int))=_:=h;rw[h',obs];unfold Lq;have hx:∀(l:List Rn) b r,Eo Kf b l=.inl r->r=.inr false:=by
  intro l
  induction l with
  |nil=>intro b r h;cases h
  |cons a l ih=>
   intro b r h;unfold Eo Kf at h;split at h
   ·rename_i h1;split at h1
    ·cases h1
    ·cases h1;cases h;rfl
   ·exact ih _ _ h
 cases hz:Eo Kf (100,none) l with
 |inl r=>rw[hx _ _ _ hz];rfl
 |inr b=>rfl
def DL(r:Rn):Str:=Lib.itoa r.2++(120::Lib.itoa r.1)
def Cp(l:List Rn):Str:=Lib.join (l.map DL) [44]
theorem oz{r:Rn}(h:0<=r.1/\r.1<=255/\1<=r.2/\r.2<=100):(DL r).length<=43:=by
 have h1:=BJ (n:=r.1);have h2:=BJ (n:=r.2);unfold DL;rw[zb5,zb7];omega
theorem X0{l:List Rn}(h:∀r∈l,0<=r.1/\r.1<=255/\1<=r.2/\r.2<=100):(Cp l).length<=44*l.length:=by
 have:=au (c:=43) (xs:=l.map DL) (fun x hx=>by
  obtain⟨r,hr,rfl⟩:=zd3.1 hx;exact oz (h r hr)) 44
 rw[zc5]at this;exact this
theorem ip{l:List Rn}{k:Nat}{r:Rn}(hk:l[k]? =some r):Cp (l.take (k+1))=if k=0 then DL r else Cp (l.take k)++(44::DL r):=by
 have hlt:=Dd hk;unfold Cp;rw[ze7,hk,List.map_append];show Lib.join (List.map DL (l.take k)++[DL r]) [44]=_;rw[sL];by_cases h:k=0
 ·subst h;simp
 ·rw[zw h,zw (by simp;exact⟨h,fun h2=>by subst h2;simp at hlt⟩)];rfl
theorem tN{l:List Rn}(h:∀r∈l,0<=r.1/\r.1<=255/\1<=r.2/\r.2<=100)(hl:l.length<=100):Mq l=some (Cp l):=by
 unfold Mq;obtain⟨_,h1,_⟩:=Bw (body:=fun(s:Str×List Rn×Int×Int)=>GM s.1 s.2.1 s.2.2.1 s.2.2.2)
  (fun k (_:Unit)=>(Cp (l.take k),l,(l.length:Int),(k:Int))) (fun _=>Cp l) (fun _ _=>True) l.length (by
   intro k _ hk _;have he:l[k]? =some l[k]:=za1 hk;generalize l[k]=r at he;have hr:=h r (za3 he);have hb:=X0 (l:=l.take k) (fun r hr=>h r (List.mem_of_mem_take hr));have hb':(Cp (l.take k)).length<=4400:=by rw[zd9]at hb;omega
   have n1:=BJ (n:=r.1);have n2:=BJ (n:=r.2);refine⟨(),?_,trivial⟩;unfold GM;simp only;rw[zp (show(k:Int)<(l.length:Int) by omega),cT,Af,he,obs,ip he];by_cases hk0:k=0
   ·subst hk0;rw[show decide (((0:Nat):Int)>0)=false from rfl,cF,obs,zr rfl];simp only[za6];rw[NA,obs,AK (by simp;omega),obs,NA,obs,AK (by simp;omega),obs,AK (by
     simp[Cp,Lib.join_nil];omega),obs,Aw]
    simp[Cp,Lib.join_nil,DL]
   ·rw[zp,cT,AK (by simp;omega),obs,obs,zw hk0];simp only[za6];rw[NA,obs,AK (by simp;omega),obs,NA,obs,AK (by simp;omega),obs,AK (by
     simp;omega),obs,Aw]
    simp[DL]) (by
   intro _ _;unfold GM;simp) 0 () (by omega) trivial
 have h1':Ad (fun(s:Str×List Rn×Int×Int)=>GM s.1 s.2.1 s.2.2.1 s.2.2.2) (([]:Str),l,(l.length:Int),(0:Int))=_:=h1;rw[h1',obs]
theorem am{l:List Rn}(h:∀r∈l,I64 r.1/\I64 r.2)(hl:l.length<=1000):H1 l=some (Cp l):=by
 unfold H1;obtain⟨_,h1,_⟩:=Bw (body:=fun(s:List Str×List Rn×Int×Int)=>FO s.1 s.2.1 s.2.2.1 s.2.2.2)
  (fun k (_:Unit)=>((l.take k).map DL,l,(l.length:Int),(k:Int))) (fun _=>l.map DL) (fun _ _=>True) l.length (by
   intro k _ hk _;have he:l[k]? =some l[k]:=za1 hk;generalize l[k]=r at he;have hr:=h r (za3 he);unfold I64 at hr;have n1:=BJ (n:=r.1);have n2:=BJ (n:=r.2);refine⟨(),?_,trivial⟩;unfold FO;simp only;rw[zp (show(k:Int)<(l.length:Int) by omega),cT,Af,he,obs,OF,obs,AK (by simp;omega),obs,OF,obs,AK (by simp;omega),obs,Bu (by simp[Aa];omega) (by simp[Aa];omega),obs,Aw,ze7,he];simp[DL]) (by
   intro _ _;unfold FO;simp) 0 () (by omega) trivial
 have h1':Ad (fun(s:List Str×List Rn×Int×Int)=>FO s.1 s.2.1 s.2.2.1 s.2.2.2) (([]:List Str),l,(l.length:Int),(0:Int))=_:=h1;have hj:(Lib.join (l.map DL) [44]).length<=44*l.length:=by
  have:=au (c:=43) (xs:=l.map DL) (fun x hx=>by
   obtain⟨r,hr,rfl⟩:=zd3.1 hx;have hr:=h r hr;unfold I64 at hr;have n1:=BJ (n:=r.1);have n2:=BJ (n:=r.2);unfold DL;rw[zb5,zb7];omega) 44
  rw[zc5]at this;exact this
 rw[h1',obs,wb (by simp;omega) (by omega),obs];rfl
def G4(out:List Rn)(n:Int):List Rn:=match out.getLast? with
 |some r=>if r.1=n then out.dropLast++[(r.1,r.2+1)]else out++[(n,1)]
 |none=>[(n,1)]
def Er(row:List Int):List Rn:=row.foldl G4 []
def Ep(l:List Rn):List Int:=(l.map fun r=>List.replicate r.2.toNat r.1).flatten
theorem bg(row:List Int)(n:Int):Er (row++[n])=G4 (Er row) n:=by unfold Er;rw[List.foldl_append];rfl
theorem Jc(o:List Rn)(r:Rn)(n:Int):G4 (o++[r]) n=if r.1=n then o++[(r.1,r.2+1)]else o++[r]++[(n,1)]:=by
 unfold G4;simp
theorem Ky(a b:List Rn):Ep (a++b)=Ep a++Ep b:=by unfold Ep;simp
theorem VD(r:Rn):Ep [r]=List.replicate r.2.toNat r.1:=by unfold Ep;simp
theorem Ug{ρ β α:Type}(step:β->α->ρ⊕β):∀(l m:List α)(b b':β),Eo step b l=.inr b'->Eo step b (l++m)=Eo step b' m
 |[],m,b,b',h=>by cases h;rfl
 |a::l,m,b,b',h=>by
  unfold Eo at h;rw[ze8]
  conv=>lhs;unfold Eo
  cases hs:step b a with
  |inl r=>rw[hs]at h;cases h
  |inr c=>rw[hs]at h;exact Ug step l m c b' h
def rC(out:List Rn)(m:Int):Prop:=(out=[]/\m=0)\/∃o r prev,out=o++[r]/\Eo Kf (100,none) o=.inr (100-(m-r.2),prev)/\prev≠some r.1/\1<=r.2/\0<=r.1/\r.1<=255
theorem rC.done{out:List Rn}{m:Int}(h:rC out m)(hm:m<=100):∃p,Eo Kf (100,none) out=.inr (100-m,p)/\p=out.getLast?.map (·.1):=by
 rcases h with⟨rfl,rfl⟩|⟨o,r,prev,rfl,h1,h2,h3,h4,h5⟩
 ·exact⟨none,rfl,rfl⟩
 ·refine⟨some r.1,?_,by simp⟩;rw[Ug Kf o [r] _ _ h1];unfold Eo Kf;rw[zr ⟨h4,h5,h3,by simp only;omega,h2⟩];simp only[Eo];rw[show 100-(m-r.2)-r.2=100-m by omega]
theorem rC.step{out:List Rn}{m n:Int}(h:rC out m)(hm:m+1<=100)(hn:0<=n/\n<=255):rC (G4 out n) (m+1):=by
 obtain⟨p,hp1,hp2⟩:=h.done (by omega);rcases h with⟨rfl,rfl⟩|⟨o,r,prev,rfl,h1,h2,h3,h4,h5⟩
 ·exact .inr ⟨[],(n,1),none,rfl,rfl,by simp,by simp,hn.1,hn.2⟩
 ·rw[Jc];split
  ·exact .inr ⟨o,(r.1,r.2+1),prev,rfl,by simp only;rw[h1];congr 2;omega,h2,by simp only;omega,h4,h5⟩
  ·rename_i hne;refine .inr ⟨o++[r],(n,1),p,rfl,by simp only;rw[hp1];congr 2;omega,?_,by simp,hn.1,hn.2⟩;rw[hp2];simpa using hne
theorem nw(out:List Rn)(n:Int)(h:∀r∈out,1<=r.2):Ep (G4 out n)=Ep out++[n]/\∀r∈G4 out n,1<=r.2:=by
 rcases List.eq_nil_or_concat out with rfl|⟨o,r,ho⟩
 ·exact⟨rfl,by simp[G4]⟩
 ·rw[List.concat_eq_append]at ho;subst ho;have hr:=h r (by simp);rw[Jc];split
  ·rename_i he;refine⟨?_,?_⟩
   ·rw[Ky,Ky,VD,VD,ze6]
    congr 1
    show List.replicate (r.2+1).toNat r.1=_;rw[show(r.2+1).toNat=r.2.toNat+1 by omega,List.replicate_succ',he]
   ·intro x hx;rcases zb0.1 hx with hx|hx
    ·exact h x (List.mem_append_left _ hx)
    ·cases zd0.1 hx;simp only;omega
  ·refine⟨?_,?_⟩
   ·rw[Ky,VD];rfl
   ·intro x hx;rcases zb0.1 hx with hx|hx
    ·exact h x hx
    ·cases zd0.1 hx;simp
theorem lS{α:Type}{P:List α->Prop}(h0:P [])(h1:∀l a,P l->P (l++[a])):∀l,P l:=by
 have key:∀(n:Nat)(l:List α),l.length=n->P l:=by
  intro n
  induction n with
  |zero=>intro l h;rw[zb2 h];exact h0
  |succ n ih=>
   intro l h;rcases List.eq_nil_or_concat l with rfl|⟨o,r,rfl⟩
   ·simp at h
   ·rw[List.concat_eq_append]at h⊢
    exact h1 o r (ih o (by simpa using h))
 intro l;exact key _ l rfl
def gG(row:List Int):Bool:=row.all (fun x=>decide (0<=x)&&decide (x<=255))&&decide (row.length<=100)
theorem XF{row:List Int}:gG row=true↔(∀x∈row,0<=x/\x<=255)/\row.length<=100:=by unfold gG;simp
theorem X1:∀(row:List Int),Ep (Er row)=row/\(∀r∈Er row,1<=r.2)/\((∀x∈row,0<=x/\x<=255)->row.length<=100->rC (Er row) row.length):=by
 refine lS ⟨rfl,by simp[Er],fun _ _=>.inl ⟨rfl,rfl⟩⟩ ?_;intro row n ⟨h1,h2,h3⟩;rw[bg];obtain⟨g1,g2⟩:=nw (Er row) n h2;refine⟨by rw[g1,h1],g2,fun hb hl=> ?_⟩;rw[zb5]at hl;have hl':row.length+1<=100:=hl;have:=(h3 (fun x hx=>hb x (List.mem_append_left _ hx)) (by omega)).step (n:=n) (by omega) (hb n (by simp));simpa using this
theorem nC{row:List Int}(h:gG row=true):Lq (Er row)=true:=by
 obtain⟨h1,h2⟩:=XF.1 h;obtain⟨p,hp,_⟩:=((X1 row).2.2 h1 h2).done (by omega);unfold Lq;rw[hp]
theorem nA(row:List Int):Ep (Er row)=row:=(X1 row).1
theorem tz(row:List Int):(Er row).length<=row.length:=by
 refine lS (P:=fun row=>(Er row).length<=row.length) (by simp[Er]) ?_ row;intro row n h;rw[bg];rcases List.eq_nil_or_concat (Er row)with e|⟨o,r,e⟩
 ·rw[e];simp[G4]
 ·rw[List.concat_eq_append]at e;rw[e]at h⊢
  rw[Jc];split
  ·simp at h⊢;omega
  ·simp at h⊢;omega
theorem lL(o:List Rn)(r v:Rn):List.set (o++[r]) o.length v=o++[v]:=by simp
theorem qG{k:Nat}{b:List Rn}(h:b.length<=k/\∀r∈b,0<=r.2/\r.2<=(k:Int))(a:Int):(G4 b a).length<=k+1/\∀r∈G4 b a,0<=r.2/\r.2<=((k+1:Nat):Int):=by
 obtain⟨h1,h2⟩:=h;rcases List.eq_nil_or_concat b with rfl|⟨o,r,hb⟩
 ·refine⟨by simp[G4],?_⟩;intro r hr;simp[G4]at hr;subst hr;simp;omega
 ·rw[List.concat_eq_append]at hb;subst hb;rw[Jc];have hr:=h2 r (by simp);split
  ·refine⟨by simp at h1⊢;omega,?_⟩;intro x hx;rcases zb0.1 hx with hx|hx
   ·have:=h2 x (List.mem_append_left _ hx);omega
   ·cases zd0.1 hx;simp only;omega
  ·refine⟨by simp at h1⊢;omega,?_⟩;intro x hx;rcases zb0.1 hx with hx|hx
   ·have:=h2 x hx;omega
   ·cases zd0.1 hx;simp only;omega
theorem vO{row:List Int}(hl:row.length<=100000):La row=some (Er row):=by
 obtain⟨h1,h2⟩:=KR (l:=row) (body:=fun(s:(List (Int×Int))×List Int×Int×Int)=>ER s.1 s.2.1 s.2.2.1 s.2.2.2)
  (st:=fun k (b:List Rn)=>(b,row,(row.length:Int),(k:Int))) (step:=G4) (fin:=fun b=>b) (I:=fun k b=>b.length<=k/\∀r∈b,0<=r.2/\r.2<=(k:Int))
  (by
   rintro k b a hk hI;have hkl:=Dd hk;refine⟨?_,qG hI a⟩;show ER b row (row.length:Int) (k:Int)=some (.inl (G4 b a,row,(row.length:Int),((k+1:Nat):Int)));obtain⟨i1,i2⟩:=hI;unfold ER;rw[zp (show(k:Int)<(row.length:Int) by omega),cT,Af,hk,obs,Aw];rcases List.eq_nil_or_concat b with rfl|⟨o,r,hb⟩
   ·rw[show decide (zi zj ((([]:List Rn).length:Int)-1)>=0)=false from rfl,cF,Bu (by simp[Aa]) (by simp[Aa]),obs];rfl
   ·rw[List.concat_eq_append]at hb;subst hb;have hr:=i2 r (by simp);have hw:zi zj (((o++[r]).length:Int)-1)=(o.length:Int):=by
     have hle:(((o++[r]).length:Nat):Int)=(o.length:Int)+1:=by simp
     rw[hle,Ae];omega
    have hg:AN (o++[r]) o.length=some r:=by unfold AN;simp
    rw[hw,zp (show(o.length:Int)>=0 by omega),cT,AT (by simp),obs,hg,obs,Jc];by_cases he:r.1=a
    ·rw[show(r.1==a)=true by simp[he],cT,obs,hg,obs,obs,hg,obs,zr he,Ae (by simp at i1;omega) (by simp at i1;omega),lL]
    ·rw[show(r.1==a)=false from beq_eq_false_iff_ne.2 he,cF,zw he,Bu (by simp[Aa]at i1⊢;omega) (by simp[Aa]at i1⊢;omega),obs])
  (by
   rintro b _;show ER b row (row.length:Int) (row.length:Int)=_;unfold ER;rw[zq];rfl) [] ⟨by simp,by simp⟩
 unfold La;have h1':Ad (fun(s:(List (Int×Int))×List Int×Int×Int)=>ER s.1 s.2.1 s.2.2.1 s.2.2.2) ([],row,(row.length:Int),(0:Int))=_:=h1;rw[h1',obs];rfl
theorem tM{row:List Int}(hl:row.length<=100000):JG row=some (Er row):=by
 obtain⟨h1,h2⟩:=KR (l:=row) (body:=fun(s:(List (Int×Int))×List Int×Int×Int)=>Ed s.1 s.2.1 s.2.2.1 s.2.2.2)
  (st:=fun k (b:List Rn)=>(b,row,(row.length:Int),(k:Int))) (step:=G4) (fin:=fun b=>b) (I:=fun k b=>b.length<=k/\∀r∈b,0<=r.2/\r.2<=(k:Int))
  (by
   rintro k b a hk hI;have hkl:=Dd hk;refine⟨?_,qG hI a⟩;show Ed b row (row.length:Int) (k:Int)=some (.inl (G4 b a,row,(row.length:Int),((k+1:Nat):Int)));obtain⟨i1,i2⟩:=hI;unfold Ed;rw[zp (show(k:Int)<(row.length:Int) by omega),cT,Af,hk,obs,Aw];rcases List.eq_nil_or_concat b with rfl|⟨o,r,hb⟩
   ·rw[show decide ((([]:List Rn).length:Int)>0)=false from rfl,cF,Bu (by simp[Aa]) (by simp[Aa]),obs];rfl
   ·rw[List.concat_eq_append]at hb;subst hb;have hr:=i2 r (by simp);have hw:zi zj (((o++[r]).length:Int)-1)=(o.length:Int):=by
     have hle:(((o++[r]).length:Nat):Int)=(o.length:Int)+1:=by simp
     rw[hle,Ae];omega
    have hg:AN (o++[r]) o.length=some r:=by unfold AN;simp
    rw[hw,zp (show((o++[r]).length:Int)>0 by simp),cT,AT (by simp),obs,hg,obs,Jc];by_cases he:r.1=a
    ·rw[show(r.1==a)=true by simp[he],cT,obs,hg,obs,obs,hg,obs,zr he,Ae (by simp at i1;omega) (by simp at i1;omega),lL]
    ·rw[show(r.1==a)=false from beq_eq_false_iff_ne.2 he,cF,zw he,Bu (by simp[Aa]at i1⊢;omega) (by simp[Aa]at i1⊢;omega),obs])
  (by
   rintro b _;show Ed b row (row.length:Int) (row.length:Int)=_;unfold Ed;rw[zq];rfl) [] ⟨by simp,by simp⟩
 unfold JG;have h1':Ad (fun(s:(List (Int×Int))×List Int×Int×Int)=>Ed s.1 s.2.1 s.2.2.1 s.2.2.2) ([],row,(row.length:Int),(0:Int))=_:=h1;rw[h1',obs];rfl
theorem nz{l:List Rn}{k:Nat}{r:Rn}(h:l[k]? =some r):Ep (l.take (k+1))=Ep (l.take k)++List.replicate r.2.toNat r.1:=by
 rw[ze7,h,Ky]
 congr 1
 simp[Ep]
theorem sj{l:List Rn}(h:∀r∈l,r.2<=100):(Ep l).length<=100*l.length:=by
 induction l with
 |nil=>simp[Ep]
 |cons r l ih=>
  have h1:=ih (fun x hx=>h x (ze4 _ hx));have h2:=h r (by simp);have e:Ep (r::l)=List.replicate r.2.toNat r.1++Ep l:=by unfold Ep;simp
  rw[e,zb5,List.length_replicate,zb7];omega
theorem wZ(n:Nat)(x:Int):List.replicate (n+1) x=List.replicate n x++[x]:=List.replicate_succ'
section
variable {l:List Rn} (hr:∀r∈l,1<=r.2/\r.2<=100) (hl:l.length<=100)
include hr hl
theorem yT:QF l=some (Ep l):=by
 obtain⟨b',h1,h2⟩:=Bw (body:=fun(s:List Int×(List (Int×Int))×Int×Int)=>FN s.1 s.2.1 s.2.2.1 s.2.2.2)
  (st:=fun k (b:List Int)=>(b,l,(l.length:Int),(k:Int))) (fin:=fun b=>b) (I:=fun k b=>b=Ep (l.take k)) l.length
  (by
   rintro k b hk rfl;have he:l[k]? =some l[k]:=za1 hk;generalize l[k]=r at he;have hrr:=hr r (za3 he);have hlen:=sj (l:=l.take k) (fun x hx=>(hr x (List.mem_of_mem_take hx)).2);rw[zd9]at hlen;have inner:Ad (fun(s:List Int×(Int×Int)×(List (Int×Int))×Int×Int×Int×Int)=>EK s.1 s.2.1 s.2.2.1 s.2.2.2.1 s.2.2.2.2.1 s.2.2.2.2.2.1 s.2.2.2.2.2.2) (Ep (l.take k),r,l,(l.length:Int),(k:Int),r.2,(0:Int))=some (Ep (l.take k)++List.replicate r.2.toNat r.1,l,(l.length:Int),(k:Int)):=by
    obtain⟨c,g1,g2⟩:=Bw (body:=fun(s:List Int×(Int×Int)×(List (Int×Int))×Int×Int×Int×Int)=>EK s.1 s.2.1 s.2.2.1 s.2.2.2.1 s.2.2.2.2.1 s.2.2.2.2.2.1 s.2.2.2.2.2.2)
     (st:=fun j (c:List Int)=>(c,r,l,(l.length:Int),(k:Int),r.2,(j:Int))) (fin:=fun c=>(c,l,(l.length:Int),(k:Int))) (I:=fun j c=>c=Ep (l.take k)++List.replicate j r.1) r.2.toNat
     (by
      rintro j c hj rfl;refine⟨_,?_,rfl⟩;show EK _ r l (l.length:Int) (k:Int) r.2 (j:Int)=_;unfold EK;rw[zp (show(j:Int)<r.2 by omega),cT,Bu (by simp[Aa];omega) (by simp[Aa];omega),obs,Aw,wZ,ze6])
     (by
      rintro c rfl;show EK _ r l (l.length:Int) (k:Int) r.2 ((r.2.toNat:Nat):Int)=_;unfold EK;rw[zq (show ¬(((r.2.toNat:Nat):Int)<r.2) by omega)];rfl) 0 (Ep (l.take k)) (by omega) (by simp)
    rw[g2]at g1;exact g1
   refine⟨_,?_,(nz he).symm⟩;show FN (Ep (l.take k)) l (l.length:Int) (k:Int)=_;unfold FN;rw[zp (show(k:Int)<(l.length:Int) by omega),cT,Af,he,obs];have inner':Ad (fun(s:List Int×(Int×Int)×(List (Int×Int))×Int×Int×Int×Int)=>EK s.1 s.2.1 s.2.2.1 s.2.2.2.1 s.2.2.2.2.1 s.2.2.2.2.2.1 s.2.2.2.2.2.2) (Ep (l.take k),(r.1,r.2),l,(l.length:Int),(k:Int),r.2,(0:Int))=_:=inner;rw[inner',obs,Aw])
  (by
   rintro b rfl;show FN _ l (l.length:Int) (l.length:Int)=_;unfold FN;rw[zq];rfl) 0 [] (by omega) (by simp[Ep])
 unfold QF;rw[h2,List.take_length]at h1;have h1':Ad (fun(s:List Int×(List (Int×Int))×Int×Int)=>FN s.1 s.2.1 s.2.2.1 s.2.2.2) ([],l,(l.length:Int),(0:Int))=_:=h1;rw[h1',obs]
end
theorem eA{l:List Rn}(h:Lq l=true):(∀r∈l,1<=r.2/\r.2<=100)/\l.length<=100:=by
 obtain⟨h1,h2⟩:=Qk h;exact⟨fun r hr=>by have:=h1 r hr;omega,h2⟩
def VC(l:List Rn):List Int×Bool:=if Lq l then(Ep l,true)else([],false)
theorem nD{l:List Rn}(hl:l.length<=100000):HO l=some (VC l):=by
 unfold HO VC;rw[ah (by omega),obs];cases h:Lq l with
 |false=>rfl
 |true=>rw[nT,cF,yT (eA h).1 (eA h).2];rfl
def SmR(m:Int)(r:Rn):Prop:=0<=r.1/\r.1<=255/\1<=r.2/\r.2<=m
theorem wT{out:List Rn}{m n:Int}(h:∀r∈out,SmR m r)(hm:0<=m)(h1:0<=n)(h2:n<=255):∀r∈G4 out n,SmR (m+1) r:=by
 have up:∀r∈out,SmR (m+1) r:=fun r hr=>by have:=h r hr;unfold SmR at*;omega
 have one1:SmR (m+1) (n,1):=by unfold SmR;simp only;omega
 intro r hr;unfold G4 at hr;split at hr
 ·rename_i q hq;have hq':=h q (List.mem_of_getLast? hq);split at hr
  ·rcases zb0.1 hr with hr|hr
   ·exact up r (List.dropLast_subset _ hr)
   ·rw[zd0.1 hr];unfold SmR at*;simp only;omega
  ·rcases zb0.1 hr with hr|hr
   ·exact up r hr
   ·rw[zd0.1 hr];exact one1
 ·rw[zd0.1 hr];exact one1
theorem lr:∀(row:List Int)(out:List Rn)(m:Int),0<=m->(∀r∈out,SmR m r)->(∀x∈row,0<=x/\x<=255)->∀r∈row.foldl G4 out,SmR (m+row.length) r
 |[],out,m,_,h,_=>by simpa using h
 |n::row,out,m,hm,h,hb=>by
  have hn:=hb n (by simp);have:=lr row (G4 out n) (m+1) (by omega) (wT h hm hn.1 hn.2) (fun x hx=>hb x (by simp[hx]));intro r hr;have k:=this r hr;rw[zb7];unfold SmR at*
  omega
theorem zI{row:List Int}(hb:∀x∈row,0<=x/\x<=255)(hl:row.length<=100):∀r∈Er row,0<=r.1/\r.1<=255/\1<=r.2/\r.2<=100:=fun r hr=>by
 have:=lr row [] 0 (by omega) (fun r hr=>absurd hr List.not_mem_nil) hb r hr;unfold SmR at this;omega
def LT(bs:List Int)(W y:Nat):List Int:=List.drop (y*W) (List.take (y*W+((y+1)*W-y*W)) bs)
theorem V9(bs:List Int)(W y:Nat):(LT bs W y).length<=W:=by
 unfold LT;rw[List.length_drop,zd9,Nat.succ_mul];omega
theorem fu{bs:List Int}{W y:Nat}{x:Int}(h:x∈LT bs W y):x∈bs:=List.mem_of_mem_take (List.mem_of_mem_drop h)
def DH(bs:List Int)(W n:Nat):List Str:=(List.range n).map fun y=>Cp (Er (LT bs W y))
theorem ue(bs:List Int)(W k:Nat):DH bs W (k+1)=DH bs W k++[Cp (Er (LT bs W k))]:=by simp[DH,List.range_succ]
theorem NC(bs:List Int)(W n:Nat):(DH bs W n).length=n:=by simp[DH]
section
variable {bs:List Int} {w:Bh} (hw:GX w=true) (hl:bs.length=nW w) (hb:∀x∈bs,0<=x/\x<=255)
include hw hl hb
theorem Wa{k:Nat}(hk:k<w.2.2.2.toNat):Fx (zi zj ((k:Int)*w.2.2.1)) (zi zj ((zi zj ((k:Int)+(1:Int)))*w.2.2.1)) bs.length=some (k*w.2.2.1.toNat,(k+1)*w.2.2.1.toNat)/\(Er (LT bs w.2.2.1.toNat k)).length<=100/\(LT bs w.2.2.1.toNat k).length<=100/\∀r∈Er (LT bs w.2.2.1.toNat k),0<=r.1/\r.1<=255/\1<=r.2/\r.2<=100:=by
 obtain⟨_,_,g3,g4⟩:=Fp.1 hw;obtain⟨W0,hW⟩:∃n:Nat,w.2.2.1=(n:Int):=⟨w.2.2.1.toNat,by omega⟩;have hWn:w.2.2.1.toNat=W0:=by omega
 have a1:k*W0<=8*8:=Nat.mul_le_mul (by omega) (by omega);have a2:(k+1)*W0<=8*8:=Nat.mul_le_mul (by omega) (by omega);have a3:(k+1)*W0<=bs.length:=by
  rw[hl];unfold nW;rw[hWn,Nat.mul_comm W0];exact Nat.mul_le_mul (by omega) (za7 _)
 have a4:k*W0<=(k+1)*W0:=Nat.mul_le_mul (by omega) (za7 _);have e1:(k:Int)*(W0:Int)=((k*W0:Nat):Int):=by rw[zf7]
 have e2:((k+1:Nat):Int)*(W0:Int)=(((k+1)*W0:Nat):Int):=by rw[zf7]
 have hrow:=V9 bs W0 k;rw[hWn,hW,Aw,e1,e2,Ae,Ae];refine⟨fH rfl rfl a4 a3,?_,by omega,zI (fun x hx=>hb x (fu hx)) (by omega)⟩;have:=tz (LT bs W0 k);omega
theorem pk{k:Nat}(hk:k<100):BV 16 1 (DH bs w.2.2.1.toNat k) [Cp (Er (LT bs w.2.2.1.toNat k))]=some (DH bs w.2.2.1.toNat (k+1)):=by
 rw[ue];exact Bu (by simp[Aa,NC];omega) (by simp[Aa,NC];omega)
theorem kB:Ad (fun(s:Bh×List Int×List Str×Int×Int)=>Df s.1 s.2.1 s.2.2.1 s.2.2.2.1 s.2.2.2.2) (w,bs,(List.nil:List Str),w.2.2.2,(0:Int))=some (DH bs w.2.2.1.toNat w.2.2.2.toNat):=by
 obtain⟨_,_,g3,g4⟩:=Fp.1 hw;obtain⟨_,h1,_⟩:=Bw (body:=fun(s:Bh×List Int×List Str×Int×Int)=>Df s.1 s.2.1 s.2.2.1 s.2.2.2.1 s.2.2.2.2) (fun k (_:Unit)=>(w,bs,DH bs w.2.2.1.toNat k,w.2.2.2,(k:Int))) (fun _=>DH bs w.2.2.1.toNat w.2.2.2.toNat) (fun _ _=>True) w.2.2.2.toNat (by
  intro k _ hk _;obtain⟨r1,r2,r3,r4⟩:=Wa hw hl hb hk;refine⟨(),?_,trivial⟩;show Df w bs (DH bs w.2.2.1.toNat k) w.2.2.2 (k:Int)=_;unfold Df;rw[zp,cT,r1,obs];show(La (LT bs w.2.2.1.toNat k)).bind _=_;rw[vO (by omega),obs,am (fun r hr=>by have:=r4 r hr;unfold I64;omega) (by omega),obs,pk hw hl hb (by omega),obs,Aw]) (by
  intro _ _;show Df w bs (DH bs w.2.2.1.toNat w.2.2.2.toNat) w.2.2.2 (w.2.2.2.toNat:Int)=_;unfold Df;rw[zq,cF]) 0 () (by omega) trivial
 exact h1
theorem lH:Ad (fun(s:Bh×List Int×List Str×Int)=>Dh s.1 s.2.1 s.2.2.1 s.2.2.2) (w,bs,(List.nil:List Str),(0:Int))=some (DH bs w.2.2.1.toNat w.2.2.2.toNat):=by
 obtain⟨_,_,g3,g4⟩:=Fp.1 hw;obtain⟨_,h1,_⟩:=Bw (body:=fun(s:Bh×List Int×List Str×Int)=>Dh s.1 s.2.1 s.2.2.1 s.2.2.2) (fun k (_:Unit)=>(w,bs,DH bs w.2.2.1.toNat k,(k:Int))) (fun _=>DH bs w.2.2.1.toNat w.2.2.2.toNat) (fun _ _=>True) w.2.2.2.toNat (by
  intro k _ hk _;obtain⟨r1,r2,r3,r4⟩:=Wa hw hl hb hk;refine⟨(),?_,trivial⟩;show Dh w bs (DH bs w.2.2.1.toNat k) (k:Int)=_;unfold Dh;rw[zp,cT,r1,obs];show(JG (LT bs w.2.2.1.toNat k)).bind _=_;rw[tM (by omega),obs,tN r4 (by omega),obs,pk hw hl hb (by omega),obs,Aw]) (by
  intro _ _;show Dh w bs (DH bs w.2.2.1.toNat w.2.2.2.toNat) (w.2.2.2.toNat:Int)=_;unfold Dh;rw[zq,cF]) 0 () (by omega) trivial
 exact h1
end
def fb(w:Bh):Option (List Rat)->List Str×Bool
 |none=>([],false)
 |some r=>(DH (r.map byQ) w.2.2.1.toNat w.2.2.2.toNat,true)
theorem sZ{s:Str}{w:Bh}:(fb w (HM s w)).1.length<=64:=by
 cases h:HM s w with
 |none=>simp[fb]
 |some r=>
  obtain⟨h1,h2,h3⟩:=Gd h;obtain⟨_,_,g3,g4⟩:=Fp.1 h1;show(DH (r.map byQ) w.2.2.1.toNat w.2.2.2.toNat).length<=64;rw[NC];omega
theorem T4{r:List Rat}:∀x∈r.map byQ,0<=x/\x<=255:=fun x hx=>by
 obtain⟨q,_,rfl⟩:=zd3.1 hx;exact gt q
theorem sy{s:Str}(hs:s.length<=1048576)(w:Bh):Mi s w=some (fb w (HM s w)):=by
 unfold Mi;rw[show BS s (w.1,w.2.1,w.2.2.1,w.2.2.2)=_ from KA hs w,obs];cases h:HM s w with
 |none=>rfl
 |some r=>
  obtain⟨h1,h2,h3⟩:=Gd h;have lp:=kB (bs:=r.map byQ) h1 (by rw[zc5];exact h2) T4;rw[show V3 (some r)=(r.map byQ,true)from rfl,nT,cF];rw[show Ad (fun(s:Bh×List Int×List Str×Int×Int)=>Df s.1 s.2.1 s.2.2.1 s.2.2.2.1 s.2.2.2.2) ((w.1,w.2.1,w.2.2.1,w.2.2.2),r.map byQ,(List.nil:List Str),w.2.2.2,(0:Int))=_ from lp,obs];rfl
theorem tD{s:Str}(hs:s.length<=1048576)(w:Bh):Mm s w=some (fb w (HM s w)):=by
 unfold Mm;rw[show EB s (w.1,w.2.1,w.2.2.1,w.2.2.2)=_ from UH hs w,obs];cases h:HM s w with
 |none=>rfl
 |some r=>
  obtain⟨h1,h2,h3⟩:=Gd h;have lp:=lH (bs:=r.map byQ) h1 (by rw[zc5];exact h2) T4;rw[show V3 (some r)=(r.map byQ,true)from rfl,nT,cF];rw[show Ad (fun(s:Bh×List Int×List Str×Int)=>Dh s.1 s.2.1 s.2.2.1 s.2.2.2) ((w.1,w.2.1,w.2.2.1,w.2.2.2),r.map byQ,(List.nil:List Str),(0:Int))=_ from lp,obs];rfl
def SZ(p:Str):Rn:=((J9 (Lib.cut p [120]).2.1).1,(J9 (Lib.cut p [120]).1).1)
def LR(s:Str):List Rn:=if s=[]then []else(Aj 44 s).map SZ
def UC(s:Str):List Rn×Bool:=if Lq (LR s)=true/\Cp (LR s)=s then(LR s,true)else([],false)
theorem dN(u:Nat)(h:u<=9999):(J9 (Lib.decDigits u)).1=(u:Int):=by
 have:=dP (v:=(u:Int)) (by omega) (by omega);rw[JU,zc2]at this;unfold J9;rw[this]
theorem dO(s:Str):I64 (J9 s).1:=by
 unfold I64 J9;split
 ·have:=Lib.atoiAll_bounds (by assumption);exact this
 ·unfold Lib.atoiSat;split<;>simp
 ·simp
theorem ni{u:Nat}{c:UInt8}(h:D7 c=false):c ∉ Lib.decDigits u:=fun hm=>by rw[(Gu u).1.1 c hm]at h;cases h
theorem Am6:D7 44=false:=by decide
theorem Am5:D7 120=false:=by decide
theorem bc{r:Rn}(h:0<=r.1/\r.1<=255/\1<=r.2/\r.2<=100):DL r=Lib.decDigits r.2.toNat++120::Lib.decDigits r.1.toNat:=by
 unfold DL;rw[JU,JU]
theorem tx{r:Rn}(h:0<=r.1/\r.1<=255/\1<=r.2/\r.2<=100):(44:UInt8) ∉ DL r:=by
 rw[bc h];intro hm;rcases zb0.1 hm with hm|hm
 ·exact ni Am6 hm
 ·rcases zc1.1 hm with hm|hm
  ·cases hm
  ·exact ni Am6 hm
theorem oq{r:Rn}(h:0<=r.1/\r.1<=255/\1<=r.2/\r.2<=100):SZ (DL r)=r:=by
 unfold SZ;rw[bc h,jV (ni Am5)];simp only;rw[dN _ (by omega),dN _ (by omega)];obtain⟨a,b⟩:=r;simp only at h⊢
 congr 1<;>omega
theorem tv(r:Rn):DL r≠[]:=by unfold DL;simp
theorem oA{l:List Rn}(h:l≠[]):Cp l≠[]:=by
 cases l with
 |nil=>exact absurd rfl h
 |cons r l=>
  unfold Cp;rw[zb9,Lib.join_cons];intro hh;exact tv r (List.append_eq_nil_iff.1 hh).1
theorem ot{l:List Rn}(h:∀r∈l,0<=r.1/\r.1<=255/\1<=r.2/\r.2<=100):LR (Cp l)=l:=by
 by_cases h0:l=[]
 ·subst h0;rfl
 ·unfold LR;rw[zw (oA h0)];unfold Cp;rw[SX _ (by simpa using h0) (fun x hx=>by
   obtain⟨r,hr,rfl⟩:=zd3.1 hx;exact tx (h r hr)),List.map_map]
  conv=>rhs;rw[<-List.map_id l]
  exact List.map_congr_left fun r hr=>oq (h r hr)
theorem nG{s:Str}(hs:s.length<=1048576):HU s=some (UC s):=by
 unfold HU;by_cases h0:s=[]
 ·subst h0;rw[show(([]:Str)==[])=true from rfl,cT];rfl
 ·rw[beq_eq_false_iff_ne.2 h0,cF];unfold E9;rw[lT (by omega),obs];by_cases hn:100<(Aj 44 s).length
  ·rw[zp,cT];unfold UC;rw[zw];rintro⟨h1,_⟩;have:=(Qk h1).2;unfold LR at this;rw[zw h0,zc5]at this;omega
  ·rw[zq,cF];obtain⟨_,h1,_⟩:=Bw (body:=fun(t:List Rn×List Str×Str×Int×Int)=>FH t.1 t.2.1 t.2.2.1 t.2.2.2.1 t.2.2.2.2)
    (fun k (_:Unit)=>(((Aj 44 s).take k).map SZ,Aj 44 s,s,((Aj 44 s).length:Int),(k:Int))) (fun _=>((Aj 44 s).map SZ,s)) (fun _ _=>True) (Aj 44 s).length (by
     intro k _ hk _;have he:(Aj 44 s)[k]? =some (Aj 44 s)[k]:=za1 hk;generalize (Aj 44 s)[k]=p at he;have hp:=V4 s.length s (za7 _) p (za3 he);have hc:(Lib.cut p [120]).1.length<=p.length/\(Lib.cut p [120]).2.1.length<=p.length:=by
      rcases gz 120 p with h|⟨x,r,rfl,h⟩
      ·rw[uZ h];simp
      ·rw[jV h];simp;omega
     refine⟨(),?_,trivial⟩;unfold FH;simp only;unfold MG iS EC U4;rw[zp,cT,AT hk,obs,show AN (Aj 44 s) k=some p from he,obs,zr (by omega),obs,zr (by omega),obs,zr (by omega),obs,Bu (by simp[Aa];omega) (by simp[Aa];omega),obs,Aw,ze7,he];simp[SZ]) (by
     intro _ _;unfold FH;simp) 0 () (by omega) trivial
   have h1':Ad (fun(t:List Rn×List Str×Str×Int×Int)=>FH t.1 t.2.1 t.2.2.1 t.2.2.2.1 t.2.2.2.2) (([]:List Rn),Aj 44 s,s,((Aj 44 s).length:Int),(0:Int))=_:=h1;rw[h1',obs];have er:(Aj 44 s).map SZ=LR s:=by unfold LR;rw[zw h0]
   have hlen:(LR s).length<=100:=by rw[<-er,zc5];omega
   simp only[er];rw[ah (by omega),obs];unfold UC;cases hg:Lq (LR s)with
   |false=>rw[nF,cT,zw (fun h=>by cases h.1)]
   |true=>
    rw[nT,cF,am (fun r hr=>by
     rw[<-er]at hr;obtain⟨p,_,rfl⟩:=zd3.1 hr;exact⟨dO _,dO _⟩) (by omega),obs]
    by_cases ht:Cp (LR s)=s
    ·rw[zr ⟨rfl,ht⟩,ht,beq_self_eq_true,nT,cF]
    ·rw[zw (fun h=>ht h.2),beq_eq_false_iff_ne.2 ht,nF,cT]
theorem t7(l:List Int):(BK l).length=l.length:=by unfold BK;simp
theorem tX{B':Nat}{c:List Int×Int×Int}(h:Cur B' c)(hB:B'<=90000000)(t w:Str)(ht:t.length<=100000)(hw:1<=w.length)(hw2:w.length<=1000):∃c' r,Dr c t w=some (c',r)/\Cur (B'+100) c'/\r.length<=t.length+3:=by
 unfold Dr;obtain⟨c0,v0,e0,q0,a0,b0⟩:=Bi h (by omega) 3;have b0:=b0 (by omega);obtain⟨r,e1,q1,n1⟩:=GY (f:=fun(s:(List Int×Int×Int)×List UInt8×List UInt8×Int)=>ET s.1 s.2.1 s.2.2.1 s.2.2.2) (I:=fun s=>s.2.2.1=w/\0<=s.2.2.2/\s.2.2.2<=3/\Cur (B'+50-6*s.2.2.2.toNat) s.1/\s.2.1.length+s.2.2.2.toNat<=t.length+3)
  (R:=fun s=>Cur (B'+100) s.1/\s.2.length<=t.length+3) (fun s=>s.2.2.2.toNat)
  (by
   rintro⟨c,s,w',n⟩ ⟨i1,i2,i3,i4,i5⟩;simp only at i1 i2 i3 i4 i5;subst i1;simp only;unfold ET;by_cases hn:0<n
   ·rw[zp (show n>0 from hn),cT];by_cases hs:0<s.length
    ·rw[zp (show((s.length:Nat):Int)>0 by omega),cT];obtain⟨c1,v1,e1,q1,a1,b1⟩:=Bi i4 (by omega) (s.length:Int);obtain⟨c2,v2,e2,q2,a2,b2⟩:=Bi q1 (by omega) (w'.length:Int);obtain⟨c3,v3,e3,q3,a3,b3⟩:=Bi q2 (by omega) 3;have b1:=b1 (by omega);have b2:=b2 (by omega);have b3:=b3 (by omega);obtain⟨x,hx,_⟩:=Yt a2 b2;have s1:Fx (0:Int) v1 s.length=some (0,v1.toNat):=by unfold Fx;rw[zr (by omega)];rfl
     have s2:Fx v1 (s.length:Int) s.length=some (v1.toNat,s.length):=by unfold Fx;rw[zr (by omega)];rfl
     have s3:Fx (v1+1) (s.length:Int) s.length=some ((v1+1).toNat,s.length):=by unfold Fx;rw[zr (by omega)];rfl
     simp only[AR,e1,e2,e3,hx,obs,s1,s2,Ae (n:=v1+1) (by omega) (by omega),s3,Ae (n:=n-1) (by omega) (by omega)];have len1:(BK [((UInt8.toNat x:Nat):Int)]).length=1:=by rw[t7];rfl
     have fin:∀(y:Str),y.length<=s.length+1->(∃s',(some (zy (c3,y,w',n-1)):Option (((List Int×Int×Int)×Str×Str×Int)⊕((List Int×Int×Int)×Str)))=some (zy s')/\(s'.2.2.1=w'/\0<=s'.2.2.2/\s'.2.2.2<=3/\Cur (B'+50-6*s'.2.2.2.toNat) s'.1/\s'.2.1.length+s'.2.2.2.toNat<=t.length+3)/\s'.2.2.2.toNat<n.toNat):=by
      intro y hy;exact⟨_,rfl,⟨rfl,by simp only;omega,by simp only;omega,q3.mono (by simp only;omega),by simp only;omega⟩,by simp only;omega⟩
     by_cases h0:v3=0
     ·rw[show(v3==0)=true by simp[h0],cT,AK (by simp[len1];omega),obs,AK (by simp[len1];omega),obs];exact .inl (fin _ (by simp[len1];omega))
     ·rw[show(v3==0)=false from beq_eq_false_iff_ne.2 h0,cF];by_cases h1:v3=1
      ·rw[show(v3==1)=true by simp[h1],cT,AK (by simp[len1];omega),obs,AK (by simp[len1];omega),obs];exact .inl (fin _ (by simp[len1];omega))
      ·rw[show(v3==1)=false from beq_eq_false_iff_ne.2 h1,cF,AK (by simp;omega),obs];exact .inl (fin _ (by simp;omega))
    ·rw[zq (show ¬((s.length:Nat):Int)>0 by omega),cF];exact .inr ⟨_,rfl,i4.mono (by omega),by simp only;omega⟩
   ·rw[zq (show ¬n>0 by omega),cF];exact .inr ⟨_,rfl,i4.mono (by omega),by simp only;omega⟩) (c0,t,w,v0) ⟨rfl,by simp only;omega,by simp only;omega,q0.mono (by simp only;omega),by simp only;omega⟩
 simp only[e0,obs,AR];have e1':Ad (fun(s:(List Int×Int×Int)×List UInt8×List UInt8×Int)=>ET s.1 s.2.1 s.2.2.1 s.2.2.2) (c0,t,w,v0)=some r:=e1;rw[e1',obs];exact⟨r.1,r.2,by rw[AR],q1,n1⟩
abbrev CuP:=List Int×Int×Int
theorem Aa2{B':Nat}{c:CuP}(h:Cur B' c)(hB:B'<=90000000):∃c' l,Ic c=some (c',l)/\Cur (B'+10000) c'/\l.length<=10/\∀w∈l,w.length<=13:=by
 unfold Ic;obtain⟨c0,v0,e0,q0,a0,b0⟩:=Bi h (by omega) 2;obtain⟨c1,v1,e1,q1⟩:=OL q0 (by omega) 20;have b0:=b0 (by omega);simp only[AR];rw[e0,obs,e1,obs];have loop:∀(n:Nat)(B1:Nat)(c:CuP)(l:A3),Cur B1 c->B1+500*n<=100000000->l.length+n<=10->(∀w∈l,w.length<=13)->
   ∃c' l',Ad (fun(s:CuP×A3×Int)=>B7 s.1 s.2.1 s.2.2) (c,l,(n:Int))=some (c',l')/\Cur (B1+500*n) c'/\l'.length<=10/\∀w∈l',w.length<=13:=by
  intro n
  induction n with
  |zero=>
   intro B1 c l hc _ hl hw;refine⟨c,l,Ak ?_,hc.mono (by omega),by omega,hw⟩;show B7 c l ((0:Nat):Int)=_;unfold B7;rfl
  |succ n ih=>
   intro B1 c l hc hB1 hl hw;obtain⟨c1,w,e1,q1,g1⟩:=Ak8 hc (by omega);obtain⟨c',l',i1,i2,i3,i4⟩:=ih (B1+500) c1 (l++[w]) q1 (by omega) (by simp;omega) (by
    intro x hx;rcases zb0.1 hx with hx|hx
    ·exact hw x hx
    ·rw[zd0.1 hx];exact g1.hi)
   refine⟨c',l',?_,i2.mono (by omega),i3,i4⟩;have hgo:B7 c l ((n+1:Nat):Int)=some (.inl (c1,l++[w],(n:Int))):=by
    unfold B7;rw[zp];simp only[cT,AR];rw[e1,obs,Bu (by simp[Aa];omega) (by simp[Aa];omega),obs,Ae,show((n+1:Nat):Int)-1=(n:Int) by omega]
   exact(AP (f:=fun(s:CuP×A3×Int)=>B7 s.1 s.2.1 s.2.2) (s:=(c,l,((n+1:Nat):Int))) hgo).trans i1
 have fin:∀(c3:CuP)(v:Int),Cur (B'+100) c3->0<=v->v<=8->∃c' l,((Ad (fun(s:CuP×A3×Int)=>B7 s.1 s.2.1 s.2.2) (c3,([]:A3),v)).bind fun x6=>some x6)=some (c',l)/\Cur (B'+10000) c'/\l.length<=10/\∀w∈l,w.length<=13:=by
  intro c3 v q3 hv0 hv1;obtain⟨n,rfl⟩:∃n:Nat,v=(n:Int):=⟨v.toNat,by omega⟩;obtain⟨c',l,h1,h2,h3,h4⟩:=loop n (B'+100) c3 [] q3 (by omega) (by simp;omega) (by simp);rw[h1,obs];exact⟨c',l,rfl,h2.mono (by omega),h3,h4⟩
 cases v1 with
 |true=>
  obtain⟨c2,v2,e2,q2,a2,b2⟩:=Bi q1 (by omega) 6;have b2:=b2 (by omega);simp only[cT];rw[e2,obs,obs,sEr];exact fin c2 v2 (q2.mono (by omega)) (by omega) (by omega)
 |false=>
  simp only[cF];rw[obs,sEr,Ae];exact fin c1 (1+v0) (q1.mono (by omega)) (by omega) (by omega)
theorem Ab6{B':Nat}{c:CuP}(h:Cur B' c)(hB:B'<=800000000)(l:List Str)(h1:1<=l.length)(h2:l.length<1000000):∃c' v,Gp c l=some (c',v)/\Cur (B'+2) c'/\v∈l:=by
 unfold Gp;obtain⟨c1,v1,e1,q1,b1,b2⟩:=Bi h (by omega) (l.length:Int);have:=b2 (by omega);obtain⟨a,ha,hm⟩:=Yt b1 this;simp only[AR];rw[e1,obs];simp only;rw[ha,obs];exact⟨c1,a,rfl,q1,za3 hm⟩
theorem lN{v:Str}{l:List Str}{n:Nat}(hl:l.all (fun x=>decide (x.length<=n))=true)(h:v∈l):v.length<=n:=of_decide_eq_true (za5.1 hl v h)
theorem fe:∀(n:Nat)(B':Nat)(c:CuP)(t:Str),Cur B' c->B'+2*n<=100000000->t.length+7*n<=100000->∃c' t',Ad (fun(s:CuP×Str×Int)=>B6 s.1 s.2.1 s.2.2) (c,t,(n:Int))=some (c',t')/\Cur (B'+2*n) c'/\t'.length<=t.length+7*n
 |0,B',c,t,hc,_,_=>by
  refine⟨c,t,Ak ?_,hc.mono (by omega),by omega⟩;show B6 c t ((0:Nat):Int)=_;unfold B6;rfl
 |n+1,B',c,t,hc,hB,ht=>by
  obtain⟨c1,v,e1,q1,hv⟩:=Ab6 hc (by omega) [[32,76,32,52,32,49],[32,108,32,50,32,51],[32,108,32,45,49,32,50],[32,72,32,53],[32,104,32,45,50],[32,86,32,51],[32,118,32,50],[32,76,32,48,32,48],[32,104,32,49]] (by simp) (by simp);have hv7:v.length<=7:=lN (by decide) hv;obtain⟨c',t',h1,h2,h3⟩:=fe n (B'+2) c1 (t++v) q1 (by omega) (by rw[zb5];omega);refine⟨c',t',?_,h2.mono (by omega),by rw[zb5]at h3;omega⟩;have hgo:B6 c t ((n+1:Nat):Int)=some (.inl (c1,t++v,(n:Int))):=by
   unfold B6;rw[zp];simp only[cT,AR];rw[e1,obs];simp only;rw[AK (by omega),obs,Ae,show((n+1:Nat):Int)-1=(n:Int) by omega]
  exact(AP (f:=fun(s:CuP×Str×Int)=>B6 s.1 s.2.1 s.2.2) (s:=(c,t,((n+1:Nat):Int))) hgo).trans h1
theorem om(l:A3):(LP l).1.length<=400:=by
 unfold LP;split
 ·split
  ·assumption
  ·simp
 ·simp
theorem Aj7{l:A3}(h1:l.length<=1000)(h2:∀w∈l,w.length<=1000):ED l/\∀w∈l,ED w:=⟨by unfold ED;omega,fun w hw=>by have:=h2 w hw;unfold ED;omega⟩
theorem ze{B':Nat}{c:CuP}(h:Cur B' c)(hB:B'<=10000000):∃c' t,FZ c=some (c',t)/\Cur (B'+30000) c'/\t.length<=1000:=by
 unfold FZ;obtain⟨c0,v0,e0,q0⟩:=OL h (by omega) 3;simp only[AR];rw[e0,obs];have main:∀c1:CuP,Cur (B'+20000) c1->∃c' t,(((Ai c1 (5:Int))).bind fun x6=>
  ((EV x6.2)).bind fun x7=>
  ((Ds (List.cons 77 (List.cons 32 (List.nil:List UInt8))) x7)).bind fun x8=>
  ((Ds x8 (List.cons 32 (List.nil:List UInt8)))).bind fun x9=>
  ((Ai x6.1 (5:Int))).bind fun x10=>
  ((EV x10.2)).bind fun x11=>
  ((Ds x9 x11)).bind fun x12=>
  ((Ai x10.1 (4:Int))).bind fun x13=>
  (Ad (fun(s:(List Int×Int×Int)×List UInt8×Int)=>B6 s.1 s.2.1 s.2.2) (x13.1,x12,(zi zj ((2:Int)+x13.2)))).bind fun x14=>
  ((Ds x14.2 (List.cons 32 (List.cons 90 (List.nil:List UInt8))))).bind fun x15=>
  (((AU x14.1 (4:Int))).bind fun x16=>
   bif x16.2 then
    ((Ds x15 (List.cons 32 (List.cons 77 (List.cons 32 (List.cons 48 (List.cons 32 (List.cons 48 (List.cons 32 (List.cons 72 (List.cons 32 (List.cons 51 (List.cons 32 (List.cons 118 (List.cons 32 (List.cons 50 (List.cons 32 (List.cons 90 (List.nil:List UInt8))))))))))))))))))).bind fun x17=>
    some (zb (x16.1,x17))
   else
   some (zb (x16.1,x15))).bind fun x18=>
  Sum.elim
   (fun(x19:CuP×Str)=>
   some x19)
   (fun x20=>
   (((AU x20.1 (8:Int))).bind fun x21=>
    bif x21.2 then
     ((Dr x21.1 x20.2 (List.cons 77 (List.cons 76 (List.cons 90 (List.cons 32 (List.cons 48 (List.cons 45 (List.cons 57 (List.nil:List UInt8)))))))))).bind fun x22=>
     some (zb x22)
    else
    some (zb (x21.1,x20.2))).bind fun x23=>
   Sum.elim
    (fun(x24:CuP×Str)=>
    some x24)
    (fun x25=>
    ((AU x25.1 (12:Int))).bind fun x26=>
    bif x26.2 then
     ((Gp x26.1 (List.cons (List.cons 32 (List.cons 77 (List.cons 32 (List.cons 49 (List.cons 32 (List.cons 49 (List.nil:List UInt8))))))) (List.cons (List.cons 32 (List.cons 76 (List.cons 32 (List.cons 49 (List.cons 32 (List.cons 49 (List.nil:List UInt8))))))) (List.cons (List.cons 32 (List.cons 81 (List.nil:List UInt8))) (List.cons (List.cons 32 (List.cons 77 (List.cons 32 (List.cons 49 (List.nil:List UInt8))))) (List.cons (List.cons 32 (List.cons 77 (List.cons 32 (List.cons 57 (List.cons 57 (List.cons 57 (List.cons 57 (List.cons 32 (List.cons 48 (List.nil:List UInt8)))))))))) (List.cons (List.nil:List UInt8) (List.nil:List (List UInt8)))))))))).bind fun x27=>
     ((Ds x25.2 x27.2)).bind fun x28=>
     some (x27.1,x28)
    else
    some (x26.1,x25.2))
    x23)
   x18)=some (c',t)/\Cur (B'+30000) c'/\t.length<=1000:=by
  intro c1 q1;obtain⟨c2,v2,e2,q2,a2,b2⟩:=Bi q1 (by omega) 5;obtain⟨c3,v3,e3,q3,a3,b3⟩:=Bi q2 (by omega) 5;obtain⟨c4,v4,e4,q4,a4,b4⟩:=Bi q3 (by omega) 4;have b2:=b2 (by omega);have b3:=b3 (by omega);have b4:=b4 (by omega);have n2:=BJ (n:=v2);have n3:=BJ (n:=v3);obtain⟨k,hk⟩:∃k:Nat,2+v4=(k:Int):=⟨(2+v4).toNat,by omega⟩;obtain⟨c5,t5,e5,q5,l5⟩:=fe k (B'+20006) c4 ((([77,32]++Lib.itoa v2)++[32])++Lib.itoa v3) (q4.mono (by omega)) (by omega) (by simp;omega);have hl0:(([77,32]++Lib.itoa v2++[32])++Lib.itoa v3:Str).length<=45:=by simp;omega
  rw[e2,obs];simp only;rw[Ny,obs,AK (by simp;omega),obs,AK (by simp;omega),obs,e3,obs];simp only;rw[Ny,obs,AK (by simp;omega),obs,e4,obs];simp only;rw[Ae,hk];rw[e5,obs];simp only;rw[AK (by simp;omega),obs];obtain⟨c6,v6,e6,q6⟩:=OL q5 (by omega) 4;have st6:∃t6:Str,(((AU c5 (4:Int))).bind fun x16=>
   bif x16.2 then
    ((Ds (t5++[32,90]) (List.cons 32 (List.cons 77 (List.cons 32 (List.cons 48 (List.cons 32 (List.cons 48 (List.cons 32 (List.cons 72 (List.cons 32 (List.cons 51 (List.cons 32 (List.cons 118 (List.cons 32 (List.cons 50 (List.cons 32 (List.cons 90 (List.nil:List UInt8))))))))))))))))))).bind fun x17=>
    some (zb (x16.1,x17))
   else
   some (zb (x16.1,(t5++[32,90]))))=(some (zb (c6,t6)):Option ((CuP×Str)⊕(CuP×Str)))/\t6.length<=200:=by
   rw[e6,obs];cases v6 with
   |true=>exact⟨_,by simp only[cT];rw[AK (by simp;omega),obs],by simp;omega⟩
   |false=>exact⟨_,by simp only[cF];rfl,by simp;omega⟩
  obtain⟨t6,e6',l6⟩:=st6;rw[e6',obs,sEr];simp only;obtain⟨c7,v7,e7,q7⟩:=OL q6 (by omega) 8;have st7:∃(c8:CuP)(t8:Str),(((AU c6 (8:Int))).bind fun x21=>
    bif x21.2 then
     ((Dr x21.1 t6 (List.cons 77 (List.cons 76 (List.cons 90 (List.cons 32 (List.cons 48 (List.cons 45 (List.cons 57 (List.nil:List UInt8)))))))))).bind fun x22=>
     some (zb x22)
    else
    some (zb (x21.1,t6)))=(some (zb (c8,t8)):Option ((CuP×Str)⊕(CuP×Str)))/\Cur (B'+20400) c8/\t8.length<=300:=by
   rw[e7,obs];cases v7 with
   |true=>
    obtain⟨c8,t8,e8,q8,l8⟩:=tX q7 (by omega) t6 [77,76,90,32,48,45,57] (by omega) (by simp) (by simp);exact⟨c8,t8,by simp only[cT];rw[e8,obs],q8.mono (by omega),by omega⟩
   |false=>exact⟨c7,t6,by simp only[cF],q7.mono (by omega),by omega⟩
  obtain⟨c8,t8,e8,q8,l8⟩:=st7;rw[e8,obs,sEr];simp only;obtain⟨c9,v9,e9,q9⟩:=OL q8 (by omega) 12;rw[e9,obs];cases v9 with
  |true=>
   obtain⟨c10,v10,e10,q10,hm⟩:=Ab6 q9 (by omega) [[32,77,32,49,32,49],[32,76,32,49,32,49],[32,81],[32,77,32,49],[32,77,32,57,57,57,57,32,48],[]] (by simp) (by simp);have:=lN (n:=9) (by decide) hm;simp only[cT];rw[e10,obs];simp only;rw[AK (by omega),obs];exact⟨c10,_,rfl,q10.mono (by omega),by simp;omega⟩
  |false=>exact⟨c9,t8,by simp only[cF],q9.mono (by omega),by omega⟩
 cases v0 with
 |true=>
  obtain⟨c1,l,e1,q1,l1,w1⟩:=Aa2 q0 (by omega);obtain⟨sh1,sh2⟩:=Aj7 (l:=l) (by omega) (fun w hw=>by have:=w1 w hw;omega);simp only[cT];rw[e1,obs];simp only;rw[lC sh1 sh2,obs];cases hp:(LP l).2 with
  |true=>
   have:=om l;rw[cT,obs,sEl];exact⟨c1,_,rfl,q1.mono (by omega),by omega⟩
  |false=>
   rw[cF,obs,sEr];exact main c1 (q1.mono (by omega))
 |false=>
  simp only[cF];rw[obs,sEr];exact main c0 (q0.mono (by omega))
def trQ(d p:Q2):Q2:=(p.1+d.1,p.2+d.2)
theorem ne(b:Bool)(d p:Q2):crd b (trQ d p)=crd b p+crd b d:=by cases b<;>rfl
theorem vV(b high:Bool)(s:Rat)(d p:Q2):ins b high (s+crd b d) (trQ d p)=ins b high s p:=by
 unfold ins;rw[ne];generalize crd b d=e;generalize crd b p=x;cases high
 ·exact decide_eq_decide.2 (by constructor<;>intro h<;>grind)
 ·exact decide_eq_decide.2 (by constructor<;>intro h<;>grind)
theorem Ah8(d a c:Q2)(t:Rat):VX (trQ d a) (trQ d c) t=trQ d (VX a c t):=by
 unfold VX trQ;refine Prod.ext ?_ ?_
 ·simp only;grind
 ·simp only;grind
theorem Af8(b:Bool)(s:Rat)(d a c:Q2):ZU b (s+crd b d) (trQ d a) (trQ d c)=trQ d (ZU b s a c):=by
 unfold ZU;rw[ne,ne,Ah8];have e1:s+crd b d-(crd b a+crd b d)=s-crd b a:=by grind
 have e2:crd b c+crd b d-(crd b a+crd b d)=crd b c-crd b a:=by grind
 rw[e1,e2]
theorem zW(b high:Bool)(s:Rat)(d a c:Q2):LV b high (s+crd b d) (trQ d a) (trQ d c)=(LV b high s a c).map (trQ d):=by
 unfold LV;rw[vV,vV,Af8];split<;>split<;>simp
theorem pC(b high:Bool)(s:Rat)(d:Q2):∀(l:List Q2)(a:Q2),Cn b high (s+crd b d) (trQ d a) (l.map (trQ d))=(Cn b high s a l).map (trQ d)
 |[],a=>rfl
 |c::l,a=>by
  show LV b high (s+crd b d) (trQ d a) (trQ d c)++Cn b high (s+crd b d) (trQ d c) (l.map (trQ d))=(LV b high s a c++Cn b high s c l).map (trQ d);rw[zW,pC b high s d l c,List.map_append]
theorem pP(d:Q2){l:List Q2}(h:l≠[]):Iz (l.map (trQ d))=trQ d (Iz l):=by
 unfold Iz;rw[List.getLast?_map];cases hl:l.getLast? with
 |none=>exact absurd (List.getLast?_eq_none_iff.1 hl) h
 |some x=>rfl
theorem Yo(b high:Bool)(s:Rat)(d:Q2)(l:List Q2):Fy b high (s+crd b d) (l.map (trQ d))=(Fy b high s l).map (trQ d):=by
 by_cases h:l=[]
 ·subst h;rfl
 ·unfold Fy;rw[pP d h,pC]
theorem Af0(lo hi d:Q2)(l:List Q2):Pe (trQ d lo) (trQ d hi) (l.map (trQ d))=(Pe lo hi l).map (trQ d):=by
 unfold Pe;have h1:(trQ d lo).1=lo.1+crd false d:=rfl;have h2:(trQ d hi).1=hi.1+crd false d:=rfl;have h3:(trQ d lo).2=lo.2+crd true d:=rfl;have h4:(trQ d hi).2=hi.2+crd true d:=rfl;rw[h1,h2,h3,h4,Yo,Yo,Yo,Yo]
def psi(d p:Q2):Rat:=d.1*p.2-d.2*p.1
theorem Af6(d p q:Q2):crs (trQ d p) (trQ d q)=crs p q+(psi d q-psi d p):=by
 unfold crs trQ psi;simp only;grind
theorem uR(d:Q2):∀(l:List Q2)(a:Q2),chn crs (trQ d a) (l.map (trQ d))=chn crs a l+(psi d (l.getLast?.getD a)-psi d a)
 |[],a=>by
  show(0:Rat)=0+(psi d a-psi d a);grind
 |c::l,a=>by
  show crs (trQ d a) (trQ d c)+chn crs (trQ d c) (l.map (trQ d))=crs a c+chn crs c l+_;rw[uR d l c,Af6];have:(c::l).getLast?.getD a=l.getLast?.getD c:=by
   cases l with
   |nil=>rfl
   |cons x l=>rw[List.getLast?_cons_cons];simp[List.getLast?_cons]
  rw[this];grind
theorem yq(d:Q2)(l:List Q2):J8 (l.map (trQ d))=J8 l:=by
 by_cases h:l=[]
 ·subst h;rfl
 ·unfold J8;rw[pP d h,uR];have:l.getLast?.getD (Iz l)=Iz l:=by
   unfold Iz;cases hl:l.getLast? with
   |none=>exact absurd (List.getLast?_eq_none_iff.1 hl) h
   |some x=>rfl
  rw[this];grind
def dQ(d:P2):Q2:=((d.1:Rat),(d.2:Rat))
theorem Vs(d:P2)(x y:Int):D5 (x+d.1) (y+d.2)=trQ (dQ d) (D5 x y):=by
 unfold D5 trQ dQ;rw[Rat.intCast_add,Rat.intCast_add]
theorem Ai8(d:P2)(x:List P2):(mvW d x).map ptQ=(x.map ptQ).map (trQ (dQ d)):=by
 unfold mvW;rw[List.map_map,List.map_map];apply List.map_congr_left;intro p _;simp only[Function.comp_apply];exact Vs d p.1 p.2
theorem Ak1(d:P2)(ps:List Q2)(x y:Int):sqA (ps.map (trQ (dQ d))) (x+d.1) (y+d.2)=sqA ps x y:=by
 unfold sqA;rw[show x+d.1+1=(x+1)+d.1 by omega,show y+d.2+1=(y+1)+d.2 by omega,Vs,Vs,Af0,yq]
theorem xh(d:P2)(ps:List Q2)(y:Int):∀(n:Nat)(x:Int),UE (ps.map (trQ (dQ d))) (y+d.2) n (x+d.1)=UE ps y n x
 |0,x=>rfl
 |n+1,x=>by
  show sqA _ (x+d.1) (y+d.2)::UE _ (y+d.2) n (x+d.1+1)=sqA ps x y::UE ps y n (x+1);rw[Ak1,show x+d.1+1=(x+1)+d.1 by omega,xh d ps y n (x+1)]
theorem yi(d:P2)(ps:List Q2)(w:Nat)(x:Int):∀(n:Nat)(y:Int),S5 (ps.map (trQ (dQ d))) w (x+d.1) n (y+d.2)=S5 ps w x n y
 |0,y=>rfl
 |n+1,y=>by
  show UE _ (y+d.2) w (x+d.1)++S5 _ w (x+d.1) n (y+d.2+1)=UE ps y w x++S5 ps w x n (y+1);rw[xh,show y+d.2+1=(y+1)+d.2 by omega,yi d ps w x n (y+1)]
def Qq(w:Bh)(d:P2):Bh:=(w.1+d.1,w.2.1+d.2,w.2.2.1,w.2.2.2)
theorem Aj6{w:Bh}{d:P2}{x:List P2}{q q':List Rat}(h:shW w x=some q)(h':shW (Qq w d) (mvW d x)=some q'):q'=q:=by
 unfold shW at h h';split at h
 ·split at h'
  ·have h:=zv h;have h':=zv h';rw[<-h,<-h',Ai8];show(S5 _ w.2.2.1.toNat (w.1+d.1) w.2.2.2.toNat (w.2.1+d.2)).map _=_;rw[yi]
  ·cases h'
 ·cases h
theorem p9{w:Bh}{d:P2}:∀(l:A3)(acc r r':List Rat),aV w l acc=some r->aV (Qq w d) (l.map (mvW d)) acc=some r'->r'=r
 |[],acc,r,r',h,h'=>by
  have h:some acc=some r:=h;have h':some acc=some r':=h';rw[<-zv h,<-zv h']
 |x::l,acc,r,r',h,h'=>by
  rw[zb9]at h';rw[aV]at h h';cases h1:shW w x with
  |none=>rw[h1]at h;cases h
  |some q=>
   cases h2:shW (Qq w d) (mvW d x)with
   |none=>rw[h2]at h';cases h'
   |some q'=>
    have e:=Aj6 h1 h2;subst e;rw[h1,obs]at h;rw[h2,obs]at h';cases h3:JO acc q' with
    |none=>rw[h3]at h;cases h
    |some a=>
     rw[h3,obs]at h h';exact p9 l a r r' h h'
theorem zo{s m:Str}{w:Bh}{d:P2}{l:A3}{r r':List Rat}(hs:GD s=(l,0,0,true))(hm:GD m=(l.map (mvW d),0,0,true))(h:HM s w=some r)(h':HM m (Qq w d)=some r'):r'=r:=by
 unfold HM at h h';rw[hs]at h;rw[hm]at h';split at h
 ·split at h'
  ·have e:nW (Qq w d)=nW w:=rfl;rw[e]at h';exact p9 _ _ _ _ h h'
  ·cases h'
 ·cases h
section
open Go Go.RowKit Go.ChangeShapes Go.WideShapes Go.ChangeAt
theorem T5{l:List Int}(h:WFC (.sl 1 (.int .u8)) l):(∀x∈l,0<=x/\x<=255)/\l.length<=1000000000000000:=by
 have h1:∀x∈l,(Lit.int .u8 x).wf=true:=h.1;have h2:l.length*1<=Aa:=h.2;refine⟨fun x hx=> ?_,by unfold Aa at h2;omega⟩;have:=h1 x hx;simp[Lit.wf,IntKind.min,IntKind.max,IntKind.bits,IntKind.signed]at this;omega
end
theorem o8{B':Nat}{c:List Int×Int×Int}(h:Cur B' c)(hB:B'<=8000000):∃c' w,Gq c=some (c',w)/\Cur (B'+100) c':=by
 unfold Gq;obtain⟨c0,v0,e0,q0,_⟩:=Bi h (by omega) 7;obtain⟨c1,v1,e1,q1,_⟩:=Bi q0 (by omega) 7;obtain⟨c2,v2,e2,q2,_⟩:=Bi q1 (by omega) 4;obtain⟨c3,v3,e3,q3,_⟩:=Bi q2 (by omega) 4;obtain⟨c4,v4,e4,q4⟩:=OL q3 (by omega) 20;simp only[AR];rw[e0,obs,e1,obs,e2,obs,e3,obs,e4,obs];cases v4 with
 |false=>exact⟨c4,_,rfl,q4.mono (by omega)⟩
 |true=>
  obtain⟨c5,v5,e5,q5,_⟩:=ZC q4 (by omega) [-(20:Int),20,21] (by simp) (by simp);obtain⟨c6,v6,e6,q6,_⟩:=Bi q5 (by omega) 3;obtain⟨c7,v7,e7,q7,_⟩:=ZC q6 (by omega) [(0:Int),8,9] (by simp) (by simp);simp only[cT];rw[e5,obs,e6,obs,e7,obs];exact⟨c7,_,rfl,q7.mono (by omega)⟩
theorem rU{a:List Int}(ha:Cur 0 (a,0,0)):∃s w,Hb a=some (s,w)/\s.length<=1000:=by
 obtain⟨c1,w,e1,q1⟩:=o8 ha (by omega);obtain⟨c2,v2,e2,q2⟩:=OL q1 (by omega) 4;obtain⟨c3,s,e3,q3,l3⟩:=ze q2 (by omega);unfold Hb H4;simp only[AR];rw[e1,obs];simp only;rw[e2,obs];cases v2 with
 |false=>rw[cF,e3,obs,obs];exact⟨s,w,rfl,l3⟩
 |true=>rw[cT,e3,obs,obs];exact⟨s,_,rfl,l3⟩
theorem OG{l:List Int}(h:l.length<=1000000):DZ l l=some true:=by
 unfold DZ;rw[bne_self_eq_false,cF];obtain⟨h1,h2⟩:=KR (l:=l) (body:=fun(s:List Int×List Int×Int×Int)=>Dy s.1 s.2.1 s.2.2.1 s.2.2.2)
  (st:=fun k (b:Unit)=>(l,l,(l.length:Int),(k:Int))) (step:=fun b p=>()) (fin:=fun b=>.inl ()) (I:=fun k b=>True)
  (by
   rintro k b p hk _;have hkl:=Dd hk;refine⟨?_,trivial⟩;show Dy l l (l.length:Int) (k:Int)=_;unfold Dy;rw[zp,cT,Af,hk,obs,obs,bne_self_eq_false,cF,Aw])
  (by
   rintro b _;show Dy l l (l.length:Int) (l.length:Int)=_;unfold Dy;rw[zq];rfl) () trivial
 have h1':Ad (fun(s:List Int×List Int×Int×Int)=>Dy s.1 s.2.1 s.2.2.1 s.2.2.2) (l,l,(l.length:Int),(0:Int))=_:=h1;rw[h1'];rfl
theorem tl{s:Str}{w:Bh}{r:List Rat}(h:HM s w=some r):XV w.2.2.1 w.2.2.2 (r.map byQ):=by
 obtain⟨h1,h2,h3⟩:=Gd h;obtain⟨_,_,g3,g4⟩:=Fp.1 h1;have hn:=Uw h1;exact⟨by omega,by omega,by omega,by omega,by rw[zc5,h2];omega,za5.2 fun x hx=>kE.2 (T4 x hx)⟩
theorem sf{s:Str}{w:Bh}{r:List Rat}(h:HM s w=some r):Xw s w=UA w.2.2.1 w.2.2.2 (r.map byQ):=by unfold Xw;rw[h];exact zr rfl
theorem se{s:Str}{w:Bh}(h:HM s w=none):Xw s w=([],false):=by unfold Xw;rw[h];exact zw (by simp[V3])
theorem Xu(w:Bh){l:List Str}(p a:List Int)(s f:Str)(ok:Bool)(hl:l.length<=1000):
  Ad (fun(s:(Int×Int×Int×Int)×(List (List UInt8))×(List (List UInt8))×List Int×List Int×List UInt8×List UInt8×Bool×Int×Int)=>Dg s.1 s.2.1 s.2.2.1 s.2.2.2.1 s.2.2.2.2.1 s.2.2.2.2.2.1 s.2.2.2.2.2.2.1 s.2.2.2.2.2.2.2.1 s.2.2.2.2.2.2.2.2.1 s.2.2.2.2.2.2.2.2.2) (w,l,l,p,a,s,f,ok,(l.length:Int),(0:Int))=some (.inl (w,l,p,a,s,f,ok)):=by
 obtain⟨_,h1,_⟩:=Bw (body:=fun(s:(Int×Int×Int×Int)×(List (List UInt8))×(List (List UInt8))×List Int×List Int×List UInt8×List UInt8×Bool×Int×Int)=>Dg s.1 s.2.1 s.2.2.1 s.2.2.2.1 s.2.2.2.2.1 s.2.2.2.2.2.1 s.2.2.2.2.2.2.1 s.2.2.2.2.2.2.2.1 s.2.2.2.2.2.2.2.2.1 s.2.2.2.2.2.2.2.2.2)
  (fun k (_:Unit)=>(w,l,l,p,a,s,f,ok,(l.length:Int),(k:Int))) (fun _=>.inl (w,l,p,a,s,f,ok)) (fun _ _=>True) l.length (by
  intro k _ hk _;refine⟨(),?_,trivial⟩;show Dg w l l p a s f ok (l.length:Int) (k:Int)=_;unfold Dg;rw[zp,cT,AT hk,obs,show AN l k=some l[k]from za1 hk,obs,obs,show AN l k=some l[k]from za1 hk,obs,beq_self_eq_true,nT,cF,Aw]) (by
  intro _ _;show Dg w l l p a s f ok (l.length:Int) (l.length:Int)=_;unfold Dg;rw[zq,cF]) 0 () (by omega) trivial
 exact h1
theorem xm{row:List Int}(hb:∀x∈row,0<=x/\x<=255)(hl:row.length<=100):HU (Cp (Er row))=some (Er row,true)/\HO (Er row)=some (row,true):=by
 have hg:=nC (XF.2 ⟨hb,hl⟩);obtain⟨g1,g2⟩:=Qk hg;have htl:=X0 g1;have hr:UC (Cp (Er row))=(Er row,true):=by
  unfold UC;rw[ot g1,zr ⟨hg,rfl⟩]
 refine⟨by rw[nG (by omega),hr],?_⟩;rw[nD (by omega)];unfold VC;rw[hg,zr rfl,nA]
section
variable {bs:List Int} {w:Bh} (hw:GX w=true) (hl:bs.length=nW w) (hb:∀x∈bs,0<=x/\x<=255)
include hw hl hb
theorem jT(a:List Int)(s:Str):
  Ad (fun(s:(Int×Int×Int×Int)×List Int×(List (List UInt8))×List Int×List UInt8×Int×Int)=>Ec s.1 s.2.1 s.2.2.1 s.2.2.2.1 s.2.2.2.2.1 s.2.2.2.2.2.1 s.2.2.2.2.2.2) (w,bs,DH bs w.2.2.1.toNat w.2.2.2.toNat,a,s,((DH bs w.2.2.1.toNat w.2.2.2.toNat).length:Int),(0:Int))=some (.inl (w,bs,a,s)):=by
 obtain⟨_,_,g3,g4⟩:=Fp.1 hw;rw[NC];obtain⟨_,h1,_⟩:=Bw (body:=fun(s:(Int×Int×Int×Int)×List Int×(List (List UInt8))×List Int×List UInt8×Int×Int)=>Ec s.1 s.2.1 s.2.2.1 s.2.2.2.1 s.2.2.2.2.1 s.2.2.2.2.2.1 s.2.2.2.2.2.2)
  (fun k (_:Unit)=>(w,bs,DH bs w.2.2.1.toNat w.2.2.2.toNat,a,s,(w.2.2.2.toNat:Int),(k:Int))) (fun _=>.inl (w,bs,a,s)) (fun _ _=>True) w.2.2.2.toNat (by
  intro k _ hk _;obtain⟨r1,r2,r3,r4⟩:=Wa hw hl hb hk;obtain⟨k1,k2⟩:=xm (row:=LT bs w.2.2.1.toNat k) (fun x hx=>hb x (fu hx)) (by have:=V9 bs w.2.2.1.toNat k;omega);have hlen:k<(DH bs w.2.2.1.toNat w.2.2.2.toNat).length:=by rw[NC];exact hk
  have hget:AN (DH bs w.2.2.1.toNat w.2.2.2.toNat) k=some (Cp (Er (LT bs w.2.2.1.toNat k))):=by
   show(DH bs w.2.2.1.toNat w.2.2.2.toNat)[k]? =_;unfold DH;rw[zd4,List.getElem?_range hk];rfl
  refine⟨(),?_,trivial⟩;show Ec w bs (DH bs w.2.2.1.toNat w.2.2.2.toNat) a s (w.2.2.2.toNat:Int) (k:Int)=_;unfold Ec;rw[zp,cT,AT hlen,obs,hget,obs,k1,obs];simp only;rw[k2,obs,nT,cF,cF,r1,obs];simp only;rw[show DZ (LT bs w.2.2.1.toNat k) (List.drop (k*w.2.2.1.toNat) (List.take (k*w.2.2.1.toNat+((k+1)*w.2.2.1.toNat-k*w.2.2.1.toNat)) bs))=some true from OG (by have:=V9 bs w.2.2.1.toNat k;omega),obs,nT,cF,Aw]) (by
  intro _ _;show Ec w bs (DH bs w.2.2.1.toNat w.2.2.2.toNat) a s (w.2.2.2.toNat:Int) (w.2.2.2.toNat:Int)=_;unfold Ec;rw[zq,cF]) 0 () (by omega) trivial
 exact h1
end
theorem nf{s:Str}(hs:s.length<=1000){w:Bh}{r:List Rat}(h:HM s w=some r)(d:P2):
  ((HS s d)).bind (fun x14=>
    bif x14.2 then
     ((Ci (w.1+d.1,w.2.1+d.2,w.2.2.1,w.2.2.2))).bind fun x15=>
     bif x15 then
      ((BS x14.1 (w.1+d.1,w.2.1+d.2,w.2.2.1,w.2.2.2))).bind fun x16=>
      bif x16.2 then
       ((DZ x16.1 (r.map byQ))).bind fun x17=>
       bif(!x17)then
        some false
       else
       some true
      else
      some true
     else
     some true
    else
    some true)=some true:=by
 rw[y6 (by omega) d,obs];cases hm:(mvV s d).2 with
 |false=>rw[cF]
 |true=>
  obtain⟨l,e1,e2,e3,e4,e5,e6,e7⟩:=ww hm;have hmv:(mvV s d).1=DF (l.map (mvW d)):=by rw[e5]
  rw[cT,hmv,show Ci (w.1+d.1,w.2.1+d.2,w.2.2.1,w.2.2.2)=some (GX (Qq w d))from Kz (Qq w d),obs];cases GX (Qq w d)with
  |false=>rw[cF]
  |true=>
   rw[cT,show BS (DF (l.map (mvW d))) (w.1+d.1,w.2.1+d.2,w.2.2.1,w.2.2.2)=some (V3 (HM (DF (l.map (mvW d))) (Qq w d)))from KA (by omega) (Qq w d),obs];cases hp:HM (DF (l.map (mvW d))) (Qq w d)with
   |none=>rfl
   |some r'=>
    have e:=zo e1 e6 h hp;subst e;obtain⟨h1,h2,h3⟩:=Gd h;have hn:=Uw h1;rw[show V3 (some r')=(r'.map byQ,true)from rfl];simp only[cT];rw[OG (by rw[zc5];omega),obs,nT,cF]
theorem ld{a b:List Int}(ha:∀x∈a,0<=x/\x<=255)(hb:∀x∈b,0<=x/\x<=255)(la:a.length<=1000000000000000)(lb:b.length<=1000000000000000):JA a b=some true:=by
 unfold JA;rw[Ae];by_cases hl:(a.length:Int)+(b.length:Int)>1048576
 ·rw[zp hl];rfl
 rw[zq hl,cF];have ca:Cur 0 (a,0,0):=.start ha (by omega);obtain⟨s,w,e1,hs⟩:=rU ca;obtain⟨n,en,n0,n1⟩:=nS hb (by omega);have f1:=sq (s:=s) (by omega) w;have f2:=tC (s:=s) (by omega) w;have f3:=sy (s:=s) (by omega) w;have f4:=tD (s:=s) (by omega) w;have f5:=KA (s:=s) (by omega) w;have ht:=sZ (s:=s) (w:=w);rw[e1,obs];simp only[AR];rw[f1,obs,f2,obs,f3,obs,f4,obs,f5,obs,beq_self_eq_true,nT,cF,beq_self_eq_true,nT,cF,beq_self_eq_true,nT,cF,bne_self_eq_false,cF];cases hp:HM s w with
 |none=>
  rw[se hp];have l0:=Xu w (l:=[]) [] b s [] false (by simp);rw[show fb w none=([],false)from rfl,show V3 none=([],false)from rfl];simp only[beq_self_eq_true,nT,cF];have l0':Ad (fun(s:(Int×Int×Int×Int)×(List (List UInt8))×(List (List UInt8))×List Int×List Int×List UInt8×List UInt8×Bool×Int×Int)=>Dg s.1 s.2.1 s.2.2.1 s.2.2.2.1 s.2.2.2.2.1 s.2.2.2.2.2.1 s.2.2.2.2.2.2.1 s.2.2.2.2.2.2.2.1 s.2.2.2.2.2.2.2.2.1 s.2.2.2.2.2.2.2.2.2) (w,([]:List Str),([]:List Str),([]:List Int),b,s,([]:Str),false,(([]:List Str).length:Int),(0:Int))=_:=l0;rw[l0',obs];rfl
 |some r=>
  obtain⟨h1,h2,h3⟩:=Gd hp;obtain⟨g1,g2,g3,g4⟩:=Fp.1 h1;have hn:=Uw h1;have ok:=tl hp;have hv:=p8 ok;have rd:=wW ok;rw[sf hp];rw[hp]at ht;rw[show fb w (some r)=(DH (r.map byQ) w.2.2.1.toNat w.2.2.2.toNat,true)from rfl]at ht⊢
  rw[show V3 (some r)=(r.map byQ,true)from rfl];have hv2:(UA w.2.2.1 w.2.2.2 (r.map byQ)).2=true:=by rw[hv]
  have l0:=Xu w (l:=DH (r.map byQ) w.2.2.1.toNat w.2.2.2.toNat) (r.map byQ) b s (UA w.2.2.1 w.2.2.2 (r.map byQ)).1 true (by simp only at ht;omega);have l1:=jT (bs:=r.map byQ) h1 (by rw[zc5];exact h2) T4 b s;simp only[hv2,beq_self_eq_true,nT,cF];generalize hT:DH (r.map byQ) w.2.2.1.toNat w.2.2.2.toNat=T at*
  have hTl:(T.length:Int)=w.2.2.2:=by rw[<-hT,NC];omega
  rw[l0,obs,zg0];simp only[cT];rw[rd,obs];simp only[nT,cF,bne_self_eq_false];rw[OG (by rw[zc5];omega),obs,nT,cF,show((T.length:Int) != w.2.2.2)=false by simp[bne,hTl],cF];rw[l1,obs,zg0,en,obs,obs];have t1:=UU (a:=n) (n:=5);have t0:0<=n.tdiv 5/\n.tdiv 5<=n:=by
   rw[zc7 (by omega)];omega
  have t2:=UU (a:=n.tdiv 5) (n:=5);simp only;rw[Ae (n:=n.tmod 5-2),Ae (n:=n.tdiv 5),Ae (n:=(n.tdiv 5).tmod 5-2),Ae (n:=w.1+(n.tmod 5-2)),Ae (n:=w.2.1+((n.tdiv 5).tmod 5-2))];exact nf hs hp (n.tmod 5-2,(n.tdiv 5).tmod 5-2)
end Go.Proofs.YtiijheppiboglaaGreatDoor.Ev
section
namespace Go.Proofs.YtiijheppiboglaaGreatDoor.Ev
open Go Go.RowKit Go.ChangeShapes Go.WideShapes Go.ChangeAt
set_option maxRecDepth 100000
def shs:List Sh:=[.sl 1 (.int .u8),.sl 1 (.int .u8)]
theorem fits:pb Tryz.prog [32,32] shs:=by
 exact⟨.sl (e:=5) (by kernel_rfl) (by kernel_rfl) (by kernel_rfl) (.int (by kernel_rfl)),.sl (e:=5) (by kernel_rfl) (by kernel_rfl) (by kernel_rfl) (.int (by kernel_rfl)),trivial⟩
theorem own:ownKnob Tryz.prog.godebug=none:=by kernel_rfl
theorem laid:laidOutB Tryz.prog=true:=by kernel_rfl
theorem door_met(os:Os)(args:Array Value):laidMetH Tryz.prog Rows.fnCropsRow.laid ((World.laidAll Tryz.prog os Rows.fnCropsRow.laid).forCall (fun _ _=>0) ⟨#[],args,[]⟩).memory:=by
 rw[MakeChecks.laidMetH_plain _ _ _ (by kernel_rfl)];exact laidMet_laidAll _ (by kernel_rfl) (by kernel_rfl)
theorem starE: "*" ++ "errors.errorString" = "*errors.errorString" :=by decide
def ids:List Nat:=[0,1,2,3]
theorem libJ{W:World}(hsh:W.ShapedOpen Tryz.prog)(hL:laidMetH Tryz.prog Rows.fnCropsRow.laid W):LibJ (Jof W ids):=by
 rw[MakeChecks.laidMetH_plain _ _ _ (by kernel_rfl)]at hL;have hP:laidMet Tryz.prog Rows.fnCropsRow.laid W:=hL;have htab:Lib.TabIs Tryz.prog W "internal/strconv.uint64pow10" .u64 Lib.pow10Tab:=Lib.tabIs_of_head (g:=3) (t:=254) (e:=113) (n:=20) (by kernel_rfl) (by kernel_rfl) (by kernel_rfl) (by kernel_rfl) (by kernel_rfl) (by kernel_rfl) (show laidMet Tryz.prog ((_,Lib.tabData .u64 Lib.pow10Tab)::_) W from KD 2 hP)
 have hmax:∃m:Int,W.cell? ⟨2,0,none⟩=some (.int .i64 m):=Go.Proofs.cell_of_shapedOpen_int (zero:= #[.int .i64 0]) (t:=3) hsh (of_decide_eq_true (by kernel_rfl)) (by kernel_rfl) rfl (by kernel_rfl) (by kernel_rfl) Tryz.underlying3;have hsyn:∃tp p,W.var? Tryz.prog "strconv.ErrSyntax" =some #[.iface tp p]:=by
  obtain⟨a,s,hv,_⟩:=laid_sentinel (g:=0) (ti:=125) (tp:=259) (te:=261) (ts:=9) (KD 5 hP) (by kernel_rfl) (by kernel_rfl) Tryz.underlying125 (fun u h=>typeName_ptr_named (nm:= "errors.errorString") (by rw[starE];kernel_rfl) (by kernel_rfl) (by decide) u (by rw[starE];exact h)) Tryz.underlying259 Tryz.underlying261 rfl rfl Tryz.underlying9 (by kernel_rfl) (by kernel_rfl);exact⟨_,_,hv⟩
 have hrng:∃tp p,W.var? Tryz.prog "strconv.ErrRange" =some #[.iface tp p]:=by
  obtain⟨a,s,hv,_⟩:=laid_sentinel (g:=1) (ti:=125) (tp:=259) (te:=261) (ts:=9) (KD 4 hP) (by kernel_rfl) (by kernel_rfl) Tryz.underlying125 (fun u h=>typeName_ptr_named (nm:= "errors.errorString") (by rw[starE];kernel_rfl) (by kernel_rfl) (by decide) u (by rw[starE];exact h)) Tryz.underlying259 Tryz.underlying261 rfl rfl Tryz.underlying9 (by kernel_rfl) (by kernel_rfl);exact⟨_,_,hv⟩
 unfold ids;exact {tab:=As0 (g:=3) (by kernel_rfl) (by simp) htab,max:=Ar9 (g:=2) (by simp) hmax,syn:=An4 (g:=0) (by kernel_rfl) (by simp) hsyn,rng:=An4 (g:=1) (by kernel_rfl) (by simp) hrng}
theorem lifted(os:Os)(started:os.Started)(H:Type)(enc:TypeId×Value->H):
  ReturnsInHanded {} Tryz.checked os 11 .any (fun w args=>(Rows.fnCropsSpec.pre enc Tryz.prog Tryz.f11 [] false w args/\laidMetH Tryz.prog Rows.fnCropsRow.laid w)/\sizedMet enc Tryz.prog Tryz.f11 (OpenSpec.ofChange Rows.fnCropsSpec) false w args)
   (Rows.fnCropsSpec.post enc Tryz.prog Tryz.f11 false true false false):=by
 refine Qv (C:=Tryz.checked) (X:=fun w _=>laidMetH Tryz.prog Rows.fnCropsRow.laid w) (fun _ _ _ hh h=>h.of_heap hh) own started (by kernel_rfl) Tryz.func11
  (ChangeSpec.witness_shaped (enc:=enc) (C:=Tryz.checked) (os:=os) (X:=fun w _=>laidMetH Tryz.prog Rows.fnCropsRow.laid w) false (World.laidAll Tryz.prog os Rows.fnCropsRow.laid) #[.slice none 0 0,.slice none 0 0] 8 (World.laidAll_os _ _ _) (World.shaped_of_ZipB (by kernel_rfl) (by kernel_rfl)) (by kernel_rfl) (by kernel_rfl) (by kernel_rfl) (door_met os _)) ?_
 intro W base args ds gs before hval hW hsz hsh hL;exact gU (P:=Tryz.prog) (J:=Jof W ids) (cf:=cf0) (ext:=Ag3) (F:=fun x=>JA x.1 x.2) (shs:=shs) (by kernel_rfl) (j8 (libJ hsh hL)) fT (fun d=>by kernel_rfl)
  (fun d hd=>ld (T5 hd.1).1 (T5 hd.2.1).1 (T5 hd.1).2 (T5 hd.2.1).2) rfl rfl rfl (by kernel_rfl) fits laid
  (fun t ht=>by
   have:t=32:=by simpa using ht
   rcases this with rfl<;>exact⟨by kernel_rfl,of_decide_eq_true (by kernel_rfl)⟩) rfl
  (fun ds hl=>by
   match ds,hl with
   |[_,_],_=>rfl) uv hval hW hsz
theorem hfn:Tryz.prog.funcNamed "loop.example/g00409/laws.FnCrops" =some 11:=by kernel_rfl
theorem closed:joinedFacts Tryz.prog 11 Tryz.f11 Rows.fnCropsSpec Rows.fnCropsRow=true:=by
 unfold joinedFacts;simp only[za2]
 repeat' apply And.intro
 all_goals (as_aux_lemma=>kernel_rfl)
theorem over:Rows.fnCropsRow.holds Tryz.pinned (OpenSpec.ofChange Rows.fnCropsSpec):=
 OpenClaim.holds_of_wide 11 Tryz.f11 rfl rfl rfl rfl rfl rfl rfl ⟨rfl,rfl,rfl,rfl,rfl⟩ rfl rfl rfl rfl rfl hfn Tryz.func11 closed
  (of_decide_eq_true (by as_aux_lemma=>kernel_rfl)) (by unfold Func.isWrapper;first|(rw[zr (by decide+kernel)];kernel_rfl)|(rw[zw (by decide+kernel)];exact⟨rfl,rfl⟩))
  (fun os started H enc _=>lifted os started H enc)
theorem carded:Rows.FnCropsCardSaid:=
 Claim7.holds_tied_plain_at .later [] [.data,.data,.data,.data,.sentinel,.sentinel,.pinned] true (true, "468de68268811ac350c0866b8afcc88575c2e10ab6507847880ba7abcce4bdc1") true
  over (fun _ h=>by cases h) (by as_aux_lemma=>kernel_rfl) (fun _ h=>by cases h) fnCrops_row_tie rfl ⟨rfl,rfl⟩ (by as_aux_lemma=>kernel_rfl) rfl
  (fun f fn hf hf2=>by
   obtain rfl:f=11:=zv (hfn.symm.trans hf) |>.symm
   obtain rfl:fn=Tryz.f11:=(zv (Tryz.func11.symm.trans hf2)).symm;exact⟨by as_aux_lemma=>kernel_rfl,fun j t ht=>by
    rw[show Tryz.f11.params= #[32,32]from rfl]at ht;have hm:t∈[32,32]:=by simpa using Array.mem_of_getElem? ht
    have hall:([32,32].all fun u=> !Tryz.prog.wantsStandIn u)=true:=by kernel_rfl
    exact(show Tryz.prog.wantsStandIn t=false by simpa using za5.1 hall t hm)⟩)
  (by as_aux_lemma=>kernel_rfl)
end Go.Proofs.YtiijheppiboglaaGreatDoor.Ev
namespace Go.Proofs.YtiijheppiboglaaGreatDoor
theorem fnCrops_holds:Rows.FnCropsSaid:=Ev.over
theorem fnCrops_card_holds:Rows.FnCropsCardSaid:=Ev.carded
#print axioms fnCrops_card_holds
end Go.Proofs.YtiijheppiboglaaGreatDoor

end
