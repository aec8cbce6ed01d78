/- Whatever comes in, the law of this claim answers true, and nothing that was handed in changes. -/
import Derived.Test.YtnohbihcoikkbaaGreatKE
import Derived.Test.YtnohbihcoikkbaaGreatRows
import Derived.WalkKit
import Derived.ProofKit
import Derived.OpenShut
import Derived.ShutString
import Derived.ChangeOld
import Derived.Below
import Derived.SizedLaws
import Derived.Test.YtnohbihcoikkbaaGreatChecked
set_option maxHeartbeats 2000000
open Option renaming bind_some → za0, map_eq_some_iff → zb4, map_some → zd1
open List renaming getElem?_eq_getElem → za1, getElem?_eq_some_iff → za3, getD_eq_getElem?_getD → za4, mem_of_getElem? → za5, all_eq_true → za6, mem_flatMap → zb0, flatMap_cons → zb2, eq_nil_of_length_eq_zero → zb3, mem_append → zb5, getElem?_take → zb6, drop_eq_getElem_cons → zb9, take_of_length_le → zc0, all_cons → zc1, map_cons → zc2, length_cons → zc6, length_take → zc7, getElem?_replicate → zc8, mem_cons → zc9, getElem?_drop → zd2, getElem?_map → zd5, getElem?_append_left → zd6, mem_map → ze0, getElem?_append → ze2, getElem?_of_mem → ze3, length_append → ze5, drop_zero → ze7, take_length → zf1
open Bool renaming and_eq_true → za2, false_eq_true → zb8, true_and → ze4, not_eq_true' → zf0
open Nat renaming eq_of_beq_eq_true → za7, le_refl → za8, le_trans → zd0, lt_or_ge → zd3, mul_le_mul_right → zd4, lt_of_lt_of_le → zd8, zero_add → ze6, add_mul → zf2, zero_le → zf5
open Int renaming mul_le_mul_of_nonneg_right → za9, mul_le_mul_of_nonneg_left → zb1, tdiv_eq_ediv_of_nonneg → zc3, toNat_natCast → zc4, tmod_eq_emod_of_nonneg → zc5, mul_add → zd7, le_of_lt → ze1, mul_nonneg → ze8, natAbs_natCast → ze9, mul_comm → zf3, mul_assoc → zf4
open Array renaming getD_eq_getD_getElem? → zb7
open Sum renaming elim_inr → zd9
open Go.IntKind renaming wrap → zj, i64 → zk, u64 → zx
open Option.some renaming inj → zy, injEq → zb
open Sum renaming inl → zc, inr → zd
noncomputable section
set_option linter.unusedVariables false
set_option linter.unusedSimpArgs false
set_option linter.unusedSectionVars false
namespace Go.Proofs.YtnohbihcoikkbaaGreat.Ev
section
open Go
theorem AG6(q:Rat):(((rqF q).1,(rqF q).2.1),(rqF q).2.2)=rq q:=(rfl)
structure DrP (l:List Rat):Prop where
 len:l.length<=20
 sz:Szs 100 l
theorem VX{B:Nat}{c:List Int×Int×Int}(h:Cur B c)(hB:B<=900000000):∃c' l,CZ c=some (c',pq l)/\Cur (B+100) c'/\DrP l:=by
 unfold CZ;obtain⟨c0,v0,e0,q0,a0,b0⟩:=EU h (by omega) 5;have b0:=b0 (by omega);obtain⟨n,rfl⟩:∃n:Nat,v0=(n:Int):=⟨v0.toNat,by omega⟩;obtain⟨⟨c1,l⟩,e1,q1,g1,n1⟩:=HH (body:=fun(s:(((List Int)×(Int×Int))×(LQ×Int)))=>Cn s.1 s.2.1 s.2.2)
  (st:=fun k (b:(List Int×Int×Int)×List Rat)=>(b.1,(pq b.2,(k:Int)))) (fin:=fun b=>(b.1,pq b.2)) (I:=fun k b=>Cur (B+2+4*(4-k)) b.1/\Szs 4 b.2/\b.2.length+k<=4)
  (by
   rintro k ⟨c,l⟩ ⟨i1,i2,i3⟩;simp only at i1 i2 i3;obtain⟨c',v,e,q,a,b⟩:=EU i1 (by omega) 11;obtain⟨c'',v',e',q',a',b'⟩:=EU q (by omega) 3;have b:=b (by omega);have b':=b' (by omega);refine⟨(c'',l++[Rat.divInt (v-5) (1+v')]),?_,q'.mono (by omega),?_,by simp;omega⟩
   ·show Cn c (pq l) ((k+1:Nat):Int)=_;unfold Cn;rw[zp (by omega)];simp only[cT,Ha,e,e',obs];rw[Ab (n:=v-5) (by omega) (by omega),Ab (n:=1+v') (by omega) (by omega),Ab0,SL (by omega) (by omega) (by omega)];simp only[obs,AG6];rw[Vv (by omega)];simp only[obs];rw[Ab (by omega) (by omega),show((k+1:Nat):Int)-1=(k:Int) by omega]
   ·intro x hx;rcases zb5.1 hx with hx|hx
    ·exact i2 x hx
    ·rw[List.mem_singleton.1 hx];exact SM (by omega) (by omega) (by omega))
  (by
   rintro⟨c,l⟩ _;show Cn c (pq l) ((0:Nat):Int)=_;unfold Cn;rfl) n (c0,[]) ⟨q0.mono (by omega),fun x hx=>absurd hx (List.not_mem_nil),by simp;omega⟩
 simp only at q1 g1 n1 e1;simp only[Ha,e0,obs];rw[show([]:LQ)=pq []from rfl,e1];obtain⟨c2,v2,e2,q2⟩:=OX q1 (by omega) 12;simp only[obs,e2];obtain⟨m,em,gm,nm⟩:∃m:List Rat,((bif !v2 then(Dv (pq l)).bind fun x3=>some (Sum.inr (c2,x3))else some (Sum.inr (c2,pq l))):Option ((((List Int)×(Int×Int))×LQ)⊕(((List Int)×(Int×Int))×LQ)))=some (Sum.inr (c2,pq m))/\Szs 4 m/\m.length<=4:=by
  cases v2 with
  |true=>exact⟨l,rfl,g1,by omega⟩
  |false=>exact⟨A7 l,by rw[nF];simp only[cT];rw[L9 (by omega)];rfl,ER g1,zd0 (C5 l) (by omega)⟩
 rw[em];obtain⟨c3,v3,e3,q3⟩:=OX q2 (by omega) 4;simp only[obs,sEr,e3];have same:∃c' l,some (c3,pq m)=some (c',pq l)/\Cur (B+100) c'/\DrP l:=⟨_,_,rfl,q3.mono (by omega),by omega,gm.mono (by omega)⟩;cases v3 with
 |false=>exact same
 |true=>
  simp only[cT,As];by_cases h1:0<m.length
  ·rw[zp (show((m.length:Nat):Int)>0 by omega)];by_cases h2:m.length<4
   ·rw[zp (show((m.length:Nat):Int)<4 by omega)];obtain⟨c4,v4,e4,q4,a4,b4⟩:=EU q3 (by omega) 5;have b4:=b4 (by omega);simp only[cT,Ha,e4,obs];rw[Ab (n:=v4-2) (by omega) (by omega),QS (by omega) (by omega),Aw4];have g4:Szs 1 [((v4-2:Int):Rat),1]:=fun x hx=>by
     rcases zc9.1 hx with rfl|hx
     ·exact Wl (by rw[B1];omega) (by omega)
     ·rw[List.mem_singleton.1 hx];exact AL5 (by omega)
    have e5:=Wh (by omega) g4 g4 (by omega) (by simp) (by simp);have g5:=QL (by omega) g4 g4;have n5:=NM [((v4-2:Int):Rat),1] [((v4-2:Int):Rat),1];simp only[obs,AG6];rw[show rq ((v4-2:Int):Rat)::rq 1::pq []=pq [((v4-2:Int):Rat),1]from rfl,e5];simp only[zc6,List.length_nil]at g5 n5;generalize KA [((v4-2:Int):Rat),1] [((v4-2:Int):Rat),1]=w at g5 n5;simp only[obs];have gm':Szs 7 m:=gm.mono (by omega);rw[Wh (m:=7) (by omega) gm' (g5.mono (by omega)) (by omega) (by omega) (by omega)];have g6:=QL (m:=7) (by omega) gm' (g5.mono (by omega));have n6:=NM m w
    exact⟨_,_,rfl,q4.mono (by omega),by omega,g6.mono (by have:m.length*(7+7+1)<=4*15:=Nat.mul_le_mul (by omega) (by omega);omega)⟩
   ·rw[zq (show ¬((m.length:Nat):Int)<4 by omega)];exact same
  ·rw[zq (show ¬((m.length:Nat):Int)>0 by omega)];exact same
theorem Ao4{l:List Int}(h:Cur 0 (l,0,0)):∃p q,ET l=some (pq p,pq q)/\DrP p/\DrP q:=by
 unfold ET G4;obtain⟨c1,p,e1,q1,d1⟩:=VX h (by omega);obtain⟨c2,q,e2,q2,d2⟩:=VX q1 (by omega);simp only[e1,obs,Ha,e2];exact⟨p,q,rfl,d1,d2⟩
theorem Af1{l:List Int}(h:Cur 0 (l,0,0)):∃p a,CY l=some (pq p,a)/\DrP p/\ShF a:=by
 unfold CY;obtain⟨c1,p,e1,q1,d1⟩:=VX h (by omega);obtain⟨c2,a,e2,q2,d2⟩:=AL9 q1 (by omega);simp only[e1,obs,Ha,e2];exact⟨p,a,rfl,d1,d2⟩
theorem Af2{l:List Int}(h:Cur 0 (l,0,0)):∃m,D0 l=some m/\m.length<=8/\∀x∈m,-1001<=x/\x<=1001:=by
 unfold D0;obtain⟨c0,v0,e0,q0,a0,b0⟩:=EU h (by omega) 9;have b0:=b0 (by omega);obtain⟨n,rfl⟩:∃n:Nat,v0=(n:Int):=⟨v0.toNat,by omega⟩;obtain⟨⟨c1,m⟩,e1,q1,g1,n1⟩:=HH (body:=fun(s:(((List Int)×(Int×Int))×((List Int)×Int)))=>Cm s.1 s.2.1 s.2.2)
  (st:=fun k (b:(List Int×Int×Int)×List Int)=>(b.1,(b.2,(k:Int)))) (fin:=fun b=>b.2) (I:=fun k b=>Cur (2+2*(8-k)) b.1/\(∀x∈b.2,-1001<=x/\x<=1001)/\b.2.length+k<=8)
  (by
   rintro k ⟨c,l⟩ ⟨i1,i2,i3⟩;simp only at i1 i2 i3;obtain⟨c',v,e,q,a⟩:=Nm i1 (by omega) [0,0,1,-1,5,1000,-1000,1001] (by simp) (by simp);refine⟨(c',l++[v]),?_,q.mono (by omega),?_,by simp;omega⟩
   ·show Cm c l ((k+1:Nat):Int)=_;unfold Cm;rw[zp (by omega)];simp only[cT,Ha,e,obs];rw[Vu (by simp[Ad];omega) (by simp[Ad];omega)];simp only[obs];rw[Ab (by omega) (by omega),show((k+1:Nat):Int)-1=(k:Int) by omega]
   ·intro x hx;rcases zb5.1 hx with hx|hx
    ·exact i2 x hx
    ·rw[List.mem_singleton.1 hx];simp only[zc9,List.not_mem_nil,or_false]at a;omega)
  (by
   rintro⟨c,l⟩ _;show Cm c l ((0:Nat):Int)=_;unfold Cm;rfl) n (c0,[]) ⟨q0.mono (by omega),fun x hx=>absurd hx (List.not_mem_nil),by simp;omega⟩
 simp only at q1 g1 n1 e1;simp only[Ha,e0,obs,e1];exact⟨m,rfl,by omega,g1⟩
def Nk(p q:List Rat):LQ×Bool:=if AH p&&AH q then H3 (A7 (GQ p q))else([],false)
def Mi(p q:List Rat):LQ×Bool:=if AH p&&AH q then H3 (KA p q)else([],false)
def Lb(p q:List Rat):LQ×(LQ×Bool):=if AH p&&AH q&&decide (q≠[])&&AH (Iv p q)&&AH (Iw p q)then(pq (Iv p q),(pq (Iw p q),true))else([],([],false))
def evV(p:List Rat)(x:Rat):RF×Bool:=if AH p&&okC x then FO (evP p x)else(zF,false)
theorem Ys{p q:List Rat}(hp:DrP p)(hq:DrP q):Ge (pq p) (pq q)=some (AH p&&AH q):=by
 unfold Ge;rw[Kf (by omega) hp.sz (by have:=hp.len;omega),Kf (by omega) hq.sz (by have:=hq.len;omega)];cases AH p<;>rfl
theorem gi{p:List Rat}(hp:DrP p):Bj (pq p)=some (AH p):=Sl (by omega) hp.sz (by have:=hp.len;omega)
theorem gs{p:List Rat}(hp:DrP p):Cc (pq p)=some (AH p):=Kf (by omega) hp.sz (by have:=hp.len;omega)
theorem QH{q:List Rat}(h:Nv q)(h0:q≠[]):0<q.length/\FS q≠0:=by
 rcases h with rfl|⟨m,a,rfl,ha⟩
 ·exact absurd rfl h0
 ·refine⟨by simp,?_⟩
  unfold FS;rw[ze5,List.length_singleton,Nat.add_sub_cancel];simpa using ha
section
variable {p q:List Rat} (hp:DrP p) (hq:DrP q)
include hp hq
theorem OH:Fd (pq p) (pq q)=some (Nk p q):=by
 unfold Fd Nk;rw[gi hp,gi hq];cases h1:AH p with
 |false=>rfl
 |true=>
  cases h2:AH q with
  |false=>rfl
  |true=>
   obtain⟨a1,a2,a3⟩:=A9.1 h1;obtain⟨b1,b2,b3⟩:=A9.1 h2;have hl:=Jr p q;have ht:=C5 (GQ p q);have hz':Szs 13 (GQ p q):=Szs.mono (Ab5 (k:=6) (by omega) a2 b2) (by omega);simp only[obs,nT,cF,AK1 (m:=6) (by omega) (by omega) a2 b2 (by omega) (by omega)];rw[GA (k:=13) (by omega) (ER hz') (by omega),Me];rfl
theorem Aj6:II (pq p) (pq q)=some (Nk p q):=by
 unfold II Nk;rw[Ys hp hq];cases h1:AH p with
 |false=>rfl
 |true=>
  cases h2:AH q with
  |false=>rfl
  |true=>
   obtain⟨a1,a2,a3⟩:=A9.1 h1;obtain⟨b1,b2,b3⟩:=A9.1 h2;have hl:=Jr p q;have ht:=C5 (GQ p q);have hz':Szs 13 (GQ p q):=Szs.mono (Ab5 (k:=6) (by omega) a2 b2) (by omega);simp only[obs,Bool.and_self,nT,cF,AE4 (m:=6) (by omega) (by omega) a2 b2 (by omega) (by omega)];rw[N1 (k:=13) (by omega) (ER hz') (by omega)];rfl
theorem UJ:Fe (pq p) (pq q)=some (Mi p q):=by
 unfold Fe Mi;rw[gi hp,gi hq];cases h1:AH p with
 |false=>rfl
 |true=>
  cases h2:AH q with
  |false=>rfl
  |true=>
   obtain⟨a1,a2,a3⟩:=A9.1 h1;obtain⟨b1,b2,b3⟩:=A9.1 h2;have hl:=NM p q;have hz:=QL (m:=6) (by omega) a2 b2;have hm:p.length*(6+6+1)<=7*13:=Nat.mul_le_mul (by omega) (by omega);have hz':Szs 100 (KA p q):=Szs.mono hz (by omega);simp only[obs,nT,cF,AC1 (m:=6) (by omega) a2 b2 (by omega) (by omega) (by omega)];rw[GA (k:=100) (by omega) hz' (by omega),show A7 (KA p q)=KA p q from Me _];rfl
theorem Aj8:IK (pq p) (pq q)=some (Mi p q):=by
 unfold IK Mi;rw[Ys hp hq];cases h1:AH p with
 |false=>rfl
 |true=>
  cases h2:AH q with
  |false=>rfl
  |true=>
   obtain⟨a1,a2,a3⟩:=A9.1 h1;obtain⟨b1,b2,b3⟩:=A9.1 h2;have hl:=NM p q;have hz:=QL (m:=6) (by omega) a2 b2;have hm:p.length*(6+6+1)<=7*13:=Nat.mul_le_mul (by omega) (by omega);have hz':Szs 100 (KA p q):=Szs.mono hz (by omega);simp only[obs,Bool.and_self,nT,cF,Wh (m:=6) (by omega) a2 b2 (by omega) (by omega) (by omega)];rw[N1 (k:=100) (by omega) hz' (by omega)];rfl
theorem Ag4:IC (pq p) (pq q)=some (Lb p q):=by
 unfold IC Lb;rw[gi hp,gi hq,QN];cases h1:AH p with
 |false=>rfl
 |true=>
  cases h2:AH q with
  |false=>rfl
  |true=>
   obtain⟨a1,a2,a3⟩:=A9.1 h1;obtain⟨b1,b2,b3⟩:=A9.1 h2;by_cases h0:q=[]
   ·rw[zp h0,h0];rfl
   ·obtain⟨c1,c2⟩:=QH b3 h0;obtain⟨f1,f2,f3,f4⟩:=R4 a2 b2 a1 b1 c1 c2;rw[zq h0,zp h0];have t1:=C5 (dm p q).1;have t2:=C5 (dm p q).2;simp only[obs,nT,cF,Ag9 a2 b2 a1 b1 c1 c2];rw[GA (k:=2500) (l:=Iv p q) (by omega) (ER f2) (by unfold Iv;unfold nq at f4;omega),GA (k:=2500) (l:=Iw p q) (by omega) (ER f1) (by unfold Iw;omega),
     show A7 (Iv p q)=Iv p q from Me _,show A7 (Iw p q)=Iw p q from Me _]
    unfold H3;cases AH (Iv p q)<;>cases AH (Iw p q)<;>rfl
theorem Aj7:IJ (pq p) (pq q)=some (Lb p q):=by
 unfold IJ Lb;rw[Ys hp hq,QN];cases h1:AH p with
 |false=>rfl
 |true=>
  cases h2:AH q with
  |false=>rfl
  |true=>
   obtain⟨a1,a2,a3⟩:=A9.1 h1;obtain⟨b1,b2,b3⟩:=A9.1 h2;by_cases h0:q=[]
   ·rw[zp h0,h0];rfl
   ·obtain⟨c1,c2⟩:=QH b3 h0;obtain⟨f1,f2,f3,f4⟩:=R4 a2 b2 a1 b1 c1 c2;rw[zq h0,zp h0];have t1:=C5 (dm p q).1;have t2:=C5 (dm p q).2;simp only[obs,Bool.and_self,nT,cF,AE5 a2 b2 a1 b1 c1 c2];rw[N1 (k:=2500) (m:=Iv p q) (by omega) (ER f2) (by unfold Iv;unfold nq at f4;omega),N1 (k:=2500) (m:=Iw p q) (by omega) (ER f1) (by unfold Iw;omega)];unfold H3;cases AH (Iv p q)<;>cases AH (Iw p q)<;>rfl
end
theorem AB9{x:Rat}(h:Sz 100 x):Jg (rqF x)=some (okC x):=by
 unfold Jg;simp only[F5,(VG (by omega) h).1,obs];have e:BJ (rqF x) 6=some (okC x):=JB (q:=x) (n:=6);by_cases h4:Sz 40 x
 ·rw[zp h4];simp only[cT,e,obs]
 ·rw[zq h4,show okC x=false from zq fun h=>h4 (Im h)];rfl
section
variable {p:List Rat} (hp:DrP p)
include hp
theorem H8{x:Rat}(hx:Sz 100 x):Bc (pq p) (rqF x)=some (evV p x):=by
 unfold Bc evV;rw[gi hp];cases h1:AH p with
 |false=>rfl
 |true=>
  obtain⟨a1,a2,a3⟩:=A9.1 h1;simp only[obs,nT,cF,F5,AB9 hx];cases h2:okC x with
  |false=>rfl
  |true=>
   have h6:Sz 6 x:=of_decide_eq_true h2;simp only[nT,cF,AS2 a2 a1 h6,obs,F5,J6,Bool.and_self,if_true,Ha]
theorem Za{x:Rat}(hx:Sz 100 x):CF (pq p) (rqF x)=some (evV p x):=by
 unfold CF evV;rw[gs hp];cases h1:AH p with
 |false=>rfl
 |true=>
  obtain⟨a1,a2,a3⟩:=A9.1 h1;simp only[obs,nT,cF,F5,U6];by_cases h6:Sz 6 x
  ·rw[zp h6,show okC x=true from zp h6];simp only[nT,cF,(VG (k:=6) (by omega) h6).2,obs,zp (Im h6),Aw6 a2 a1 h6,XM (k:=100) (by omega) (AO8 a2 a1 h6),Bool.and_self,if_true,Ha]
  ·rw[zq h6,show okC x=false from zq h6];rfl
theorem Ap5{a:RF}(ha:ShF a)(hb:C3 (toQ a)=false):Bc (pq p) a=some (zF,false)/\CF (pq p) a=some (zF,false):=by
 unfold Bc CF Jg;rw[gi hp,gs hp];cases AH p with
 |false=>exact⟨rfl,rfl⟩
 |true=>
  simp only[obs,nT,cF,F5,OJ ha.br,U5 ha.br,hb,nF,cT];refine⟨rfl,?_⟩
  unfold Fh;cases decide ((a.2.1.length:Int)<=6)<;>cases decide ((a.2.2.2.length:Int)<=6)<;>rfl
end
def inK(x:Int):Bool:=decide (-1000<=x)&&decide (x<=1000)
def ofV(l:List Int):LQ×Bool:=if decide (l.length<=7)&&l.all inK then(pq (A7 (l.map fun z:Int=>(z:Rat))),true)else([],false)
theorem Ah1(x:Int):C9 x (-1000) 1000=some (inK x):=by
 unfold C9 inK;by_cases h: -1000<=x
 ·first|rw[zp h];rfl|(rw[zp (show(-1000:Int)<=x from h)];rfl)|(rw[zp (show x>= -1000 from h)];rfl)
 ·first|rw[zq h];rfl|(rw[zq (show ¬(x>= -1000)from h)];rfl)
theorem Ak3(x:Int):FF x (-1000) 1000=some (inK x):=by
 unfold FF inK;by_cases h: -1000<=x
 ·first|rw[zp h];rfl|(rw[zp (show x>= -1000 from h)];rfl)
 ·first|rw[zq h];rfl|(rw[zq (show ¬(x>= -1000)from h)];rfl)
section
variable {l:List Int} (hl:l.length<=8) (hr:∀x∈l,-1001<=x/\x<=1001)
include hl hr
theorem Ar3:AP l=some (!l.all inK):=by
 unfold AP Bo;have key:∀(n k:Nat),k+n=l.length->∃r,Ag (fun(s:((List Int)×(Int×Int)))=>An s.1 s.2.1 s.2.2) (l,((l.length:Int),(k:Int)))=some r/\
   if(l.drop k).all inK then r=.inl ()else ∃j:Nat,r=.inr (j:Int):=by
  intro n
  induction n with
  |zero=>
   intro k hk;have:k=l.length:=by omega
   subst this;refine⟨_,AE (show An l (l.length:Int) (l.length:Int)=some (.inr (.inl ()))from ?_),?_⟩
   ·unfold An;rw[zq (by omega)];rfl
   ·rw[List.drop_length];rfl
  |succ n ih=>
   intro k hk;have hlt:k<l.length:=by omega
   have he:l[k]? =some l[k]:=za1 hlt;rw[zb9 hlt,zc1];have hp1:Hk l[k]=some (!inK l[k]):=by
    unfold Hk;rw[Ah1];rfl
   cases h6:inK l[k]with
   |true=>
    obtain⟨r,e,hr⟩:=ih (k+1) (by omega);rw[ze4];refine⟨r,(BG (f:=fun(s:((List Int)×(Int×Int)))=>An s.1 s.2.1 s.2.2) (show An l (l.length:Int) (k:Int)=_ from ?_)).trans e,hr⟩
    unfold An;rw[zp (by omega),Av,he];simp only[cT,obs,hp1,h6,nT,cF];rw[BM (by omega)]
   |false=>
    rw[Bool.false_and];refine⟨_,AE (f:=fun(s:((List Int)×(Int×Int)))=>An s.1 s.2.1 s.2.2) (r:=.inr (k:Int)) (show An l (l.length:Int) (k:Int)=_ from ?_),k,rfl⟩
    unfold An;rw[zp (by omega),Av,he];simp only[cT,obs,hp1,h6,nF]
 obtain⟨r,e,hr⟩:=key l.length 0 (by omega);rw[ze7]at hr;rw[show(0:Int)=((0:Nat):Int)from rfl,e];cases ha:l.all inK with
 |true=>rw[ha,zw rfl]at hr;rw[hr];rfl
 |false=>
  rw[ha,zi (by simp)]at hr;obtain⟨j,hj⟩:=hr;rw[hj];simp only[obs,sEr];rw[zp (by omega)];rfl
def ED(l:List Int):List Rat:=l.map fun z:Int=>(z:Rat)
omit hl hr in
theorem JX (l:List Int):(ED l).length=l.length:=by simp[ED]
omit hl hr in
theorem WU {l:List Int} {k:Nat} {z:Int} (h:l[k]? =some z):ED (l.take (k+1))=ED (l.take k)++[((z:Int):Rat)]:=by
 unfold ED;rw[List.take_add_one,h];simp
theorem Aq7:HO l=some (ofV l):=by
 unfold HO ofV;by_cases h7:l.length<=7
 ·rw[zq (show ¬(l.length:Int)>7 by omega),zp h7,Ar3 hl hr];simp only[cF,obs,ze4];cases ha:l.all inK with
  |false=>rfl
  |true=>
   simp only[nT,cF,if_true];obtain⟨b,e,hb⟩:=Cg (body:=fun(s:(LQ×((List Int)×(Int×Int))))=>Ei s.1 s.2.1 s.2.2.1 s.2.2.2)
    (st:=fun k (b:Unit)=>(pq (ED (l.take k)),(l,((l.length:Int),(k:Int))))) (fin:=fun _=>pq (ED l)) (I:=fun _ _=>True) l.length
    (by
     rintro k b hk _;refine⟨(),?_,trivial⟩
     have he:l[k]? =some l[k]:=za1 hk;have hz:=hr _ (za5 he);show Ei (pq (ED (l.take k))) l (l.length:Int) (k:Int)=_;unfold Ei;rw[zp (by omega),Av,he];simp only[cT,obs,ZT (n:=l[k]) (by omega) (by omega),KB];rw[Vv (by rw[JX,zc7];omega),<-WU he];simp only[obs];rw[BM (by omega)])
    (by
     rintro b _;show Ei (pq (ED (l.take l.length))) l (l.length:Int) (l.length:Int)=_;unfold Ei;rw[zq (by omega),zf1];rfl) 0 () (zf5 _) trivial
   rw[show([]:LQ)=pq (ED (l.take 0))from rfl,show(0:Int)=((0:Nat):Int)from rfl,e];simp only[obs];rw[OK (by rw[JX];omega)];rfl
 ·rw[zp (show(l.length:Int)>7 by omega),zq h7];rfl
theorem Aw1:HQ l=some (ofV l):=by
 unfold HQ ofV;obtain⟨h1,h2⟩:=Te (l:=l) (body:=fun(s:(LQ×((List Int)×((List Int)×(Int×Int)))))=>Ej s.1 s.2.1 s.2.2.1 s.2.2.2.1 s.2.2.2.2)
  (st:=fun k (b:List Rat)=>(pq b,(l,(l,((l.length:Int),(k:Int)))))) (step:=fun b z=>if inK z then .inr (b++[((z:Int):Rat)])else .inl (.inr (([]:LQ),false))) (fin:=fun b=>.inl (pq b,l)) (I:=fun k b=>b.length=k)
  (by
   rintro k b z hk hI;have hkl:=J5 hk;have hz:=hr z (za5 hk);show _\/∃r,_/\Ej (pq b) l l (l.length:Int) (k:Int)=_;unfold Ej;simp only[zp (show(k:Int)<(l.length:Int) by omega),cT,Av,hk,obs,Ak3];cases h6:inK z with
   |true=>
    left
    refine⟨_,rfl,?_,by simp[hI]⟩
    simp only[nT,cF,QS (n:=z) (by omega) (by omega),obs,KB];rw[Vv (by omega)];simp only[obs];rw[BM (by omega)]
   |false=>
    right
    refine⟨.inr ([],false),rfl,?_⟩
    simp only[nF,cT])
  (by
   rintro b _;show Ej (pq b) l l (l.length:Int) (l.length:Int)=_;unfold Ej;rw[zq (by omega)];rfl) [] rfl
 rw[show([]:LQ)=pq []from rfl,show(0:Int)=((0:Nat):Int)from rfl,h1];have key:∀(m:List Int)(b:List Rat),JA (ρ:=(LQ×List Int)⊕(LQ×Bool)) (fun b z=>if inK z then .inr (b++[((z:Int):Rat)])else .inl (.inr (([]:LQ),false))) b m=if m.all inK then .inr (b++ED m)else .inl (.inr ([],false)):=by
  intro m
  induction m with
  |nil=>intro b;unfold JA;simp[ED]
  |cons z m ih=>
   intro b;unfold JA;rw[zc1];cases h6:inK z with
   |true=>simp only[if_true,ze4];rw[ih];simp[ED]
   |false=>simp
 rw[key,List.nil_append];cases ha:l.all inK with
 |false=>simp[pq]
 |true=>
  simp only[if_true,zd9,obs,Sum.elim_inl,Bool.and_true];by_cases h7:l.length<=7
  ·rw[zq (show ¬(l.length:Int)>7 by omega),zp h7];simp only[cF,if_true];rw[show l.map (fun z:Int=>(z:Rat))=ED l from rfl,L9 (by rw[JX];omega)]
   try rfl
  ·rw[zp (show(l.length:Int)>7 by omega),zq h7];rfl
end
theorem E5{l:List Rat}{k:Nat}(hk:k<=1000000)(h:Szs k l)(hl:l.length<=1000):AL (pq l) (pq l)=some true:=by
 unfold AL;rw[bne_self_eq_false];simp only[cF];obtain⟨h1,h2⟩:=UA (l:=l) (body:=fun(s:(LQ×(LQ×(Int×Int))))=>CS s.1 s.2.1 s.2.2.1 s.2.2.2)
  (st:=fun k (_:Unit)=>(pq l,(pq l,((l.length:Int),(k:Int))))) (step:=fun b p=>()) (fin:=fun b=>.inl ()) (I:=fun k b=>True)
  (by
   rintro k' b a hk' _;have hkl:=J5 hk';refine⟨?_,trivial⟩
   show CS (pq l) (pq l) (l.length:Int) (k':Int)=_;unfold CS;rw[zp (show(k':Int)<(l.length:Int) by omega)];simp only[cT,Cx hk',obs,fl,J8 hk (h a (za5 hk')),nT,cF,BM (show k'<4611686018427387904 by omega)])
  (by
   rintro b _;show CS (pq l) (pq l) (l.length:Int) (l.length:Int)=_;unfold CS;rw[zq (by omega)];rfl) () trivial
 rw[As,show(0:Int)=((0:Nat):Int)from rfl,h1];rfl
theorem U8(l:List Rat):AL (H3 l).1 (H3 l).1=some true:=by
 unfold H3;cases h:AH l with
 |true=>
  obtain⟨a1,a2,a3⟩:=A9.1 h;exact E5 (k:=6) (by omega) a2 (by omega)
 |false=>exact E5 (l:=[]) (k:=6) (by omega) (fun x hx=>absurd hx (List.not_mem_nil)) (by simp)
theorem Ls:AL ([]:LQ) ([]:LQ)=some true:=E5 (l:=[]) (k:=6) (by omega) (fun x hx=>absurd hx (List.not_mem_nil)) (by simp)
theorem Aw8(p q:List Rat):AL (Nk p q).1 (Nk p q).1=some true:=by
 unfold Nk
 split
 ·exact U8 _
 ·exact Ls
theorem Ax0(p q:List Rat):AL (Mi p q).1 (Mi p q).1=some true:=by
 unfold Mi
 split
 ·exact U8 _
 ·exact Ls
theorem Aw9(p q:List Rat):AL (Lb p q).1 (Lb p q).1=some true/\AL (Lb p q).2.1 (Lb p q).2.1=some true:=by
 unfold Lb
 split
 ·rename_i h;simp only[za2]at h;obtain⟨a1,a2,a3⟩:=A9.1 h.1.2;obtain⟨b1,b2,b3⟩:=A9.1 h.2;exact⟨E5 (k:=6) (by omega) a2 (by omega),E5 (k:=6) (by omega) b2 (by omega)⟩
 ·exact⟨Ls,Ls⟩
end
section
open Go
theorem YQ{b:List Int}(hb:∀x∈b,0<=x/\x<=255)(hl:b.length<=1048576):∃n:Int,FC b=some n/\0<=n/\n<1000003:=by
 obtain⟨n,h1,h2⟩:=Cg (body:=fun(s:(Int×((List Int)×(Int×Int))))=>Cs s.1 s.2.1 s.2.2.1 s.2.2.2)
  (st:=fun k (n:Int)=>(n,(b,((b.length:Int),(k:Int))))) (fin:=fun n=>n) (I:=fun k n=>0<=n/\n<1000003) b.length
  (by
   rintro k n hk ⟨g1,g2⟩;have he:b[k]? =some b[k]:=za1 hk;generalize b[k]=x at he;have hx:=hb x (za5 he);refine⟨(31*n+x).tmod 1000003,?_,Wn (by omega) (by omega)⟩
   show Cs n b (b.length:Int) (k:Int)=_;unfold Cs;rw[zp (show(k:Int)<(b.length:Int) by omega),cT,Av,he,obs,Ab (n:=31*n) (by omega) (by omega),Ab (n:=x) (by omega) (by omega),Ab (n:=31*n+x) (by omega) (by omega),Ab (n:=(k:Int)+1) (by omega) (by omega)];rfl)
  (by
   rintro n _;show Cs n b (b.length:Int) (b.length:Int)=_;unfold Cs;rw[zq (by omega)];rfl) 0 0 (by omega) ⟨by omega,by omega⟩
 unfold FC;have h1':Ag (fun(s:(Int×((List Int)×(Int×Int))))=>Cs s.1 s.2.1 s.2.2.1 s.2.2.2) ((0:Int),(b,((b.length:Int),(0:Int))))=some n:=h1;rw[h1',obs];exact⟨n,rfl,h2⟩
end
section
open Go
theorem H2{l:List Rat}(h:AH l=true):DrP l:=by
 obtain⟨a1,a2,a3⟩:=A9.1 h;exact⟨by omega,a2.mono (by omega)⟩
theorem R8{l:List Rat}(h:(H3 l).2=true):AH l=true/\(H3 l).1=pq l:=by
 unfold H3 at*
 cases hg:AH l with
 |true=>exact⟨rfl,rfl⟩
 |false=>rw[hg]at h;cases h
theorem Uj{p q:List Rat}(h:(Nk p q).2=true):AH p=true/\AH q=true/\AH (A7 (GQ p q))=true/\(Nk p q).1=pq (A7 (GQ p q)):=by
 unfold Nk at*
 by_cases hg:(AH p&&AH q)=true
 ·rw[zw hg]at h⊢
  rw[za2]at hg;exact⟨hg.1,hg.2,R8 h⟩
 ·rw[zi hg]at h;cases h
theorem UT{p q:List Rat}(h:(Mi p q).2=true):AH p=true/\AH q=true/\AH (KA p q)=true/\(Mi p q).1=pq (KA p q):=by
 unfold Mi at*
 by_cases hg:(AH p&&AH q)=true
 ·rw[zw hg]at h⊢
  rw[za2]at hg;exact⟨hg.1,hg.2,R8 h⟩
 ·rw[zi hg]at h;cases h
theorem Ae9{p q:List Rat}(h:(Lb p q).2.2=true):AH p=true/\AH q=true/\q≠[]/\AH (Iv p q)=true/\AH (Iw p q)=true/\Lb p q=(pq (Iv p q),(pq (Iw p q),true)):=by
 unfold Lb at*
 by_cases hg:(AH p&&AH q&&decide (q≠[])&&AH (Iv p q)&&AH (Iw p q))=true
 ·rw[zw hg];simp only[za2,decide_eq_true_iff]at hg;obtain⟨⟨⟨⟨h1,h2⟩,h3⟩,h4⟩,h5⟩:=hg;exact⟨h1,h2,h3,h4,h5,rfl⟩
 ·rw[zi hg]at h;cases h
theorem Ld{p:List Rat}{x:Rat}(h:(evV p x).2=true):AH p=true/\Sz 40 (evP p x)/\evV p x=(rqF (evP p x),true):=by
 unfold evV at*
 by_cases hg:(AH p&&okC x)=true
 ·rw[zw hg]at h⊢
  rw[za2]at hg;by_cases hz:Sz 40 (evP p x)
  ·exact⟨hg.1,hz,LX hz⟩
  ·rw[OC hz]at h;cases h
 ·rw[zi hg]at h;cases h
theorem YI{x:Rat}(h:(FO x).2=true):Sz 40 x/\FO x=(rqF x,true):=by
 by_cases hz:Sz 40 x
 ·exact⟨hz,LX hz⟩
 ·rw[OC hz]at h;cases h
theorem Tg{α:Type}{s:List Rat}{x v:Rat}(hv:evP s x=v)(T:α):
  (bif(evV s x).2 then bif(FO v).2 then((Bh ((evV s x).1.1,((evV s x).1.2.1,((evV s x).1.2.2.1,(evV s x).1.2.2.2))) ((FO v).1.1,((FO v).1.2.1,((FO v).1.2.2.1,(FO v).1.2.2.2)))).bind fun x20=>bif(!x20)then some (Sum.inl false)else some (Sum.inr T))else some (Sum.inr T)else some (Sum.inr T))=(some (Sum.inr T):Option (Bool⊕α)):=by
 cases h1:(evV s x).2 with
 |false=>rfl
 |true=>
  cases h2:(FO v).2 with
  |false=>rfl
  |true=>
   obtain⟨_,z,e⟩:=Ld h1;obtain⟨_,e2⟩:=YI h2;rw[e,e2,<-hv];simp only[cT,F5,J8 (k:=40) (by omega) z,obs,nT,cF]
section
variable {p q:List Rat} {x:Rat} (hp:DrP p) (hq:DrP q) (hx:Sz 6 x)
include hp hq hx
theorem Au3{α:Type}(T:α):
  (bif(Nk p q).2 then bif(evV p x).2 then bif(evV q x).2 then
   ((Bc (Nk p q).1 (rqF x))).bind fun x18=>((HM (evV p x).1 (evV q x).1)).bind fun x19=>
    bif x18.2 then bif x19.2 then((Bh (x18.1.1,(x18.1.2.1,(x18.1.2.2.1,x18.1.2.2.2))) (x19.1.1,(x19.1.2.1,(x19.1.2.2.1,x19.1.2.2.2))))).bind fun x20=>bif(!x20)then some (Sum.inl false)else some (Sum.inr T)else some (Sum.inr T)else some (Sum.inr T)
   else some (Sum.inr T)else some (Sum.inr T)else some (Sum.inr T))=(some (Sum.inr T):Option (Bool⊕α)):=by
 cases h1:(Nk p q).2 with
 |false=>rfl
 |true=>
  cases h2:(evV p x).2 with
  |false=>rfl
  |true=>
   cases h3:(evV q x).2 with
   |false=>rfl
   |true=>
    obtain⟨a1,a2,a3,a4⟩:=Uj h1;obtain⟨_,z2,e2⟩:=Ld h2;obtain⟨_,z3,e3⟩:=Ld h3;rw[a4,e2,e3];have hx':Sz 100 x:=hx.mono (by omega);simp only[cT,H8 (H2 a3) hx',Aq5 z2 z3,obs];have hv:evP (A7 (GQ p q)) x=evP p x+evP q x:=by rw[AB4,AJ4]
    have h:=Tg hv T;rw[h]
theorem Au2{α:Type}(T:α):
  (bif(Mi p q).2 then bif(evV p x).2 then bif(evV q x).2 then
   ((Bc (Mi p q).1 (rqF x))).bind fun x18=>((HN (evV p x).1 (evV q x).1)).bind fun x19=>
    bif x18.2 then bif x19.2 then((Bh (x18.1.1,(x18.1.2.1,(x18.1.2.2.1,x18.1.2.2.2))) (x19.1.1,(x19.1.2.1,(x19.1.2.2.1,x19.1.2.2.2))))).bind fun x20=>bif(!x20)then some (Sum.inl false)else some (Sum.inr T)else some (Sum.inr T)else some (Sum.inr T)
   else some (Sum.inr T)else some (Sum.inr T)else some (Sum.inr T))=(some (Sum.inr T):Option (Bool⊕α)):=by
 cases h1:(Mi p q).2 with
 |false=>rfl
 |true=>
  cases h2:(evV p x).2 with
  |false=>rfl
  |true=>
   cases h3:(evV q x).2 with
   |false=>rfl
   |true=>
    obtain⟨a1,a2,a3,a4⟩:=UT h1;obtain⟨_,z2,e2⟩:=Ld h2;obtain⟨_,z3,e3⟩:=Ld h3;rw[a4,e2,e3];have hx':Sz 100 x:=hx.mono (by omega);simp only[cT,H8 (H2 a3) hx',Aq6 z2 z3,obs];have hv:evP (KA p q) x=evP p x*evP q x:=by rw[AJ5]
    have h:=Tg hv T;rw[h]
end
theorem AA0{p q:List Rat}(hp:Nv p)(hq:Nv q)(h0:q≠[]):A7 (GQ (KA (Iv p q) q) (Iw p q))=p:=by
 obtain⟨c1,c2⟩:=QH hq h0;refine W5 (JN _) hp fun j=> ?_
 rw[Mc];refine WX (fun M=> ?_) j
 rw[NI,Xs];unfold Iv Iw bil;rw[Ll,Ll];have:=AJ1 (p:=p) c2 c1 (k:=nq p q) (n:=nq p q) rfl (za8 _) M;unfold bil at this;rw[<-this];unfold dm
 grind
theorem Au0{α:Type}{p q:List Rat}(T:α):
  (bif(Lb p q).2.2 then
   ((Fe (Lb p q).1 (pq q))).bind fun x30=>((Fd x30.1 (Lb p q).2.1)).bind fun x31=>
    bif decide ((((List.length (Lb p q).2.1):Nat):Int)>=(((List.length (pq q)):Nat):Int))then some (Sum.inl false)
    else bif x30.2 then bif x31.2 then((AL x31.1 (pq p))).bind fun x32=>bif(!x32)then some (Sum.inl false)else some (Sum.inr T)else some (Sum.inr T)else some (Sum.inr T)
   else some (Sum.inr T))=(some (Sum.inr T):Option (Bool⊕α)):=by
 cases h1:(Lb p q).2.2 with
 |false=>rfl
 |true=>
  obtain⟨g1,g2,g3,g4,g5,e⟩:=Ae9 h1;obtain⟨a1,a2,a3⟩:=A9.1 g1;obtain⟨b1,b2,b3⟩:=A9.1 g2;obtain⟨c1,c2⟩:=QH b3 g3;have hs:(Iw p q).length<q.length:=Af0 c2 c1 rfl;rw[e];simp only[cT,As,UJ (H2 g4) (H2 g2),obs];have hfalse:decide (((Iw p q).length:Int)>=(q.length:Int))=false:=zq (by omega);cases h2:(Mi (Iv p q) q).2 with
  |false=>
   have hn:(Mi (Iv p q) q).1=pq []:=by
    unfold Mi H3 at*
    split at h2
    ·rename_i h;rw[zw h]
     split at h2
     ·cases h2
     ·rename_i h';rw[zi h'];rfl
    ·rename_i h;rw[zi h];rfl
   rw[hn,OH (p:=[]) ⟨by simp,fun x hx=>absurd hx (List.not_mem_nil)⟩ (H2 g5),hfalse];rfl
  |true=>
   obtain⟨_,_,m3,m4⟩:=UT h2;rw[m4,OH (H2 m3) (H2 g5),hfalse];simp only[obs,cF,cT];cases h3:(Nk (KA (Iv p q) q) (Iw p q)).2 with
   |false=>rfl
   |true=>
    obtain⟨_,_,s3,s4⟩:=Uj h3;rw[s4,AA0 a3 b3 g3,E5 (k:=6) (by omega) a2 (by omega)];rfl
theorem Y1{m:List Int}(cm:Cur 0 (m,0,0)):
  ((CY m).bind fun x36=>((Bc x36.1 (x36.2.1,(x36.2.2.1,(x36.2.2.2.1,x36.2.2.2.2))))).bind fun x37=>((CF x36.1 (x36.2.1,(x36.2.2.1,(x36.2.2.2.1,x36.2.2.2.2))))).bind fun x38=>
   ((D0 m)).bind fun x39=>((HO x39)).bind fun x40=>((HQ x39)).bind fun x41=>
   bif(x37.2==x38.2)then((Bh (x37.1.1,(x37.1.2.1,(x37.1.2.2.1,x37.1.2.2.2))) (x38.1.1,(x38.1.2.1,(x38.1.2.2.1,x38.1.2.2.2))))).bind fun x42=>
    bif x42 then bif(x40.2==x41.2)then((AL x40.1 x41.1)).bind fun x43=>some x43 else some false else some false else some false)=some true:=by
 obtain⟨e,y,e1,d1,d2⟩:=Af1 cm;obtain⟨l,e2,l1,l2⟩:=Af2 cm;have hl:AL (ofV l).1 (ofV l).1=some true:=by
  unfold ofV
  split
  ·rename_i h;rw[za2,decide_eq_true_iff]at h;have ht:=C5 (ED l);rw[JX]at ht;refine E5 (k:=1) (l:=A7 (ED l)) (by omega) (ER fun a ha=> ?_) (by omega)
   obtain⟨z,hz,rfl⟩:=ze0.1 ha;exact Wl (by rw[B1];have:=l2 z hz;omega) (by omega)
  ·exact Ls
 rw[e1,e2];simp only[obs,F5,Aq7 l1 l2,Aw1 l1 l2,beq_self_eq_true,cT,hl];have key:∃r:RF×Bool,Bc (pq e) y=some r/\CF (pq e) y=some r/\Bh r.1 r.1=some true:=by
  cases hg:C3 (toQ y)with
  |false=>
   obtain⟨h1,h2⟩:=Ap5 d1 d2 hg;exact⟨_,h1,h2,Lj⟩
  |true=>
   obtain⟨x,hx,rfl⟩:=AB6 hg;refine⟨_,H8 d1 (hx.mono (by omega)),Za d1 (hx.mono (by omega)),?_⟩
   unfold evV
   split
   ·exact Sq _
   ·exact Lj
 obtain⟨r,k1,k2,k3⟩:=key;simp only[k1,k2,obs,beq_self_eq_true,cT,F5,k3]
theorem XG{a b:List Int}(ha:∀x∈a,0<=x/\x<=255)(hb:∀x∈b,0<=x/\x<=255)(ha2:a.length<=1000000000000000)(hb2:b.length<=1000000000000000):GH a b=some true:=by
 unfold GH;rw[Ab (by omega) (by omega)];by_cases hl:(a.length:Int)+(b.length:Int)>1048576
 ·rw[zp hl];rfl
 rw[zq hl];have ca:Cur 0 (a,0,0):=.start ha (by omega);have cb:Cur 0 (b,0,0):=.start hb (by omega);have last:=Y1 cb;obtain⟨p,q,e1,dp,dq⟩:=Ao4 ca;obtain⟨n,e2,n0,n1⟩:=YQ hb (by omega);have hr7:0<=Int.tmod n 7/\Int.tmod n 7<7:=⟨Int.tmod_nonneg _ n0,Int.tmod_lt_of_pos _ (by omega)⟩;have hr3:0<=Int.tmod n 3/\Int.tmod n 3<3:=⟨Int.tmod_nonneg _ n0,Int.tmod_lt_of_pos _ (by omega)⟩;obtain⟨x,ex,hx⟩:∃x:Rat,Jf (zj zk (Int.tmod n 7-3)) (zj zk (1+Int.tmod n 3))=some (rqF x,true)/\Sz 6 x:=by
  refine⟨Rat.divInt (Int.tmod n 7-3) (1+Int.tmod n 3),?_,?_⟩
  ·rw[Ab (by omega) (by omega),Ab (by omega) (by omega),AB7,SL (by omega) (by omega) (by omega)]
  ·exact Sz.mono (SM (by omega) (by omega) (by omega)) (by omega)
 have hx':Sz 100 x:=hx.mono (by omega);obtain⟨sd1,sd2⟩:=Aw9 p q;simp only[cF,e1,obs,OH dp dq,Aj6 dp dq,UJ dp dq,Aj8 dp dq,Ag4 dp dq,Aj7 dp dq,beq_self_eq_true,nT,Aw8,Ax0,sd1,sd2,gi dp,gs dp,e2,ex,F5,H8 dp hx',H8 dq hx'];refine RJ (Au3 dp dq hx _) ?_
 refine RJ (Au2 dp dq hx _) ?_
 refine RJ (Au0 _) ?_
 exact last
end
end Go.Proofs.YtnohbihcoikkbaaGreat.Ev
section
namespace Go.Proofs.YtnohbihcoikkbaaGreat.Ev
open Go Go.RowKit Go.ChangeShapes Go.WideShapes Go.ChangeAt
def shs:List Sh:=[.sl 1 (.int .u8),.sl 1 (.int .u8)]
theorem fits:Zt Tryz.prog [22,22] shs:=by
 have h:Fits Tryz.prog 22 (.sl 1 (.int .u8)):=.sl Tryz.underlying22 (by kernel_rfl) (by kernel_rfl) (.int Tryz.underlying5);exact⟨h,h,trivial⟩
theorem bytes_wf{l:List Int}(h:WFC (.sl 1 (.int .u8)) l):(∀x∈l,0<=x/\x<=255)/\l.length<=1000000000000000:=by
 have h1:∀x∈l,(Lit.int .u8 x).wf=true:=h.1;have h2:l.length*1<=Ad:=h.2;refine⟨fun x hx=> ?_,by unfold Ad at h2;omega⟩
 have:=h1 x hx;simp[Lit.wf,IntKind.min,IntKind.max,IntKind.bits,IntKind.signed]at this;omega
theorem own:ownKnob Tryz.prog.godebug=none:=by kernel_rfl
theorem laid:laidOutB Tryz.prog=true:=by kernel_rfl
set_option maxRecDepth 100000 in
theorem lifted (os : Os) (started : os.Started) (H : Type) (enc : TypeId × Value -> H) :
  ReturnsInHanded {} Tryz.checked os 3 .any (Rows.fnPolysSpec.pre6 enc Tryz.prog Tryz.f3 Rows.fnPolysRow.domain false) (Rows.fnPolysSpec.post enc Tryz.prog Tryz.f3 false true false false) := by
 refine returnsInHanded_of_change_sized (C := Tryz.checked) own started (by kernel_rfl) Tryz.func3 (ChangeSpec.witness6 (enc := enc) (C := Tryz.checked) false ⟨#[], #[.slice none 0 0, .slice none 0 0], []⟩ 8 (by kernel_rfl) (by kernel_rfl) (by kernel_rfl) (by kernel_rfl)) ?_
 intro W base args ds gs before hval hW hcnd hsz _;exact VN (P := Tryz.prog) (J := []) (cf := cf0) (ext := AJ6) (F := fun x => GH x.1 x.2) (shs := shs) (by kernel_rfl) (W8 ⟨trivial⟩) Vn (fun d => by kernel_rfl)
  (fun d hd => XG (bytes_wf hd.1).1 (bytes_wf hd.2.1).1 (bytes_wf hd.1).2 (bytes_wf hd.2.1).2) rfl rfl rfl (by kernel_rfl) fits laid
  (fun t ht => by
   have : t = 22 := by simpa using ht
   subst this;exact ⟨by kernel_rfl, of_decide_eq_true (by kernel_rfl)⟩) rfl
  (fun ds hl => by
   match ds, hl with
   | [_, _], _ => rfl) (fun x hx => absurd hx (List.not_mem_nil)) hval hW hsz
theorem over:Rows.fnPolysRow.holds Tryz.pinned (OpenSpec.ofChange Rows.fnPolysSpec):=
 OpenClaim.holds_of_wide 3 Tryz.f3 rfl rfl rfl rfl rfl rfl rfl ⟨rfl,rfl,rfl,rfl,rfl⟩ rfl rfl rfl rfl rfl (by kernel_rfl) Tryz.func3 (by kernel_rfl)
  (of_decide_eq_true (by kernel_rfl)) (by unfold Func.isWrapper;first|(rw[zw (by decide+kernel)];kernel_rfl)|(rw[zi (by decide+kernel)];exact⟨rfl,rfl⟩))
  (fun os started H enc _=>lifted os started H enc)
end Go.Proofs.YtnohbihcoikkbaaGreat.Ev
namespace Go.Proofs.YtnohbihcoikkbaaGreat
theorem fnPolys_holds:Rows.FnPolysSaid:=Ev.over
#print axioms fnPolys_holds
end Go.Proofs.YtnohbihcoikkbaaGreat

end
