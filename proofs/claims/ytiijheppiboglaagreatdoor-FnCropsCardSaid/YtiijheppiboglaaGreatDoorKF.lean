/- What the theorem of this claim leans on, part 6. -/
import Derived.Test.YtiijheppiboglaaGreatDoorKE
import Derived.KernelRfl
set_option maxHeartbeats 2000000
open Option renaming bind_some → za0
open List renaming getElem?_eq_getElem → za1,mem_of_getElem? → za3,all_eq_true → za5,drop_eq_getElem_cons → za9,mem_append → zb0,eq_nil_of_length_eq_zero → zb2,length_append → zb5,length_cons → zb7,map_cons → zb9,getD_eq_getElem?_getD → zc0,mem_cons → zc1,take_of_length_le → zc3,getElem?_take → zc4,length_map → zc5,mem_singleton → zd0,all_cons → zd1,drop_eq_nil_of_le → zd2,mem_map → zd3,getElem?_map → zd4,getElem?_drop → zd5,length_take → zd9,mem_cons_of_mem → ze4,drop_zero → ze5,append_assoc → ze6,take_add_one → ze7,cons_append → ze8,append_nil → zf1
open Bool renaming and_eq_true → za2,false_eq_true → zc9,true_and → ze2,not_true → zf5,false_and → zf8
open Sum renaming elim_inr → za6,elim_inl → zg0
open Nat renaming le_refl → za7,lt_or_ge → zd8,le_trans → zf2,zero_add → zf3
open Int renaming mul_le_mul_of_nonneg_right → zb1,mul_le_mul_of_nonneg_left → zb4,toNat_natCast → zc2,tmod_eq_emod_of_nonneg → zc6,tdiv_eq_ediv_of_nonneg → zc7,mul_add → ze3,le_of_lt → ze9,natAbs_natCast → zf4,mul_nonneg → zf6,natCast_mul → zf7
open Go.IntKind renaming wrap → zi, i64 → zj, u64 → zk
open Option.some renaming inj → zv, injEq → zx
open Sum renaming inl → zy, inr → zb
noncomputable section
set_option linter.unusedVariables false
set_option linter.unusedSimpArgs false
set_option linter.unusedSectionVars false
namespace Go.Proofs.YtiijheppiboglaaGreatDoor.Ev
open Go
def Az(l:List Int):Prop:=l.length<=100000000
theorem qU{l:List Int}(h:l≠[]):∃m x,l=m++[x]:=⟨l.dropLast,l.getLast h,(List.dropLast_concat_getLast h).symm⟩
theorem pU{m:List Int}{x:Int}(h:x≠0):NB (m++[x]):=fun y hy=>by
 rw[List.getLast?_append]at hy;simp at hy;subst hy;exact h
theorem Ab8{n:Nat}(h:n<=200000000):ft n 8 1=true:=by unfold ft;rw[zp (by unfold Aa;omega),zp (by unfold Aa;omega)];rfl
theorem IE{l:List Int}(hb:Az l):C3 l=some (Gh l):=by
 have key:∀(n:Nat)(l:List Int),l.length=n->n<=100000000->Ad (fun(s:List Int)=>Ma s) l=some (Gh l):=by
  intro n
  induction n with
  |zero=>
   intro l hl _;have:l=[]:=zb2 hl;subst this;exact Ak rfl
  |succ n ih=>
   intro l hl hn;obtain⟨m,x,rfl⟩:=qU (l:=l) (by intro h;subst h;simp at hl);have hm:m.length=n:=by simpa using hl
   have hlen:(((m++[x]).length:Nat):Int)=(n:Int)+1:=by simp[hm]
   have hg:AA (m++[x]) (n:Int)=some x:=by rw[Af,<-hm];simp
   have hstep:Ma (m++[x])=if x=0 then some (zy m)else some (zb (m++[x])):=by
    unfold Ma;rw[hlen,Ae,show(n:Int)+1-1=(n:Int) by omega,hg,zp];simp only[cond_true,za0];by_cases hx:x=0
    ·rw[zr hx,beq_iff_eq.2 hx];have:Fx 0 (n:Int) (m++[x]).length=some (0,n):=by unfold Fx;simp[hm];omega
     rw[this];simp[<-hm]
    ·rw[zw hx,beq_eq_false_iff_ne.2 hx];rfl
   by_cases hx:x=0
   ·rw[zr hx]at hstep;rw[AP hstep,ih m hm (by omega),hx,J4]
   ·rw[zw hx]at hstep;rw[Ak hstep,Qz (pU hx)]
 unfold C3;have h:=Wg l;unfold Az at hb;rw[key _ l rfl hb];simp only[za0,Ab8 (show(Gh l).length<=200000000 by omega),cond_true]
theorem eG{l:List Int}(hb:Az l):Ko l=some (Gh l):=by
 unfold Az at hb;have key:∀(n:Nat),n<=l.length->Gh (l.take n)=Gh l->∃k:Nat,k<=l.length/\l.take k=Gh l/\Ad (fun(s:List Int×Int)=>QE s.1 s.2) (l,(n:Int))=some (l,(k:Int)):=by
  intro n
  induction n with
  |zero=>
   intro _ h;exact⟨0,by omega,by simpa[Gh]using h,Ak rfl⟩
  |succ n ih=>
   intro hn h;have hlt:n<l.length:=by omega
   have hg:AA l (n:Int)=some l[n]:=by rw[Af,za1 hlt]
   have ht:l.take (n+1)=l.take n++[l[n]]:=by rw[ze7,za1 hlt];rfl
   have hstep:QE l ((n+1:Nat):Int)=if l[n]=0 then some (zy (l,(n:Int)))else some (zb (l,((n+1:Nat):Int))):=by
    unfold QE;rw[Ae,show((n+1:Nat):Int)-1=(n:Int) by omega,hg,zp];simp only[cond_true,za0];by_cases hx:l[n]=0
    ·rw[zr hx,beq_iff_eq.2 hx];rfl
    ·rw[zw hx,beq_eq_false_iff_ne.2 hx];rfl
   by_cases hx:l[n]=0
   ·rw[zr hx]at hstep;obtain⟨k,h1,h2,h3⟩:=ih (by omega) (by rw[<-h,ht,hx,J4]);exact⟨k,h1,h2,by rw[AP hstep];exact h3⟩
   ·rw[zw hx]at hstep;refine⟨n+1,hn,?_,Ak hstep⟩;rw[<-h,ht,Qz (pU hx)]
 obtain⟨k,h1,h2,h3⟩:=key l.length (za7 _) (by rw[List.take_length]);unfold Ko;rw[h3];have:Fx 0 (k:Int) l.length=some (0,k):=by unfold Fx;simp[h1]
 simp only[za0,this,ze5,h2]
theorem dV{l:List Int}(hb:Az l):B9 l=some l:=by
 unfold B9 wE;cases l with
 |nil=>rfl
 |cons a t=>
  unfold Az at hb;simp only[Cj,neL,za0,Ab8 (show(a::t).length<=200000000 by omega),cond_true]
theorem lW{l:List Int}(h:Az l):Az (Gh l):=by have:=Wg l;unfold Az at*;omega
theorem Qn(l:List Int):decide (((l.length:Nat):Int)>0)= !l.isEmpty:=by cases l<;>simp<;>omega
theorem Nt(n:Nat):(!(lim n).isEmpty)=decide (n≠0):=by
 cases h:lim n with
 |nil=>rw[KE.1 h];rfl
 |cons a t=>simp;intro h0;rw[h0,CH]at h;cases h
theorem Jo{l:List Int}(h:LB l)(hb:Az l)(neg:Bool):Bo neg l=some (lim (val l).toNat,neg&&decide ((val l).toNat≠0)):=by
 unfold Bo;simp only[eG hb,za0,dV (lW hb),Qn];rw[CO h,Nt];cases neg<;>rfl
theorem G6{l:List Int}(h:LB l)(hb:Az l)(neg:Bool):BC neg l=some (lim (val l).toNat,neg&&decide ((val l).toNat≠0)):=by
 unfold BC;simp only[IE hb,za0,Qn];rw[CO h,Nt];cases neg<;>rfl
def big(z:Int):Bool×List Int:=(decide (z<0),lim z.natAbs)
theorem pm{x y:Int}(h:big x=big y):x=y:=by
 unfold big at h;have h1:=congrArg Prod.fst h;have h2:=congrArg Prod.snd h;simp only at h1 h2;have h3:x.natAbs=y.natAbs:=by
  have:=congrArg val h2;rw[As,As]at this;omega
 by_cases hx:x<0<;>by_cases hy:y<0<;>simp[hx,hy]at h1<;>omega
def HE(b:Bool×List Int):Bool:=(b.2.all fun x=>decide (0<=x)&&decide (x<=65535))&&(match b.2.getLast? with|none=> !b.1|some x=>decide (b.2.length<=40)&&(x != 0))
theorem I8{b:Bool×List Int}:HE b=true↔∃z:Int,(z.natAbs:Int)<B 40/\b=big z:=by
 obtain⟨neg,l⟩:=b;unfold HE;simp only[za2,za5,decide_eq_true_eq];constructor
 ·rintro⟨h1,h2⟩;have hl:LB l:=fun x hx=>by have:=h1 x hx;omega
  cases hg:l.getLast? with
  |none=>
   rw[hg]at h2;have:l=[]:=List.getLast?_eq_none_iff.1 hg;subst this;have hn:neg=false:=by simpa using h2
   subst hn;exact⟨0,by decide,by unfold big;simp[CH]⟩
  |some x=>
   rw[hg]at h2;simp only[za2,decide_eq_true_eq,bne_iff_ne]at h2;have hn:NB l:=fun y hy=>by rw[hg]at hy;cases hy;exact h2.2
   have hv:=wj hl hn;have h0:(val l).toNat≠0:=by
    intro h0;rw[h0,CH]at hv;rw[hv]at hg;simp at hg
   have hlt:((val l).toNat:Int)<B 40:=Ao.1 (by rw[<-hv];exact h2.1);refine⟨if neg then-((val l).toNat:Int)else((val l).toNat:Int),?_,?_⟩
   ·cases neg<;>simp<;>omega
   ·unfold big;cases neg
    ·simp only[zc9,if_false];rw[zq,zf4,<-hv]
    ·simp only[if_true];rw[zp,Int.natAbs_neg,zf4,<-hv]
 ·rintro⟨z,hz,h⟩;unfold big at h;have hn:neg=decide (z<0):=congrArg Prod.fst h;have hl:l=lim z.natAbs:=congrArg Prod.snd h;subst hl;refine⟨fun x hx=>by have:=AJ _ x hx;omega,?_⟩;cases hg:(lim z.natAbs).getLast? with
  |none=>
   have:lim z.natAbs=[]:=List.getLast?_eq_none_iff.1 hg;have:=KE.1 this;rw[hn];simp;omega
  |some x=>
   simp only[za2,decide_eq_true_eq,bne_iff_ne];exact⟨Ao.2 hz,VV _ x hg⟩
theorem KU{z:Int}(h:(z.natAbs:Int)<B 40):HE (big z)=true:=I8.2 ⟨z,h,rfl⟩
theorem eL(a b c:Int):AE a b c=some (decide (b<=a)&&decide (a<=c)):=by
 unfold AE;by_cases h:a>=b<;>simp[h]
theorem qP(a b c:Int):BT a b c=some (decide (b<=a)&&decide (a<=c)):=by
 unfold BT;by_cases h:a>=b<;>simp[h]
theorem Jr{k:Nat}{α:Type}{l:List α}{a:α}(h:l[k]? =some a):decide ((k:Int)<(l.length:Int))=true:=by have:=Dd h;simpa using this
theorem Ui{α:Type}(l:List α):decide ((l.length:Int)<(l.length:Int))=false:=by simp
theorem gy{l:List Int}(hb:Az l):AM l=some (!(l.all fun x=>decide (0<=x)&&decide (x<=65535))):=by
 unfold AM Db;unfold Az at hb;have key:=Fc (body:=fun(s:List Int×Int×Int)=>Bc s.1 s.2.1 s.2.2) (l:=l) (st:=fun k=>(l,(l.length:Int),(k:Int))) (p:=fun x=>decide (0<=x)&&decide (x<=65535)) (fin:=.inl ()) (bad:=fun k=>.inr (k:Int))
  (fun k a hk hp=>by
   have:=Dd hk;unfold Bc Jh;simp only[Jr hk,cond_true,Af,hk,za0,eL,hp,zf5,cond_false,Aw (show k<4611686018427387904 by omega)])
  (fun k a hk hp=>by
   unfold Bc Jh;simp only[Jr hk,cond_true,Af,hk,za0,eL,hp,Bool.not_false])
  (by unfold Bc;simp only[Ui,cond_false])
 cases hall:l.all fun x=>decide (0<=x)&&decide (x<=65535)with
 |true=>
  have h:=key.1 hall;rw[show((0:Nat):Int)=0 from rfl]at h;simp only[h,za0,zg0];rfl
 |false=>
  obtain⟨k,_,h⟩:=key.2 hall;rw[show((0:Nat):Int)=0 from rfl]at h;simp only[h,za0,za6];have:decide ((k:Int)>=0)=true:=by simp
  rw[this];rfl
theorem XE{l:List Int}{x:Int}(h:l.getLast?=some x):l.length≠0/\AA l ((l.length:Int)-1)=some x:=by
 have hne:l≠[]:=by intro h0;subst h0;simp at h
 obtain⟨m,y,rfl⟩:=qU hne;rw[List.getLast?_append]at h;simp at h;subst h;refine⟨by simp,?_⟩;have:(((m++[y]).length:Nat):Int)-1=(m.length:Int):=by simp
 rw[this,Af];simp
theorem VI{b:Bool×List Int}(hb:Az b.2):Jy b=some (HE b):=by
 obtain⟨neg,l⟩:=b;unfold Jy HE;have hb':=hb;unfold Az at hb';simp only at hb hb'⊢
 rw[Ae,gy hb];cases hg:l.getLast? with
 |none=>
  have:l=[]:=List.getLast?_eq_none_iff.1 hg;subst this;cases neg<;>rfl
 |some x=>
  obtain⟨h0,h1⟩:=XE hg;have e0:(((l.length:Nat):Int)==0)=false:=beq_eq_false_iff_ne.2 (by omega);have e1:decide (((l.length:Nat):Int)>0)=true:=zp (by omega);by_cases h40:l.length<=40
  ·have e2:decide (((l.length:Nat):Int)>40)=false:=zq (by omega);simp only[e2,e0,e1,cond_false,cond_true,h1,za0,Bool.not_not,zp h40,ze2];by_cases hx:x=0
   ·subst hx;simp
   ·rw[beq_eq_false_iff_ne.2 hx];simp[hx]
  ·have e2:decide (((l.length:Nat):Int)>40)=true:=zp (by omega);simp only[e2,cond_true,zq h40,zf8,Bool.and_false]
theorem Wc{b:Bool×List Int}(hb:Az b.2):Hy b=some (HE b):=by
 obtain⟨neg,l⟩:=b;unfold Hy HE;have hb':=hb;unfold Az at hb';simp only at hb hb'⊢
 have key:=Fc (body:=fun(s:(Bool×List Int)×List Int×Int×Int)=>GL s.1 s.2.1 s.2.2.1 s.2.2.2) (l:=l) (st:=fun k=>((neg,l),l,(l.length:Int),(k:Int))) (p:=fun x=>decide (0<=x)&&decide (x<=65535)) (fin:=.inl (neg,l)) (bad:=fun k=>.inr false)
  (fun k a hk hp=>by
   have:=Dd hk;unfold GL;simp only[Jr hk,cond_true,Af,hk,za0,qP,hp,zf5,cond_false,Aw (show k<4611686018427387904 by omega)])
  (fun k a hk hp=>by
   unfold GL;simp only[Jr hk,cond_true,Af,hk,za0,qP,hp,Bool.not_false])
  (by unfold GL;simp only[Ui,cond_false])
 rw[show((0:Nat):Int)=0 from rfl]at key;cases hall:l.all fun x=>decide (0<=x)&&decide (x<=65535)with
 |false=>obtain⟨k,_,h⟩:=key.2 hall;rw[h];rfl
 |true=>
  rw[key.1 hall];simp only[za0,zg0,ze2];rw[Ae];cases hg:l.getLast? with
  |none=>
   have:l=[]:=List.getLast?_eq_none_iff.1 hg;subst this;rfl
  |some x=>
   obtain⟨h0,h1⟩:=XE hg;have e0:(((l.length:Nat):Int)==0)=false:=beq_eq_false_iff_ne.2 (by omega);simp only[e0,cond_false,h1,za0];by_cases h40:l.length<=40
   ·rw[zp (show((l.length:Nat):Int)<=40 by omega),zp h40];rfl
   ·rw[zq (show ¬((l.length:Nat):Int)<=40 by omega),zq h40];rfl
theorem vB{l:List (Bool×List Int)}(hl:l.length<=1000)(hb:∀b∈l,Az b.2):K6 l=some (l.all HE):=by
 unfold K6 B3 CA;have key:=Fc (body:=fun(s:(List (Bool×List Int))×Int×Int)=>A0 s.1 s.2.1 s.2.2) (l:=l) (st:=fun k=>(l,(l.length:Int),(k:Int))) (p:=HE) (fin:=.inl ()) (bad:=fun k=>.inr (k:Int))
  (fun k a hk hp=>by
   have:=Dd hk;unfold A0 Km;simp only[Jr hk,cond_true,Af,hk,za0,VI (hb a (za3 hk)),hp,zf5,cond_false,Aw (show k<4611686018427387904 by omega)])
  (fun k a hk hp=>by
   unfold A0 Km;simp only[Jr hk,cond_true,Af,hk,za0,VI (hb a (za3 hk)),hp,Bool.not_false])
  (by unfold A0;simp only[Ui,cond_false])
 rw[show((0:Nat):Int)=0 from rfl]at key;cases hall:l.all HE with
 |true=>rw[key.1 hall];rfl
 |false=>
  obtain⟨k,_,h⟩:=key.2 hall;rw[h];simp only[za0,za6];have:decide ((k:Int)>=0)=true:=by simp
  rw[this];rfl
def Dt(a b:Int):Int:=if a<b then-1 else if b<a then 1 else 0
theorem EY{a b:Int}(h:a<b:=by omega):Dt a b= -1:=by unfold Dt;rw[zr h]
theorem Hc{a b:Int}(h:b<a:=by omega):Dt a b=1:=by unfold Dt;rw[zw (by omega),zr h]
theorem QX(a:Int):Dt a a=0:=by unfold Dt;simp
theorem Co(a b:Int):(Dt a b= -1/\a<b)\/(Dt a b=1/\b<a)\/(Dt a b=0/\a=b):=by unfold Dt;split<;>(try split)<;>omega
theorem VH(a b:Int):C2 a b=some (Dt a b):=by
 unfold C2 G8 Dt;by_cases h1:a<b<;>by_cases h2:b<a<;>simp[h1,h2]
theorem kU{k:Nat}{d:Int}(h:d<= -1):B k*d<= -B k:=by
 have:=zb4 h (ze9 (Hr k));omega
theorem pw{l m:List Int}(hl:LB l)(hm:LB m){k:Nat}{x y:Int}(hx:l[k]? =some x)(hy:m[k]? =some y)(hd:l.drop (k+1)=m.drop (k+1)):(x<y->val l<val m)/\(y<x->val m<val l):=by
 have kl:=Dd hx;have km:=Dd hy;have e1:=Wm l k (by omega);have e2:=Wm m k (by omega);have d1:l.drop k=x::l.drop (k+1):=by rw[za9 kl];congr 1;rw[za1 kl]at hx;exact zv hx
 have d2:m.drop k=y::m.drop (k+1):=by rw[za9 km];congr 1;rw[za1 km]at hy;exact zv hy
 rw[d1]at e1;rw[d2,<-hd]at e2;simp only[val]at e1 e2;have t1:=AY (hl.take k);have t2:=AY (hm.take k);have t3:=QC (hl.take k);have t4:=QC (hm.take k);rw[zd9,Nat.min_eq_left (by omega)]at t3 t4;rw[ze3]at e1 e2;constructor
 ·intro h;have:=kU (k:=k) (show x-y<= -1 by omega);rw[Int.mul_sub]at this;omega
 ·intro h;have:=kU (k:=k) (show y-x<= -1 by omega);rw[Int.mul_sub]at this;omega
theorem Yr{a b:Nat}:((lim a).length<(lim b).length->a<b):=by
 intro h;rcases zd8 a b with h1|h1
 ·exact h1
 ·exfalso;have h2:=(Ao (n:=a) (k:=(lim a).length)).1 (za7 _);have:=(Ao (n:=b) (k:=(lim a).length)).2 (by omega);omega
section
variable {l m:List Int} (hl:LB l) (hm:LB m) (hlen:l.length=m.length) (hb:Az l)
include hl hm hlen hb
theorem nJ:(val l=val m->Ad (fun(s:List Int×List Int×Int)=>Bf s.1 s.2.1 s.2.2) (l,m,(l.length:Int)-1)=some (.inl ()))/\
  (val l≠val m->Ad (fun(s:List Int×List Int×Int)=>Bf s.1 s.2.1 s.2.2) (l,m,(l.length:Int)-1)=some (.inr (Dt (val l) (val m)))):=by
 unfold Az at hb;have key:∀(n:Nat),n<=l.length->l.drop n=m.drop n->(l=m->Ad (fun(s:List Int×List Int×Int)=>Bf s.1 s.2.1 s.2.2) (l,m,(n:Int)-1)=some (.inl ()))/\(l≠m->Ad (fun(s:List Int×List Int×Int)=>Bf s.1 s.2.1 s.2.2) (l,m,(n:Int)-1)=some (.inr (Dt (val l) (val m)))/\val l≠val m):=by
  intro n
  induction n with
  |zero=>
   intro _ h;simp only[ze5]at h;refine⟨fun _=>Ak rfl,fun hn=>absurd h hn⟩
  |succ n ih=>
   intro hn h;have k1:n<l.length:=by omega
   have k2:n<m.length:=by omega
   have hx:l[n]? =some l[n]:=za1 k1;have hy:m[n]? =some m[n]:=za1 k2;have hs:((n+1:Nat):Int)-1=(n:Int):=by omega
   rw[hs];by_cases he:l[n]=m[n]
   ·have hd:l.drop n=m.drop n:=by rw[za9 k1,za9 k2,he,h]
    have hstep:Bf l m (n:Int)=some (.inl (l,m,(n:Int)-1)):=by
     unfold Bf;rw[zp (show(n:Int)>=0 by omega),Af,Af,hx,hy,Ae];simp only[cond_true,za0,he,bne_self_eq_false,cond_false]
    obtain⟨i1,i2⟩:=ih (by omega) hd;exact⟨fun hh=>by rw[AP hstep];exact i1 hh,fun hh=>by rw[AP hstep];exact i2 hh⟩
   ·obtain⟨c1,c2⟩:=pw hl hm hx hy h;have hne:l≠m:=fun hh=>he (by subst hh;rfl)
    have hc:Dt l[n] m[n]=Dt (val l) (val m):=by
     rcases Int.lt_or_gt_of_ne he with h1|h1
     ·rw[EY h1,EY (c1 h1)]
     ·rw[Hc h1,Hc (c2 h1)]
    have hstep:Bf l m (n:Int)=some (.inr (.inr (Dt (val l) (val m)))):=by
     unfold Bf;rw[zp (show(n:Int)>=0 by omega),Af,Af,hx,hy];have hb:(l[n] != m[n])=true:=by simpa using he
     simp only[cond_true,za0,hb,VH,hc]
    refine⟨fun hh=>absurd hh hne,fun _=>⟨Ak hstep,?_⟩⟩;rcases Int.lt_or_gt_of_ne he with h1|h1
    ·have:=c1 h1;omega
    ·have:=c2 h1;omega
 obtain⟨h1,h2⟩:=key l.length (za7 _) (by rw[List.drop_length,hlen,List.drop_length]);constructor
 ·intro hv;by_cases he:l=m
  ·exact h1 he
  ·exact absurd hv (h2 he).2
 ·intro hv;exact(h2 fun he=>hv (by rw[he])).1
theorem oC:(val l=val m->Ad (fun(s:List Int×List Int×Int)=>DU s.1 s.2.1 s.2.2) (l,m,(l.length:Int)-1)=some (.inl ()))/\
  (val l≠val m->Ad (fun(s:List Int×List Int×Int)=>DU s.1 s.2.1 s.2.2) (l,m,(l.length:Int)-1)=some (.inr (Dt (val l) (val m)))):=by
 unfold Az at hb;have key:∀(n:Nat),n<=l.length->l.drop n=m.drop n->(l=m->Ad (fun(s:List Int×List Int×Int)=>DU s.1 s.2.1 s.2.2) (l,m,(n:Int)-1)=some (.inl ()))/\(l≠m->Ad (fun(s:List Int×List Int×Int)=>DU s.1 s.2.1 s.2.2) (l,m,(n:Int)-1)=some (.inr (Dt (val l) (val m)))/\val l≠val m):=by
  intro n
  induction n with
  |zero=>
   intro _ h;simp only[ze5]at h;refine⟨fun _=>Ak rfl,fun hn=>absurd h hn⟩
  |succ n ih=>
   intro hn h;have k1:n<l.length:=by omega
   have k2:n<m.length:=by omega
   have hx:l[n]? =some l[n]:=za1 k1;have hy:m[n]? =some m[n]:=za1 k2;have hs:((n+1:Nat):Int)-1=(n:Int):=by omega
   rw[hs];by_cases he:l[n]=m[n]
   ·have hd:l.drop n=m.drop n:=by rw[za9 k1,za9 k2,he,h]
    have hstep:DU l m (n:Int)=some (.inl (l,m,(n:Int)-1)):=by
     unfold DU;rw[zp (show(n:Int)>=0 by omega),Af,Af,hx,hy,Ae];simp only[cond_true,za0,he];rw[zq (Int.lt_irrefl _)];rfl
    obtain⟨i1,i2⟩:=ih (by omega) hd;exact⟨fun hh=>by rw[AP hstep];exact i1 hh,fun hh=>by rw[AP hstep];exact i2 hh⟩
   ·obtain⟨c1,c2⟩:=pw hl hm hx hy h;have hne:l≠m:=fun hh=>he (by subst hh;rfl)
    have hstep:DU l m (n:Int)=some (.inr (.inr (Dt (val l) (val m)))):=by
     unfold DU;rw[zp (show(n:Int)>=0 by omega),Af,Af,hx,hy];simp only[cond_true,za0];rcases Int.lt_or_gt_of_ne he with h1|h1
     ·rw[zp h1,EY (c1 h1)];rfl
     ·rw[zq,zp h1,Hc (c2 h1)];rfl
    refine⟨fun hh=>absurd hh hne,fun _=>⟨Ak hstep,?_⟩⟩;rcases Int.lt_or_gt_of_ne he with h1|h1
    ·have:=c1 h1;omega
    ·have:=c2 h1;omega
 obtain⟨h1,h2⟩:=key l.length (za7 _) (by rw[List.drop_length,hlen,List.drop_length]);constructor
 ·intro hv;by_cases he:l=m
  ·exact h1 he
  ·exact absurd hv (h2 he).2
 ·intro hv;exact(h2 fun he=>hv (by rw[he])).1
end
theorem Iv{a b:Nat}(ha:Az (lim a))(hb:Az (lim b)):B8 (lim a) (lim b)=some (Dt a b):=by
 unfold B8;have ha':=ha;have hb':=hb;unfold Az at ha' hb';by_cases h:(lim a).length=(lim b).length
 ·have e:((((lim a).length:Nat):Int) != (((lim b).length:Nat):Int))=false:=by simp[h]
  rw[e,Ae];simp only[cond_false];obtain⟨h1,h2⟩:=nJ (AJ a) (AJ b) h ha;rw[As,As]at h1 h2;by_cases hv:(a:Int)=b
  ·rw[h1 hv,hv,QX];rfl
  ·rw[h2 hv];rfl
 ·have e:((((lim a).length:Nat):Int) != (((lim b).length:Nat):Int))=true:=by simp;omega
  rw[e];simp only[cond_true,VH,za0];rcases Nat.lt_or_gt_of_ne h with h1|h1
  ·have:=Yr h1;rw[EY,EY]
  ·have:=Yr h1;rw[Hc,Hc]
theorem Rh{a b:Nat}(ha:Az (lim a))(hb:Az (lim b)):CK (lim a) (lim b)=some (Dt a b):=by
 unfold CK;have ha':=ha;have hb':=hb;unfold Az at ha' hb';by_cases h:(lim a).length=(lim b).length
 ·have e:((((lim a).length:Nat):Int) != (((lim b).length:Nat):Int))=false:=by simp[h]
  rw[e,Ae];simp only[cond_false];obtain⟨h1,h2⟩:=oC (AJ a) (AJ b) h ha;rw[As,As]at h1 h2;by_cases hv:(a:Int)=b
  ·rw[h1 hv,hv,QX];rfl
  ·rw[h2 hv];rfl
 ·have e:((((lim a).length:Nat):Int) != (((lim b).length:Nat):Int))=true:=by simp;omega
  rw[e];simp only[cond_true];rcases Nat.lt_or_gt_of_ne h with h1|h1
  ·have:=Yr h1;rw[zp,EY];rfl
  ·have:=Yr h1;rw[zq,Hc];rfl
def dg(l:List Int)(k:Nat):Int:=l.getD k 0
theorem Hk{l:List Int}{k:Nat}{x:Int}(h:l[k]? =some x):dg l k=x:=by unfold dg;rw[zc0,h];rfl
theorem J1{l:List Int}{k:Nat}(h:l.length<=k:=by omega):dg l k=0:=by unfold dg;rw[zc0,List.getElem?_eq_none h];rfl
theorem Bd{l:List Int}(h:LB l)(k:Nat):0<=dg l k/\dg l k<65536:=by
 rcases zd8 k l.length with hk|hk
 ·rw[Hk (za1 hk)];exact h _ (List.getElem_mem _)
 ·rw[J1 hk];omega
theorem A5(l:List Int)(k:Nat):val (l.take (k+1))=val (l.take k)+B k*dg l k:=by
 rcases zd8 k l.length with hk|hk
 ·have he:=za1 hk;rw[ze7,he,Hk he,Option.toList_some,ND,zd9,Nat.min_eq_left (by omega)]
 ·rw[J1 hk,zc3 (by omega),zc3 hk];omega
theorem Nz{l:List Int}(k:Nat):Ef l (k:Int)=some (dg l k):=by
 unfold Ef;rcases zd8 k l.length with hk|hk
 ·rw[zp,Af,za1 hk,Hk (za1 hk)];rfl
 ·rw[zq,J1 hk];rfl
theorem jG{l:List Int}{x:Int}(h:l.length<=100000000:=by omega):BV 8 1 l [x]=some (l++[x]):=Bu (by simp[Aa];omega) (by simp[Aa];omega)
theorem iA{a b:List Int}(ha:LB a)(hb:LB b)(na:a.length<=10000000)(nb:b.length<=10000000):
  ∃r,Ia a b=some r/\LB r/\val r=val a+val b/\r.length<=max a.length b.length+1/\(r.length<=max a.length b.length\/B (max a.length b.length)<=val a+val b):=by
 unfold Ia;obtain⟨r,h1,h2⟩:=GY (f:=fun(s:List Int×List Int×List Int×Int×Int)=>Et s.1 s.2.1 s.2.2.1 s.2.2.2.1 s.2.2.2.2)
  (I:=fun s=>∃(k:Nat)(out:List Int)(c:Int),s=(out,a,b,c,(k:Int))/\out.length=k/\k<=max a.length b.length+1/\LB out/\(c=0\/c=1)/\(k=max a.length b.length+1->c=0/\B (max a.length b.length)<=val a+val b)/\val out+B k*c=val (a.take k)+val (b.take k))
  (R:=fun r=>LB r/\val r=val a+val b/\r.length<=max a.length b.length+1/\(r.length<=max a.length b.length\/B (max a.length b.length)<=val a+val b)) (fun s=>max a.length b.length+2-s.1.length) (by
   rintro s ⟨k,out,c,rfl,h1,h2,h3,h4,h4',h5⟩;simp only;have da:=Bd ha k;have db:=Bd hb k;have go:k<max a.length b.length\/c=1->∃c',Et out a b c (k:Int)=some (.inl (out++[(dg a k+dg b k+c)%65536],a,b,c',((k+1:Nat):Int)))/\c'=(dg a k+dg b k+c)/65536:=by
    intro hgo;refine⟨_,?_,rfl⟩;have hkk:k<=max a.length b.length:=by rcases hgo with h|h<;>omega
    unfold Et;have hcond:(bif decide ((k:Int)<((a.length:Nat):Int))then some (zb (α:=(List Int×List Int×List Int×Int×Int)⊕List Int) (out,a,b,c,(k:Int)))else bif decide ((k:Int)<((b.length:Nat):Int))then some (zb (out,a,b,c,(k:Int)))else bif decide (c>0)then some (zb (out,a,b,c,(k:Int)))else some (zy (zb out)))=some (zb (out,a,b,c,(k:Int))):=by
     by_cases c1:(k:Int)<(a.length:Int)
     ·rw[zp c1];rfl
     ·by_cases c2:(k:Int)<(b.length:Int)
      ·rw[zq c1,zp c2];rfl
      ·have:c>0:=by rcases hgo with h|h<;>omega
       rw[zq c1,zq c2,zp this];rfl
    rw[hcond];simp only[za0,za6,Nz];rw[Ae (n:=dg a k+dg b k),Ae (n:=dg a k+dg b k+c),zc6 (by omega),zc7 (by omega),Ae,jG,Aw];rfl
   by_cases hgo:k<max a.length b.length\/c=1
   ·obtain⟨c',e1,e2⟩:=go hgo;clear go;have hkk:k<=max a.length b.length:=by
     rcases hgo with h|h
     ·omega
     ·rcases zd8 (max a.length b.length) k with h6|h6
      ·have:=h4' (by omega);omega
      ·exact h6
    refine .inl ⟨_,e1,⟨k+1,_,c',rfl,by simp[h1],by omega,h3.append (LB.cons (by omega) LB.nil),by omega,?_,?_⟩,by simp;omega⟩
    ·intro hk;have:k=max a.length b.length:=by omega
     rw[J1,J1]at e2;refine⟨by omega,?_⟩;have hc1:c=1:=by omega
     rw[hc1,zc3 (by omega),zc3 (by omega),this]at h5;have:=AY h3;omega
    ·rw[ND,h1,A5,A5];have:B (k+1)*c'=B k*(65536*c'):=by simp only[B];rw[Int.mul_comm 65536 (B k),Int.mul_assoc]
     rw[this];have hq:(dg a k+dg b k+c)%65536+65536*c'=dg a k+dg b k+c:=by omega
     have:B k*((dg a k+dg b k+c)%65536)+B k*(65536*c')=B k*dg a k+B k*dg b k+B k*c:=by rw[<-ze3,hq,ze3,ze3]
     omega
   ·clear go;have hc:c=0:=by omega
    have hk:max a.length b.length<=k:=by omega
    subst hc;refine .inr ⟨out,?_,h3,?_,by omega,?_⟩
    ·unfold Et;rw[zq,zq];rfl
    ·rw[zc3 (by omega),zc3 (by omega)]at h5;omega
    ·rcases zd8 (max a.length b.length) k with h6|h6
     ·exact .inr (h4' (by omega)).2
     ·left;omega) ([],a,b,0,0) ⟨0,[],0,rfl,rfl,by omega,LB.nil,.inl rfl,by omega,by simp[val,B]⟩
 exact⟨r,by rw[h1];rfl,h2⟩
theorem nI{a b:List Int}(ha:LB a)(hb:LB b)(na:a.length<=10000000)(nb:b.length<=10000000):
  ∃r,Kl a b=some r/\LB r/\val r=val a+val b/\r.length<=max a.length b.length+1:=by
 unfold Kl;have hM:wq [((a.length:Nat):Int),((b.length:Nat):Int)]=((max a.length b.length:Nat):Int):=by simp only[wq,List.foldl];split<;>omega
 obtain⟨r,h1,h2⟩:=GY (f:=fun(s:List Int×List Int×List Int×Int×Int)=>FI s.1 s.2.1 s.2.2.1 s.2.2.2.1 s.2.2.2.2)
  (I:=fun s=>∃(k:Nat)(out:List Int)(c:Int),s=(out,a,b,c,(k:Int))/\out.length=k/\k<=max a.length b.length+1/\LB out/\(c=0\/c=1)/\(k=max a.length b.length+1->c=0)/\val out+B k*c=val (a.take k)+val (b.take k))
  (R:=fun r=>LB r/\val r=val a+val b/\r.length<=max a.length b.length+1) (fun s=>max a.length b.length+2-s.1.length) (by
   rintro s ⟨k,out,c,rfl,h1,h2,h3,h4,h4',h5⟩;simp only;have da:=Bd ha k;have db:=Bd hb k;have go:k<max a.length b.length\/c=1->∃c',FI out a b c (k:Int)=some (.inl (out++[(dg a k+dg b k+c)%65536],a,b,c',((k+1:Nat):Int)))/\c'=(dg a k+dg b k+c)/65536:=by
    intro hgo;refine⟨_,?_,rfl⟩;have hkk:k<=max a.length b.length:=by rcases hgo with h|h<;>omega
    unfold FI;rw[hM];have hcond:(bif decide ((k:Int)<((max a.length b.length:Nat):Int))then some (zb (α:=(List Int×List Int×List Int×Int×Int)⊕List Int) (out,a,b,c,(k:Int)))else bif decide (c>0)then some (zb (out,a,b,c,(k:Int)))else some (zy (zb out)))=some (zb (out,a,b,c,(k:Int))):=by
     by_cases c1:(k:Int)<((max a.length b.length:Nat):Int)
     ·rw[zp c1];rfl
     ·have:c>0:=by rcases hgo with h|h<;>omega
      rw[zq c1,zp this];rfl
    rw[hcond];simp only[za0,za6];have s1:(bif decide ((k:Int)<((a.length:Nat):Int))then(AA a (k:Int)).bind fun x3=>some (zb (α:=(List Int×List Int×List Int×Int×Int)⊕List Int) (out,a,b,zi zj (c+x3),(k:Int)))else some (zb (out,a,b,c,(k:Int))))=some (zb (out,a,b,c+dg a k,(k:Int))):=by
     rcases zd8 k a.length with hk|hk
     ·rw[zp,Af,za1 hk,<-Hk (za1 hk)];simp only[cond_true,za0];rw[Ae]
     ·rw[zq,J1 hk];simp
    rw[s1];simp only[za0,za6];have s2:(bif decide ((k:Int)<((b.length:Nat):Int))then(AA b (k:Int)).bind fun x3=>some (zb (α:=(List Int×List Int×List Int×Int×Int)⊕List Int) (out,a,b,zi zj (c+dg a k+x3),(k:Int)))else some (zb (out,a,b,c+dg a k,(k:Int))))=some (zb (out,a,b,dg a k+dg b k+c,(k:Int))):=by
     rcases zd8 k b.length with hk|hk
     ·rw[zp,Af,za1 hk,<-Hk (za1 hk)];simp only[cond_true,za0];rw[Ae,show c+dg a k+dg b k=dg a k+dg b k+c by omega]
     ·rw[zq,J1 hk,show dg a k+0+c=c+dg a k by omega];rfl
    rw[s2];simp only[za0,za6];rw[zc6 (by omega),zc7 (by omega),Ae,jG,Aw];rfl
   by_cases hgo:k<max a.length b.length\/c=1
   ·obtain⟨c',e1,e2⟩:=go hgo;clear go;have hkk:k<=max a.length b.length:=by
     rcases hgo with h|h
     ·omega
     ·rcases zd8 (max a.length b.length) k with h6|h6
      ·have:=h4' (by omega);omega
      ·exact h6
    refine .inl ⟨_,e1,⟨k+1,_,c',rfl,by simp[h1],by omega,h3.append (LB.cons (by omega) LB.nil),by omega,?_,?_⟩,by simp;omega⟩
    ·intro hk;have:k=max a.length b.length:=by omega
     rw[J1,J1]at e2;omega
    ·rw[ND,h1,A5,A5];have:B (k+1)*c'=B k*(65536*c'):=by simp only[B];rw[Int.mul_comm 65536 (B k),Int.mul_assoc]
     rw[this];have hq:(dg a k+dg b k+c)%65536+65536*c'=dg a k+dg b k+c:=by omega
     have:B k*((dg a k+dg b k+c)%65536)+B k*(65536*c')=B k*dg a k+B k*dg b k+B k*c:=by rw[<-ze3,hq,ze3,ze3]
     omega
   ·clear go;have hc:c=0:=by omega
    have hk:max a.length b.length<=k:=by omega
    subst hc;refine .inr ⟨out,?_,h3,?_,by omega⟩
    ·unfold FI;rw[hM,zq];rfl
    ·rw[zc3 (by omega),zc3 (by omega)]at h5;omega) ([],a,b,0,0) ⟨0,[],0,rfl,rfl,by omega,LB.nil,.inl rfl,by omega,by simp[val,B]⟩
 exact⟨r,by rw[h1];rfl,h2⟩
theorem Xm{v:Int}(h: -65536<=v/\v<65536):0<=(if v<0 then v+65536 else v)/\(if v<0 then v+65536 else v)<65536/\(if v<0 then v+65536 else v)-65536*(if v<0 then 1 else 0)=v/\((if v<0 then 1 else 0:Int)=0\/(if v<0 then 1 else 0:Int)=1):=by
 split<;>omega
theorem ZH{k:Nat}{A Bv out d br br' v x y:Int}(h1:out-B k*br=A-Bv)(h2:d-65536*br'=v)(h3:v=x-y-br):out+B k*d-B (k+1)*br'=A+B k*x-(Bv+B k*y):=by
 have e1:B (k+1)*br'=B k*(65536*br'):=by simp only[B];rw[Int.mul_comm 65536 (B k),Int.mul_assoc]
 have e2:B k*d-B k*(65536*br')=B k*x-B k*y-B k*br:=by rw[<-Int.mul_sub,h2,h3,Int.mul_sub,Int.mul_sub]
 rw[e1];omega
theorem UJ{a b:List Int}(ha:LB a)(hb:LB b)(hlen:b.length<=a.length)(na:a.length<=10000000)(hle:val b<=val a):
  F1 a b=some (lim (val a-val b).toNat):=by
 unfold F1;obtain⟨r,h1,h2⟩:=GY (f:=fun(s:List Int×List Int×List Int×Int×Int×Int)=>Gk s.1 s.2.1 s.2.2.1 s.2.2.2.1 s.2.2.2.2.1 s.2.2.2.2.2)
  (I:=fun s=>∃(k:Nat)(out:List Int)(c:Int),s=(out,a,b,c,(a.length:Int),(k:Int))/\out.length=k/\k<=a.length/\LB out/\(c=0\/c=1)/\val out-B k*c=val (a.take k)-val (b.take k))
  (R:=fun r=>LB r/\val r=val a-val b/\r.length=a.length) (fun s=>a.length+1-s.1.length) (by
   rintro s ⟨k,out,c,rfl,h1,h2,h3,h4,h5⟩;simp only;by_cases hk:k<a.length
   ·have da:=Bd ha k;have db:=Bd hb k;have hg:=za1 hk;have hx:a[k]=dg a k:=(Hk hg).symm;have hv:=Xm (v:=dg a k-dg b k-c) (by omega);refine .inl ⟨(out++[if dg a k-dg b k-c<0 then dg a k-dg b k-c+65536 else dg a k-dg b k-c],a,b,(if dg a k-dg b k-c<0 then 1 else 0),(a.length:Int),((k+1:Nat):Int)),?_,⟨k+1,_,_,rfl,by simp[h1],by omega,h3.append (LB.cons (by omega) LB.nil),hv.2.2.2,?_⟩,by simp;omega⟩
    ·unfold Gk;rw[zp,Af,hg];simp only[cond_true,za0,Nz,hx];rw[Ae (n:=dg a k-dg b k),Ae (n:=dg a k-dg b k-c),Ae (n:=dg a k-dg b k-c+65536),Aw];by_cases hneg:dg a k-dg b k-c<0
     ·rw[zp hneg,zr hneg,zr hneg];simp only[cond_true];rw[jG];rfl
     ·rw[zq hneg,zw hneg,zw hneg];simp only[cond_false];rw[jG];rfl
    ·rw[ND,h1,A5,A5];exact ZH h5 hv.2.2.1 rfl
   ·have hk':k=a.length:=by omega
    refine .inr ⟨out,?_,h3,?_,by omega⟩
    ·unfold Gk;rw[zq];rfl
    ·rw[zc3 (by omega),zc3 (by omega)]at h5;have b1:=QC h3;have b2:=AY h3;rw[h1]at b1;rcases h4 with h4|h4
     ·subst h4;omega
     ·subst h4;omega) ([],a,b,0,(a.length:Int),0) ⟨0,[],0,rfl,rfl,by omega,LB.nil,.inl rfl,by simp[val,B]⟩
 rw[h1];simp only[za0];rw[IE (by unfold Az;omega)];simp only[za0];rw[CO h2.1,h2.2.1]
theorem ap{a b:List Int}(ha:LB a)(hb:LB b)(hlen:b.length<=a.length)(na:a.length<=10000000)(hle:val b<=val a):
  H2 a b=some (lim (val a-val b).toNat):=by
 unfold H2;rw[dV (by unfold Az;omega)];simp only[za0];obtain⟨r,h1,h2⟩:=GY (f:=fun(s:List Int×List Int×Int×Int×Int)=>HN s.1 s.2.1 s.2.2.1 s.2.2.2.1 s.2.2.2.2)
  (I:=fun s=>∃(k:Nat)(out:List Int)(c:Int),s=(out,b,c,(a.length:Int),(k:Int))/\out.length=a.length/\k<=a.length/\LB (out.take k)/\out.drop k=a.drop k/\(c=0\/c=1)/\val (out.take k)-B k*c=val (a.take k)-val (b.take k))
  (R:=fun r=>LB r/\val r=val a-val b/\r.length=a.length) (fun s=>(a.length+1-s.2.2.2.2).toNat) (by
   rintro s ⟨k,out,c,rfl,h1,h2,h3,h3',h4,h5⟩;simp only;by_cases hk:k<a.length
   ·have da:=Bd ha k;have db:=Bd hb k;have hg:=za1 hk;have hx:a[k]=dg a k:=(Hk hg).symm;have hko:k<out.length:=by omega
    have hox:out[k]? =some (dg a k):=by
     have e1:out.drop k=out[k]::out.drop (k+1):=za9 hko;have e2:a.drop k=a[k]::a.drop (k+1):=za9 hk;rw[za1 hko];rw[e1,e2]at h3';rw[(List.cons.inj h3').1,hx]
    have hv:=Xm (v:=dg a k-dg b k-c) (by omega);have hset:∀y:Int,(out.set k y)[k]? =some y:=fun y=>by rw[List.getElem?_set_self hko]
    have hdg:dg (out.set k (if dg a k-dg b k-c<0 then dg a k-dg b k-c+65536 else dg a k-dg b k-c)) k=(if dg a k-dg b k-c<0 then dg a k-dg b k-c+65536 else dg a k-dg b k-c):=Hk (hset _);have htk:(out.set k (if dg a k-dg b k-c<0 then dg a k-dg b k-c+65536 else dg a k-dg b k-c)).take k=out.take k:=List.take_set_of_le (za7 _);refine .inl ⟨(out.set k (if dg a k-dg b k-c<0 then dg a k-dg b k-c+65536 else dg a k-dg b k-c),b,(if dg a k-dg b k-c<0 then 1 else 0),(a.length:Int),((k+1:Nat):Int)),?_,⟨k+1,_,_,rfl,by simp[h1],by omega,?_,?_,hv.2.2.2,?_⟩,by simp;omega⟩
    ·unfold HN AN;have i1:AW (k:Int) out.length=some k:=AT hko;have i2:∀y:Int,AW (k:Int) (out.set k y).length=some k:=fun y=>by rw[List.length_set];exact i1
     rw[zp];simp only[cond_true,i1,za0,hox,i2,hset,Af];have hw1:=Aw (show k<4611686018427387904 by omega);rw[Ae (n:=dg a k-c)];have s1:(bif decide ((k:Int)<((b.length:Nat):Int))then(b[k]?).bind fun x6=>some (zb (α:=(List Int×List Int×Int×Int×Int)⊕List Int) ((out.set k (dg a k-c)).set k (zi zj (dg a k-c-x6)),b,(k:Int),(a.length:Int),(k:Int)))else some (zb (out.set k (dg a k-c),b,(k:Int),(a.length:Int),(k:Int))))=some (zb (out.set k (dg a k-dg b k-c),b,(k:Int),(a.length:Int),(k:Int))):=by
      rcases zd8 k b.length with hkb|hkb
      ·rw[zp,za1 hkb,<-Hk (za1 hkb)];simp only[cond_true,za0,List.set_set];rw[Ae,show dg a k-c-dg b k=dg a k-dg b k-c by omega]
      ·rw[zq,J1 hkb,show dg a k-0-c=dg a k-c by omega];rfl
     rw[s1];simp only[za0,za6,i2,hset,List.set_set,hw1];by_cases hneg:dg a k-dg b k-c<0
     ·rw[zp hneg,zr hneg,zr hneg,Ae];rfl
     ·rw[zq hneg,zw hneg,zw hneg];rfl
    ·rw[ze7,htk,hset];exact h3.append (LB.cons (by omega) LB.nil)
    ·rw[List.drop_set_of_lt (by omega)];have:out.drop (k+1)=(out.drop k).drop 1:=by rw[List.drop_drop]
     rw[this,h3',List.drop_drop]
    ·rw[A5 (out.set k _),A5 a,A5 b,htk,hdg];exact ZH h5 hv.2.2.1 rfl
   ·have hk':k=a.length:=by omega
    refine .inr ⟨out,?_,?_,?_,h1⟩
    ·unfold HN;rw[zq];rfl
    ·rw[zc3 (by omega)]at h3;exact h3
    ·rw[zc3 (by omega)]at h3 h5;rw[zc3 (by omega),zc3 (by omega)]at h5;have b1:=QC h3;have b2:=AY h3;rw[h1,<-hk']at b1;rcases h4 with h4|h4
     ·subst h4;omega
     ·subst h4;omega) (a,b,0,(a.length:Int),0) ⟨0,a,0,rfl,rfl,by omega,by rw[List.take_zero];exact LB.nil,rfl,.inl rfl,by simp[val,B]⟩
 rw[h1];simp only[za0];rw[eG (by unfold Az;omega)];simp only[za0];rw[CO h2.1,h2.2.1]
theorem HG{n k:Nat}(h:(n:Int)<B k)(hk:k<=1000000):(lim n).length<=1000000:=zf2 (Ao.2 h) hk
theorem eD{x y:Int}{k:Nat}(hk:k<=1000000)(hx:(x.natAbs:Int)<B k)(hy:(y.natAbs:Int)<B k):Jw (big x) (big y)=some (big (x+y)):=by
 have lx:=HG hx hk;have ly:=HG hy hk;unfold Jw big;simp only;by_cases hs:decide (x<0)=decide (y<0)
 ·rw[hs,beq_self_eq_true];obtain⟨r,e1,e2,e3,e4⟩:=nI (AJ x.natAbs) (AJ y.natAbs) (by omega) (by omega);rw[As,As]at e3;simp only[cond_true,e1,za0];rw[Jo e2 (by unfold Az;omega)];simp only[za0];have hv:(val r).toNat=(x+y).natAbs:=by
   by_cases h1:x<0
   ·have:y<0:=by simpa[h1]using hs
    omega
   ·have:¬y<0:=by simpa[h1]using hs
    omega
  rw[hv]
  congr 2
  by_cases h2:y<0
  ·have h1:x<0:=by simpa[h2]using hs
   rw[zp h2,zp (show x+y<0 by omega),zp (show(x+y).natAbs≠0 by omega)];rfl
  ·have h1:¬x<0:=by simpa[h2]using hs
   rw[zq h2,zq (show ¬x+y<0 by omega)];rfl
 ·have hb:(decide (x<0)==decide (y<0))=false:=by simpa using hs
  rw[hb];simp only[cond_false];rw[Iv (by unfold Az;omega) (by unfold Az;omega)];simp only[za0];have hxy:(x<0/\¬y<0)\/(¬x<0/\y<0):=by
   by_cases h1:x<0<;>by_cases h2:y<0<;>simp[h1,h2]at hs⊢
  rcases zd8 x.natAbs y.natAbs with hlt|hge
  ·rw[EY,zq];simp only[cond_false];have hl:(lim x.natAbs).length<=(lim y.natAbs).length:=Ao.2 (by have:=Ao.1 (za7 (lim y.natAbs).length);omega);rw[ap (AJ _) (AJ _) hl (by omega) (by rw[As,As];omega)];simp only[za0,As];have e:((y.natAbs:Int)-(x.natAbs:Int)).toNat=(x+y).natAbs:=by omega
   rw[e,Jo (AJ _) (by
    have:(lim (x+y).natAbs).length<=(lim y.natAbs).length:=Ao.2 (by have:=Ao.1 (za7 (lim y.natAbs).length);omega);unfold Az;omega)]
   simp only[za0,As,zc2]
   congr 2
   by_cases h2:y<0
   ·rw[zp h2,zp (show x+y<0 by omega),zp (show(x+y).natAbs≠0 by omega)];rfl
   ·rw[zq h2,zq (show ¬x+y<0 by omega)];rfl
  ·have hc:Dt (x.natAbs:Int) (y.natAbs:Int)>=0:=by unfold Dt;rw[zw (by omega)];split<;>omega
   rw[zp hc];simp only[cond_true];have hl:(lim y.natAbs).length<=(lim x.natAbs).length:=Ao.2 (by have:=Ao.1 (za7 (lim x.natAbs).length);omega);rw[ap (AJ _) (AJ _) hl (by omega) (by rw[As,As];omega)];simp only[za0,As];have e:((x.natAbs:Int)-(y.natAbs:Int)).toNat=(x+y).natAbs:=by omega
   rw[e,Jo (AJ _) (by
    have:(lim (x+y).natAbs).length<=(lim x.natAbs).length:=Ao.2 (by have:=Ao.1 (za7 (lim x.natAbs).length);omega);unfold Az;omega)]
   simp only[za0,As,zc2]
   congr 2
   by_cases h2:x<0
   ·rw[zp h2];by_cases h3:x+y<0
    ·rw[zp h3,zp (show(x+y).natAbs≠0 by omega)];rfl
    ·rw[zq h3,zq (show ¬(x+y).natAbs≠0 by omega)];rfl
   ·rw[zq h2,zq (show ¬x+y<0 by omega)];rfl
theorem R9{o x y c:Int}(ho:0<=o/\o<65536)(hx:0<=x/\x<65536)(hy:0<=y/\y<65536)(hc:0<=c/\c<65536):
  (0<=x*y/\x*y<=4294836225)/\0<=(o+x*y+c)/65536/\(o+x*y+c)/65536<65536/\0<=(o+x*y+c)%65536/\(o+x*y+c)%65536<65536/\(o+x*y+c)%65536+65536*((o+x*y+c)/65536)=o+x*y+c:=by
 have h1:0<=x*y:=zf6 hx.1 hy.1;have h2:x*y<=65535*65535:=Int.le_trans (zb4 (show y<=65535 by omega) hx.1) (zb1 (show x<=65535 by omega) (by omega));omega
theorem lM{out:List Int}{p:Nat}{o d c c' t V:Int}(ho:out[p]? =some o)(hd:d+65536*c'=o+t+c)(hV:val out+B p*c=V):val (out.set p d)+B (p+1)*c'=V+B p*t:=by
 rw[Hd ho];have e1:B (p+1)*c'=B p*(65536*c'):=by simp only[B];rw[Int.mul_comm 65536 (B p),Int.mul_assoc]
 have e2:B p*d+B p*(65536*c')=B p*o+B p*t+B p*c:=by rw[<-ze3,hd,ze3,ze3]
 rw[e1,Int.mul_sub];omega
theorem Am{l:List Int}{k:Nat}(h:k<l.length:=by omega):l[k]? =some (dg l k):=by rw[za1 h,Hk (za1 h)]
theorem Cq{l:List Int}{k j:Nat}{x:Int}(h:k≠j:=by omega):dg (l.set k x) j=dg l j:=by
 unfold dg;rw[zc0,zc0,List.getElem?_set_ne h]
structure Row (out0 out:List Int) (i k:Nat) (c x:Int) (b:List Int):Prop where
 len:out.length=out0.length
 lb:LB out
 hi:∀j,i+k<=j->dg out j=dg out0 j
 c0:0<=c
 c1:c<65536
 v:val out+B (i+k)*c=val out0+B i*(x*val (b.take k))
theorem Row.start{out0:List Int}(h:LB out0)(i:Nat)(x:Int)(b:List Int):Row out0 out0 i 0 0 x b:=⟨rfl,h,fun _ _=>rfl,by omega,by omega,by simp[val]⟩
theorem Row.next{out0 out:List Int}{i k:Nat}{c x:Int}{b:List Int}(h:Row out0 out i k c x b)(hb:LB b)(hx:0<=x/\x<65536)(hk:i+k<out.length):
  Row out0 (out.set (i+k) ((dg out (i+k)+x*dg b k+c)%65536)) i (k+1) ((dg out (i+k)+x*dg b k+c)/65536) x b:=by
 have hs:=R9 (Bd h.lb (i+k)) hx (Bd hb k) ⟨h.c0,h.c1⟩;refine⟨by rw[List.length_set];exact h.len,h.lb.set ⟨hs.2.2.2.1,hs.2.2.2.2.1⟩,fun j hj=>by rw[Cq];exact h.hi j (by omega),hs.2.1,hs.2.2.1,?_⟩;have:=lM (Am hk) hs.2.2.2.2.2 h.v;rw[show i+(k+1)=i+k+1 by omega,this,A5,ze3,ze3];have:B (i+k)*(x*dg b k)=B i*(x*(B k*dg b k)):=by rw[S6];grind
 omega
theorem sH{a0 a1 a2:Bool×List Int}{out0:List Int}{i:Nat}{x:Int}(hx:0<=x/\x<65536)(h0:LB out0)(hb:LB a1.2)(hlen:i+a1.2.length<=out0.length)(ho:out0.length<=10000000)(s7:List Int)(s8 s9:Int):
  ∃out c,Ad (fun(s:(Bool×List Int)×(Bool×List Int)×(Bool×List Int)×List Int×Int×Int×Int×List Int×Int×Int×List Int×Int×Int)=>GJ s.1 s.2.1 s.2.2.1 s.2.2.2.1 s.2.2.2.2.1 s.2.2.2.2.2.1 s.2.2.2.2.2.2.1 s.2.2.2.2.2.2.2.1 s.2.2.2.2.2.2.2.2.1 s.2.2.2.2.2.2.2.2.2.1 s.2.2.2.2.2.2.2.2.2.2.1 s.2.2.2.2.2.2.2.2.2.2.2.1 s.2.2.2.2.2.2.2.2.2.2.2.2) ((a0.1,a0.2),(a1.1,a1.2),(a2.1,a2.2),out0,(i:Int),x,(0:Int),s7,s8,s9,a1.2,(((List.length a1.2):Nat):Int),(0:Int))=
   some ((a0.1,a0.2),(a1.1,a1.2),(a2.1,a2.2),out,(i:Int),c,s7,s8,s9)/\Row out0 out i a1.2.length c x a1.2:=by
 obtain⟨⟨out,c⟩,h1,h2⟩:=Bw (body:=fun(s:(Bool×List Int)×(Bool×List Int)×(Bool×List Int)×List Int×Int×Int×Int×List Int×Int×Int×List Int×Int×Int)=>GJ s.1 s.2.1 s.2.2.1 s.2.2.2.1 s.2.2.2.2.1 s.2.2.2.2.2.1 s.2.2.2.2.2.2.1 s.2.2.2.2.2.2.2.1 s.2.2.2.2.2.2.2.2.1 s.2.2.2.2.2.2.2.2.2.1 s.2.2.2.2.2.2.2.2.2.2.1 s.2.2.2.2.2.2.2.2.2.2.2.1 s.2.2.2.2.2.2.2.2.2.2.2.2)
  (st:=fun k (b:List Int×Int)=>((a0.1,a0.2),(a1.1,a1.2),(a2.1,a2.2),b.1,(i:Int),x,b.2,s7,s8,s9,a1.2,(((List.length a1.2):Nat):Int),(k:Int)))
  (fin:=fun b=>((a0.1,a0.2),(a1.1,a1.2),(a2.1,a2.2),b.1,(i:Int),b.2,s7,s8,s9))
  (I:=fun k b=>Row out0 b.1 i k b.2 x a1.2) (e:=a1.2.length)
  (by
   rintro k ⟨out,c⟩ hk hI;simp only at hI;have hl:=hI.len;have hp:i+k<out.length:=by omega
   have hs:=R9 (Bd hI.lb (i+k)) hx (Bd hb k) ⟨hI.c0,hI.c1⟩;have dl:=Bd hI.lb (i+k);have c0:=hI.c0;have c1:=hI.c1;refine⟨(_,_),?_,hI.next hb hx hp⟩;unfold GJ AN
   dsimp only
   have i1:AW ((i:Int)+(k:Int)) out.length=some (i+k):=by rw[show(i:Int)+(k:Int)=((i+k:Nat):Int) by omega];exact AT hp
   rw[zp,Ae (n:=(i:Int)+(k:Int))];simp only[cond_true,Af,Am hk,za0,i1,Am hp];rw[Ae (n:=x*dg a1.2 k),Ae (n:=dg out (i+k)+x*dg a1.2 k),Ae (n:=c+(dg out (i+k)+x*dg a1.2 k)),show c+(dg out (i+k)+x*dg a1.2 k)=dg out (i+k)+x*dg a1.2 k+c by omega,zc6 (by omega),zc7 (by omega),Ae (n:=(dg out (i+k)+x*dg a1.2 k+c)/65536),Aw])
  (by
   rintro⟨out,c⟩ _;unfold GJ
   dsimp only
   rw[zq];rfl) 0 (out0,0) (by omega) (Row.start h0 i x _)
 exact⟨out,c,h1,h2⟩
theorem EF{x y:Int}{k:Nat}(hk:k<=100000)(hx:(x.natAbs:Int)<B k)(hy:(y.natAbs:Int)<B k:=by omega):∃r,BM (big x) (big y)=some r/\(r.2,r.1)=big (x*y):=by
 have lx:=zf2 (Ao.2 hx) hk;have ly:=zf2 (Ao.2 hy) hk;unfold BM;generalize ha:lim x.natAbs=a at lx;generalize hb':lim y.natAbs=b at ly;have la:LB a:=ha▸AJ _;have lb:LB b:=hb'▸AJ _;have e1:(big x).2=a:=ha;have e2:(big y).2=b:=hb';rw[e1,e2,Ae,show((a.length:Nat):Int)+((b.length:Nat):Int)=((a.length+b.length:Nat):Int) by omega,JW (by unfold Aa;omega) (by unfold Aa;omega)];simp only[za0];obtain⟨out,h1,h2⟩:=Bw (body:=fun(s:(Bool×List Int)×(Bool×List Int)×(Bool×List Int)×List Int×List Int×Int×Int)=>Jf s.1 s.2.1 s.2.2.1 s.2.2.2.1 s.2.2.2.2.1 s.2.2.2.2.2.1 s.2.2.2.2.2.2)
  (st:=fun i (o:List Int)=>(((big x).1,a),((big y).1,b),(false,([]:List Int)),o,a,((a.length:Nat):Int),(i:Int)))
  (fin:=fun o=>(((big x).1,a),((big y).1,b),(false,([]:List Int)),o))
  (I:=fun i o=>o.length=a.length+b.length/\LB o/\(∀j,i+b.length<=j->dg o j=0)/\val o=val (a.take i)*val b) (e:=a.length)
  (by
   rintro i o hi ⟨h1,h2,h3,h4⟩;have hd:=Bd la i;obtain⟨o1,c,q1,q2⟩:=sH (a0:=((big x).1,a)) (a1:=((big y).1,b)) (a2:=(false,[])) hd h2 lb (show i+b.length<=o.length by omega) (show o.length<=10000000 by omega) a ((a.length:Nat):Int) (i:Int);simp only at q1 q2;have hl1:=q2.len;have hp:i+b.length<o1.length:=by omega
   have hz:dg o1 (i+b.length)=0:=by rw[q2.hi _ (za7 _),h3 _ (by omega)]
   have c0:=q2.c0;have c1:=q2.c1;refine⟨o1.set (i+b.length) c,?_,by rw[List.length_set];omega,q2.lb.set ⟨c0,c1⟩,fun j hj=> ?_,?_⟩
   ·unfold Jf AN
    dsimp only
    rw[zp,Af,Am hi];simp only[cond_true,za0];rw[q1];simp only[za0];have i1:AW ((i:Int)+((b.length:Nat):Int)) o1.length=some (i+b.length):=by rw[show(i:Int)+((b.length:Nat):Int)=((i+b.length:Nat):Int) by omega];exact AT hp
    rw[Ae (n:=(i:Int)+((b.length:Nat):Int)),i1];simp only[za0,Am hp,hz];rw[Ae (n:=0+c),Aw,Int.zero_add]
   ·rw[Cq,q2.hi j (by omega),h3 j (by omega)]
   ·rw[Hd (Am hp),hz,Int.sub_zero];have hv:=q2.v;rw[List.take_length]at hv;rw[A5,Int.add_mul,<-h4];have:B i*dg a i*val b=B i*(dg a i*val b):=Int.mul_assoc ..
    omega)
  (by
   rintro o _;unfold Jf
   dsimp only
   rw[zq];rfl) 0 (List.replicate (a.length+b.length) 0) (by omega) ⟨by simp,LB.zeros _,fun j _=>by
    unfold dg;rw[zc0,List.getElem?_replicate];split<;>rfl,by rw[GA];simp[val]⟩
 rw[show((0:Nat):Int)=0 from rfl]at h1;rw[h1];obtain⟨g1,g2,g3,g4⟩:=h2;rw[List.take_length]at g4;simp only[za0];rw[Jo g2 (by unfold Az;omega)];simp only[za0];refine⟨_,rfl,?_⟩;have hv:(val out).toNat=(x*y).natAbs:=by rw[g4,<-ha,<-hb',As,As,Int.natAbs_mul];omega
 rw[hv];unfold big
 congr 1
 by_cases hx0:x=0
 ·subst hx0;simp
 ·by_cases hy0:y=0
  ·subst hy0;simp
  ·have hne:(x*y).natAbs≠0:=by
    rw[Int.natAbs_mul];intro h;rcases Nat.mul_eq_zero.1 h with h|h<;>omega
   rw[zp hne];by_cases h1:x<0
   ·by_cases h2:y<0
    ·have:=Int.mul_pos_of_neg_of_neg h1 h2;rw[zp h1,zp h2,zq];rfl
    ·have:=Int.mul_neg_of_neg_of_pos h1 (show 0<y by omega);rw[zp h1,zq h2,zp];rfl
   ·by_cases h2:y<0
    ·have:=Int.mul_neg_of_pos_of_neg (show 0<x by omega) h2;rw[zq h1,zp h2,zp];rfl
    ·have:=Int.mul_pos (show 0<x by omega) (show 0<y by omega);rw[zq h1,zq h2,zq];rfl
theorem tS{out0 b:List Int}{i:Nat}{x:Int}(hx:0<=x/\x<65536)(h0:LB out0)(hb:LB b)(hlen:i+b.length<out0.length)(hz:∀j,i+b.length<=j->dg out0 j=0)(ho:out0.length<=10000000)(s6:List Int)(s7 s8:Int):
  ∃out,Ad (fun(s:List Int×List Int×Int×Int×Int×Int×List Int×Int×Int)=>Ey s.1 s.2.1 s.2.2.1 s.2.2.2.1 s.2.2.2.2.1 s.2.2.2.2.2.1 s.2.2.2.2.2.2.1 s.2.2.2.2.2.2.2.1 s.2.2.2.2.2.2.2.2) (out0,b,(i:Int),x,(0:Int),(0:Int),s6,s7,s8)=some (out,b,s6,s7,s8)/\
   out.length=out0.length/\LB out/\(∀j,i+1+b.length<=j->dg out j=0)/\val out=val out0+B i*(x*val b):=by
 obtain⟨r,h1,out,rfl,h2⟩:=GY (f:=fun(s:List Int×List Int×Int×Int×Int×Int×List Int×Int×Int)=>Ey s.1 s.2.1 s.2.2.1 s.2.2.2.1 s.2.2.2.2.1 s.2.2.2.2.2.1 s.2.2.2.2.2.2.1 s.2.2.2.2.2.2.2.1 s.2.2.2.2.2.2.2.2)
  (I:=fun s=>∃(k:Nat)(out:List Int)(c:Int),s=(out,b,(i:Int),x,c,(k:Int),s6,s7,s8)/\k<=b.length+1/\Row out0 out i k c x b/\(k=b.length+1->c=0))
  (R:=fun r=>∃out,r=(out,b,s6,s7,s8)/\out.length=out0.length/\LB out/\(∀j,i+1+b.length<=j->dg out j=0)/\val out=val out0+B i*(x*val b)) (fun s=>(b.length+2-s.2.2.2.2.2.1).toNat) (by
   rintro s ⟨k,out,c,rfl,hk,hR,hc⟩;simp only;have hl:=hR.len;have c0:=hR.c0;have c1:=hR.c1;by_cases hgo:k<b.length\/c>0
   ·have hkb:k<=b.length:=by
     rcases hgo with h|h
     ·omega
     ·rcases zd8 b.length k with h6|h6
      ·have:=hc (by omega);omega
      ·exact h6
    have hp:i+k<out.length:=by omega
    have hs:=R9 (Bd hR.lb (i+k)) hx (Bd hb k) ⟨c0,c1⟩;have dl:=Bd hR.lb (i+k);refine .inl ⟨(out.set (i+k) ((dg out (i+k)+x*dg b k+c)%65536),b,(i:Int),x,(dg out (i+k)+x*dg b k+c)/65536,((k+1:Nat):Int),s6,s7,s8),?_,⟨k+1,_,_,rfl,by omega,hR.next hb hx hp,fun he=> ?_⟩,by simp only;omega⟩
    ·unfold Ey AN;have hcond:(bif decide ((k:Int)<((b.length:Nat):Int))then some (zb (α:=(List Int×List Int×Int×Int×Int×Int×List Int×Int×Int)⊕(List Int×List Int×List Int×Int×Int)) (out,b,(i:Int),x,c,(k:Int),s6,s7,s8))else bif decide (c>0)then some (zb (out,b,(i:Int),x,c,(k:Int),s6,s7,s8))else some (zy (zb (out,b,s6,s7,s8))))=some (zb (out,b,(i:Int),x,c,(k:Int),s6,s7,s8)):=by
      by_cases g1:(k:Int)<(b.length:Int)
      ·rw[zp g1];rfl
      ·have:c>0:=by rcases hgo with h|h<;>omega
       rw[zq g1,zp this];rfl
     rw[hcond];have i1:AW ((i:Int)+(k:Int)) out.length=some (i+k):=by rw[show(i:Int)+(k:Int)=((i+k:Nat):Int) by omega];exact AT hp
     simp only[za0,za6];rw[Ae (n:=(i:Int)+(k:Int)),i1];simp only[za0,Am hp,Nz];rw[Ae (n:=x*dg b k),Ae (n:=dg out (i+k)+x*dg b k),Ae (n:=dg out (i+k)+x*dg b k+c),zc6 (by omega),zc7 (by omega),Ae (n:=(dg out (i+k)+x*dg b k+c)/65536),Aw]
    ·have hkb':k=b.length:=by omega
     have z1:dg b k=0:=J1 (by omega);have z2:dg out (i+k)=0:=by rw[hR.hi _ (za7 _),hz _ (by omega)]
     rw[z1,z2,Int.mul_zero];omega
   ·have hkb:b.length<=k:=by omega
    have hcz:c=0:=by omega
    subst hcz;refine .inr ⟨_,?_,out,rfl,hl,hR.lb,fun j hj=> ?_,?_⟩
    ·unfold Ey;rw[zq,zq];rfl
    ·rw[hR.hi j (by omega),hz j (by omega)]
    ·have:=hR.v;rw[zc3 hkb]at this;omega) (out0,b,(i:Int),x,(0:Int),(0:Int),s6,s7,s8) ⟨0,out0,0,rfl,by omega,Row.start h0 i x b,by omega⟩
 exact⟨out,h1,h2⟩
theorem iC{a b:List Int}(ha:LB a)(hb:LB b)(na:a.length<=100000)(nb:b.length<=100000):Id a b=some (lim (val a*val b).toNat):=by
 unfold Id;rw[Ae (n:=((a.length:Nat):Int)+((b.length:Nat):Int)),Ae,show((a.length:Nat):Int)+((b.length:Nat):Int)+1=((a.length+b.length+1:Nat):Int) by omega,JW (by unfold Aa;omega) (by unfold Aa;omega)];simp only[za0];obtain⟨out,h1,h2⟩:=Bw (body:=fun(s:List Int×List Int×List Int×Int×Int)=>Gj s.1 s.2.1 s.2.2.1 s.2.2.2.1 s.2.2.2.2)
  (st:=fun i (o:List Int)=>(o,b,a,((a.length:Nat):Int),(i:Int))) (fin:=fun o=>o)
  (I:=fun i o=>o.length=a.length+b.length+1/\LB o/\(∀j,i+b.length<=j->dg o j=0)/\val o=val (a.take i)*val b) (e:=a.length)
  (by
   rintro i o hi ⟨h1,h2,h3,h4⟩;have hd:=Bd ha i;obtain⟨o1,q1,q2,q3,q4,q5⟩:=tS hd h2 hb (show i+b.length<o.length by omega) h3 (by omega) a ((a.length:Nat):Int) (i:Int);refine⟨o1,?_,by omega,q3,q4,?_⟩
   ·unfold Gj
    dsimp only
    rw[zp,Af,Am hi];simp only[cond_true,za0];rw[q1];simp only[za0];rw[Aw]
   ·rw[q5,h4,A5,Int.add_mul];have:B i*dg a i*val b=B i*(dg a i*val b):=Int.mul_assoc ..
    omega)
  (by
   rintro o _;unfold Gj
   dsimp only
   rw[zq];rfl) 0 (List.replicate (a.length+b.length+1) 0) (by omega) ⟨by simp,LB.zeros _,fun j _=>by
    unfold dg;rw[zc0,List.getElem?_replicate];split<;>rfl,by rw[GA];simp[val]⟩
 rw[show((0:Nat):Int)=0 from rfl]at h1;rw[h1];obtain⟨g1,g2,g3,g4⟩:=h2;rw[List.take_length]at g4;simp only[za0];rw[IE (by unfold Az;omega)];simp only[za0];rw[CO g2,g4]
theorem xD{x y:Int}(h:(x*y).natAbs≠0):(!(decide (x<0)==decide (y<0)))=decide (x*y<0):=by
 have hx:x≠0:=by rintro rfl;simp at h
 have hy:y≠0:=by rintro rfl;simp at h
 by_cases h1:x<0
 ·by_cases h2:y<0
  ·have:=Int.mul_pos_of_neg_of_neg h1 h2;rw[zp h1,zp h2,zq];rfl
  ·have:=Int.mul_neg_of_neg_of_pos h1 (show 0<y by omega);rw[zp h1,zq h2,zp];rfl
 ·by_cases h2:y<0
  ·have:=Int.mul_neg_of_pos_of_neg (show 0<x by omega) h2;rw[zq h1,zp h2,zp];rfl
  ·have:=Int.mul_pos (show 0<x by omega) (show 0<y by omega);rw[zq h1,zq h2,zq];rfl
theorem cj(x y:Int):((!(decide (x<0)==decide (y<0)))&&decide ((x*y).natAbs≠0),lim (x*y).natAbs)=big (x*y):=by
 unfold big
 congr 1
 by_cases h:(x*y).natAbs≠0
 ·rw[xD h,zp h,Bool.and_true]
 ·rw[zq h,Bool.and_false,zq]
theorem KH{x y:Int}{k:Nat}(hk:k<=100000)(hx:(x.natAbs:Int)<B k)(hy:(y.natAbs:Int)<B k:=by omega):DO (big x) (big y)=some (big (x*y)):=by
 have lx:=zf2 (Ao.2 hx) hk;have ly:=zf2 (Ao.2 hy) hk;unfold DO;rw[show(big x).2=lim x.natAbs from rfl,show(big y).2=lim y.natAbs from rfl,iC (AJ _) (AJ _) lx ly];have e:(val (lim x.natAbs)*val (lim y.natAbs)).toNat=(x*y).natAbs:=by rw[As,As,Int.natAbs_mul];omega
 have hl:(lim (x*y).natAbs).length<=k+k:=by
  rw[Ao,Int.natAbs_mul,S6];have h1:=Hr k;have:((x.natAbs*y.natAbs:Nat):Int)=(x.natAbs:Int)*(y.natAbs:Int):=by simp
  rw[this];exact Int.lt_of_le_of_lt (zb1 (ze9 hx) (by omega)) (Int.mul_lt_mul_of_pos_left hy h1)
 simp only[za0];rw[e,G6 (AJ _) (by unfold Az;omega)];simp only[za0,As,zc2];rw[<-cj];rfl
theorem Cr(l:List Int)(h:Nat):val l=val (l.take h)+B h*val (l.drop h):=by
 rcases Nat.le_or_ge h l.length with hc|hc
 ·exact Wm l h hc
 ·rw[zc3 hc,zd2 hc];simp[val]
theorem Ar7{x y:Nat}{p q:Nat}(h1:(x:Int)<B p)(h2:(y:Int)<B q):((x*y:Nat):Int)<B (p+q):=by
 rw[S6,show((x*y:Nat):Int)=(x:Int)*(y:Int) by simp];exact Int.lt_of_le_of_lt (zb1 (ze9 h1) (by omega)) (Int.mul_lt_mul_of_pos_left h2 (Hr p))
theorem aC{n:Nat}(h:n≠0):lim n=((n%65536:Nat):Int)::lim (n/65536):=by
 conv=>lhs;unfold lim
 rw[dif_neg h]
theorem Um(s:Bool×List Int)(neg:Bool):∀(f:Nat)(n:Nat)(acc:List Int),n<=f->n<18446744073709551616->acc.length+(lim n).length<=10000->
  Ad (fun(s:(Bool×List Int)×List Int×Bool×Int)=>L7 s.1 s.2.1 s.2.2.1 s.2.2.2) (s,acc,neg,(n:Int))=some (s,acc++lim n,neg):=by
 intro f
 induction f with
 |zero=>
  intro n acc hn _ _;have:n=0:=by omega
  subst this;rw[CH,zf1];exact Ak rfl
 |succ f ih=>
  intro n acc hn h64 h2;by_cases h0:n=0
  ·subst h0;rw[CH,zf1];exact Ak rfl
  ·rw[aC h0]at h2⊢
   simp only[zb7]at h2;have hstep:L7 s acc neg (n:Int)=some (.inl (s,acc++[((n%65536:Nat):Int)],neg,((n/65536:Nat):Int))):=by
    unfold L7;rw[zp,zc6 (by omega),zc7 (by omega),Ae,bT];simp only[cond_true];rw[jG];simp only[za0];rw[show(n:Int)%65536=((n%65536:Nat):Int) by omega,show(n:Int)/65536=((n/65536:Nat):Int) by omega]
   have:=ih (n/65536) (acc++[((n%65536:Nat):Int)]) (by omega) (by omega) (by simp;omega);rw[AP hstep,this,ze6];rfl
theorem kP{n:Nat}(h:n<18446744073709551616):(lim n).length<=4:=Ao.2 (by have:B 4=18446744073709551616:=rfl;omega)
theorem Yv{n:Int}(h1: -9223372036854775808<=n:=by omega)(h2:n<=9223372036854775807:=by omega):Ez n=some (big n):=by
 unfold Ez;have hl:=kP (n:=n.natAbs) (by omega);by_cases h:n<0
 ·have e:zi zk (0-zi zk n)=(n.natAbs:Int):=by rw[IntKind.wrap_u64,IntKind.wrap_u64];omega
  rw[zp h];simp only[cond_true,za0,za6];rw[e,Um (false,[]) true n.natAbs n.natAbs [] (za7 _) (by omega) (by simp;omega)];unfold big;rw[zp h];rfl
 ·have e:zi zk n=(n.natAbs:Int):=by rw[IntKind.wrap_u64];omega
  rw[zq h];simp only[cond_false,za0,za6];rw[e,Um (false,[]) false n.natAbs n.natAbs [] (za7 _) (by omega) (by simp;omega)];unfold big;rw[zq h];rfl
theorem iq(s:Bool×List Int)(m:Int):∀(f:Nat)(n:Int)(acc:List Int),n.natAbs<=f-> -9223372036854775808<=n->n<=9223372036854775807->acc.length+(lim n.natAbs).length<=10000->
  Ad (fun(s:(Bool×List Int)×List Int×Int×Int)=>L8 s.1 s.2.1 s.2.2.1 s.2.2.2) (s,acc,m,n)=some (s,acc++lim n.natAbs,m):=by
 intro f
 induction f with
 |zero=>
  intro n acc hn _ _ _;have:n=0:=by omega
  subst this;rw[show(0:Int).natAbs=0 from rfl,CH,zf1];exact Ak rfl
 |succ f ih=>
  intro n acc hn h1 h2 h3;by_cases h0:n=0
  ·subst h0;rw[show(0:Int).natAbs=0 from rfl,CH,zf1];exact Ak rfl
  ·rw[aC (show n.natAbs≠0 by omega)]at h3⊢
   simp only[zb7]at h3;have hq:(Int.tdiv n 65536).natAbs=n.natAbs/65536:=by rw[Int.natAbs_tdiv];rfl
   have hq1: -9223372036854775808<=Int.tdiv n 65536/\Int.tdiv n 65536<=9223372036854775807:=by omega
   have hr:((Int.tmod n 65536).natAbs:Int)=((n.natAbs%65536:Nat):Int):=by rw[Int.natAbs_tmod];rfl
   have hstep:L8 s acc m n=some (.inl (s,acc++[((n.natAbs%65536:Nat):Int)],m,Int.tdiv n 65536)):=by
    unfold L8;have:(n != 0)=true:=by simpa using h0
    rw[this,Ae (n:=Int.tdiv n 65536)];simp only[cond_true];by_cases hneg:Int.tmod n 65536<0
    ·rw[zp hneg,Ae];simp only[cond_true];rw[jG,show(0:Int)-Int.tmod n 65536=((n.natAbs%65536:Nat):Int) by omega];rfl
    ·rw[zq hneg];simp only[cond_false];rw[jG,show Int.tmod n 65536=((n.natAbs%65536:Nat):Int) by omega];rfl
   have:=ih (Int.tdiv n 65536) (acc++[((n.natAbs%65536:Nat):Int)]) (by omega) hq1.1 hq1.2 (by rw[hq];simp;omega);rw[AP hstep,this,ze6,hq];rfl
theorem UG{n:Int}(h1: -9223372036854775808<=n:=by omega)(h2:n<=9223372036854775807:=by omega):Fk n=some (big n):=by
 unfold Fk;have hl:=kP (n:=n.natAbs) (by omega);rw[iq (false,[]) n n.natAbs n [] (za7 _) h1 h2 (by simp;omega)];simp only[za0,List.nil_append];rw[G6 (AJ _) (by unfold Az;omega)];simp only[za0,As,zc2];unfold big;by_cases h:n<0
 ·rw[zp h,zp (show n.natAbs≠0 by omega)];rfl
 ·rw[zq h];rfl
theorem gO(z:Int):BZ (big z)=some (Dt z 0):=by
 unfold BZ big;by_cases h0:z=0
 ·subst h0;rw[show(0:Int).natAbs=0 from rfl,CH];rfl
 ·have:((((lim z.natAbs).length:Nat):Int)==0)=false:=beq_eq_false_iff_ne.2 (by
   intro h;have h2:lim z.natAbs=[]:=zb2 (by omega);have:=KE.1 h2;omega)
  rw[this];by_cases h:z<0
  ·rw[zp h,EY h];rfl
  ·rw[zq h,Hc];rfl
theorem Ur{x y:Int}{k:Nat}(hk:k<=1000000)(hx:(x.natAbs:Int)<B k)(hy:(y.natAbs:Int)<B k):FV (big x) (big y)=some (Dt x y):=by
 have lx:=HG hx hk;have ly:=HG hy hk;unfold FV;have e1:BZ ((big x).1,(big x).2)=some (Dt x 0):=gO x;have e2:BZ ((big y).1,(big y).2)=some (Dt y 0):=gO y;simp only[e1,e2,za0,VH];have e3:B8 (big x).2 (big y).2=some (Dt (x.natAbs:Int) (y.natAbs:Int)):=Iv (by unfold Az;omega) (by unfold Az;omega);rw[e3];have cx:=Co x 0;have cy:=Co y 0;have c3:=Co (x.natAbs:Int) (y.natAbs:Int);have cxy:=Co x y;have cs:=Co (Dt x 0) (Dt y 0);by_cases h:Dt x 0=Dt y 0
 ·rw[h,bne_self_eq_false];simp only[cond_false,za0];rcases cy with⟨cy,_⟩|⟨cy,_⟩|⟨cy,_⟩<;>rw[cy]at h⊢ <;>rcases c3 with⟨c3,_⟩|⟨c3,_⟩|⟨c3,_⟩<;>rw[c3]<;>rw[Ae]<;>congr 1<;>omega
 ·have hb:(Dt x 0 != Dt y 0)=true:=by simpa using h
  rw[hb];simp only[cond_true]
  congr 1
  omega
theorem Vv{a q r by_:Int}(h:q*by_+r=a)(h0:0<=r)(h1:r<by_):q=a/by_/\r=a%by_:=by
 have:a=r+by_*q:=by rw[<-h,Int.mul_comm];omega
 subst this;constructor
 ·rw[Int.add_mul_ediv_left _ _ (by omega),Int.ediv_eq_zero_of_lt h0 h1];omega
 ·rw[Int.add_mul_emod_self_left,Int.emod_eq_of_lt h0 h1]
theorem Yf{a:List Int}{d:Int}(ha:LB a)(hd:1<=d/\d<=65536)(na:a.length<=10000000):
  ∃q r,Ad (fun(s:List Int×List Int×Int×Int×Int)=>FM s.1 s.2.1 s.2.2.1 s.2.2.2.1 s.2.2.2.2) (List.replicate a.length 0,a,d,0,(a.length:Int)-1)=some (q,r)/\LB q/\q.length=a.length/\0<=r/\r<d/\val q*d+r=val a:=by
 obtain⟨⟨q,r⟩,h1,h2⟩:=KP (body:=fun(s:List Int×List Int×Int×Int×Int)=>FM s.1 s.2.1 s.2.2.1 s.2.2.2.1 s.2.2.2.2)
  (st:=fun n (b:List Int×Int)=>(b.1,a,d,b.2,(n:Int)-1)) (fin:=fun b=>b)
  (I:=fun n b=>n<=a.length/\LB b.1/\b.1.length=a.length/\(∀j,j<n->dg b.1 j=0)/\0<=b.2/\b.2<d/\val b.1*d+B n*b.2=B n*val (a.drop n))
  (by
   rintro n ⟨q,r⟩ ⟨h1,h2,h3,h4,h5,h6,h7⟩;simp only at h2 h3 h4 h5 h6 h7;have hn:n<a.length:=by omega
   have hg:=za1 hn;have dx:=Bd ha n;have hx:a[n]=dg a n:=(Hk hg).symm;have hq:q[n]? =some 0:=by rw[Am,h4 n (by omega)]
   have ht0:0<=r*65536+dg a n:=by omega
   have hdd:=Int.emod_add_mul_ediv (r*65536+dg a n) d;have m0:=Int.emod_nonneg (r*65536+dg a n) (show d≠0 by omega);have m1:=Int.emod_lt_of_pos (r*65536+dg a n) (show 0<d by omega);have q0:=Int.ediv_nonneg ht0 (show 0<=d by omega);have q1:(r*65536+dg a n)/d<65536:=by
    refine Int.ediv_lt_of_lt_mul (by omega) ?_;have:r*65536+dg a n<d*65536:=by omega
    rw[Int.mul_comm 65536 d];exact this
   refine⟨(q.set n ((r*65536+dg a n)/d),(r*65536+dg a n)%d),?_,by omega,h2.set ⟨q0,q1⟩,by simp[h3],fun j hj=>by simp only;rw[Cq];exact h4 j (by omega),m0,m1,?_⟩
   ·unfold FM AN
    dsimp only
    have hz:(d==0)=false:=beq_eq_false_iff_ne.2 (by omega);have hs:((n+1:Nat):Int)-1=(n:Int):=by omega
    have i1:AW (n:Int) q.length=some n:=AT (by omega);rw[hs,zp,Af,hg];simp only[cond_true,za0,hz,cond_false,i1,hq,hx];rw[Ae (n:=r*65536),Ae (n:=r*65536+dg a n),zc7 ht0,zc6 ht0,Ae (n:=(r*65536+dg a n)/d),Ae (n:=(n:Int)-1)]
   ·simp only;rw[Hd hq,za9 hn,hx];simp only[val,Int.sub_zero];have e1:B (n+1)*r=B n*(r*65536):=by simp only[B];grind
    have e2:B (n+1)*val (a.drop (n+1))=B n*(65536*val (a.drop (n+1))):=by simp only[B];grind
    rw[e1,e2]at h7;have e3:B n*((r*65536+dg a n)/d)*d+B n*((r*65536+dg a n)%d)=B n*(r*65536)+B n*dg a n:=by
     rw[Int.mul_assoc,<-ze3,<-ze3]
     congr 1
     rw[Int.mul_comm _ d];omega
    rw[Int.add_mul,ze3];omega)
  (by
   rintro⟨q,r⟩ _;unfold FM;rfl) a.length (List.replicate a.length 0,0) ⟨za7 _,LB.zeros _,by simp,fun j _=>by
    unfold dg;rw[zc0,List.getElem?_replicate];split<;>rfl,by omega,by simp only;omega,by simp[GA,val]⟩
 obtain⟨g1,g2,g3,g4,g5,g6,g7⟩:=h2;simp only[B,Int.one_mul,ze5]at g7;exact⟨q,r,h1,g2,g3,g5,g6,g7⟩
theorem bq{a:List Int}{d:Int}(ha:LB a)(hd:1<=d/\d<=65536)(na:a.length<=10000000):
  ∃q r,Ad (fun(s:List Int×List Int×Int×Int×Int)=>GN s.1 s.2.1 s.2.2.1 s.2.2.2.1 s.2.2.2.2) (List.replicate a.length 0,a,d,0,(a.length:Int)-1)=some (q,r)/\LB q/\q.length=a.length/\0<=r/\r<d/\val q*d+r=val a:=by
 obtain⟨⟨q,r⟩,h1,h2⟩:=KP (body:=fun(s:List Int×List Int×Int×Int×Int)=>GN s.1 s.2.1 s.2.2.1 s.2.2.2.1 s.2.2.2.2)
  (st:=fun n (b:List Int×Int)=>(b.1,a,d,b.2,(n:Int)-1)) (fin:=fun b=>b)
  (I:=fun n b=>n<=a.length/\LB b.1/\b.1.length=a.length/\(∀j,j<n->dg b.1 j=0)/\0<=b.2/\b.2<d/\val b.1*d+B n*b.2=B n*val (a.drop n))
  (by
   rintro n ⟨q,r⟩ ⟨h1,h2,h3,h4,h5,h6,h7⟩;simp only at h2 h3 h4 h5 h6 h7;have hn:n<a.length:=by omega
   have hg:=za1 hn;have dx:=Bd ha n;have hx:a[n]=dg a n:=(Hk hg).symm;have hq:q[n]? =some 0:=by rw[Am,h4 n (by omega)]
   have ht0:0<=r*65536+dg a n:=by omega
   have hdd:=Int.emod_add_mul_ediv (r*65536+dg a n) d;have m0:=Int.emod_nonneg (r*65536+dg a n) (show d≠0 by omega);have m1:=Int.emod_lt_of_pos (r*65536+dg a n) (show 0<d by omega);have q0:=Int.ediv_nonneg ht0 (show 0<=d by omega);have q1:(r*65536+dg a n)/d<65536:=by
    refine Int.ediv_lt_of_lt_mul (by omega) ?_;have:r*65536+dg a n<d*65536:=by omega
    rw[Int.mul_comm 65536 d];exact this
   refine⟨(q.set n ((r*65536+dg a n)/d),(r*65536+dg a n)%d),?_,by omega,h2.set ⟨q0,q1⟩,by simp[h3],fun j hj=>by simp only;rw[Cq];exact h4 j (by omega),m0,m1,?_⟩
   ·unfold GN AN
    dsimp only
    have hz:(d==0)=false:=beq_eq_false_iff_ne.2 (by omega);have hs:((n+1:Nat):Int)-1=(n:Int):=by omega
    have i1:AW (n:Int) q.length=some n:=AT (by omega);rw[hs,zp,Af,hg];simp only[cond_true,za0,hz,cond_false,i1,hq,hx];rw[Ae (n:=r*65536),Ae (n:=r*65536+dg a n),zc7 ht0,zc6 ht0,Ae (n:=(r*65536+dg a n)/d),Ae (n:=(n:Int)-1)]
   ·simp only;rw[Hd hq,za9 hn,hx];simp only[val,Int.sub_zero];have e1:B (n+1)*r=B n*(r*65536):=by simp only[B];grind
    have e2:B (n+1)*val (a.drop (n+1))=B n*(65536*val (a.drop (n+1))):=by simp only[B];grind
    rw[e1,e2]at h7;have e3:B n*((r*65536+dg a n)/d)*d+B n*((r*65536+dg a n)%d)=B n*(r*65536)+B n*dg a n:=by
     rw[Int.mul_assoc,<-ze3,<-ze3]
     congr 1
     rw[Int.mul_comm _ d];omega
    rw[Int.add_mul,ze3];omega)
  (by
   rintro⟨q,r⟩ _;unfold GN;rfl) a.length (List.replicate a.length 0,0) ⟨za7 _,LB.zeros _,by simp,fun j _=>by
    unfold dg;rw[zc0,List.getElem?_replicate];split<;>rfl,by omega,by simp only;omega,by simp[GA,val]⟩
 obtain⟨g1,g2,g3,g4,g5,g6,g7⟩:=h2;simp only[B,Int.one_mul,ze5]at g7;exact⟨q,r,h1,g2,g3,g5,g6,g7⟩
theorem ak{n:Nat}{d:Int}(hd:1<=d/\d<=65536)(hn:(lim n).length<=10000000):H0 (lim n) d=some (lim (n/d.toNat),((n%d.toNat:Nat):Int)):=by
 obtain⟨q,r,h1,h2,h3,h4,h5,h6⟩:=Yf (AJ n) hd hn;rw[As]at h6;unfold H0;rw[JW (by unfold Aa;omega) (by unfold Aa;omega),Ae];simp only[za0,h1];rw[eG (by unfold Az;omega)];simp only[za0];rw[CO h2];obtain⟨e1,e2⟩:=Vv h6 h4 h5;have hdn:d=(d.toNat:Int):=by omega
 have hv:=AY h2;have q1:(val q).toNat=n/d.toNat:=by
  have:val q=((n/d.toNat:Nat):Int):=by rw[e1,hdn];simp
  omega
 have q2:r=((n%d.toNat:Nat):Int):=by rw[e2,hdn];simp
 rw[q1,q2]
theorem tO{n:Nat}{d:Int}(hd:1<=d/\d<=65535)(hn:(lim n).length<=10000000):Ms (lim n) d=some (lim (n/d.toNat),lim (n%d.toNat)):=by
 obtain⟨q,r,h1,h2,h3,h4,h5,h6⟩:=bq (AJ n) (show 1<=d/\d<=65536 by omega) hn;rw[As]at h6;unfold Ms;rw[JW (by unfold Aa;omega) (by unfold Aa;omega),Ae];simp only[za0,h1];rw[IE (by unfold Az;omega)];simp only[za0];rw[IE (by unfold Az;simp)];simp only[za0];rw[CO h2,CO (LB.cons (by omega) LB.nil)];obtain⟨e1,e2⟩:=Vv h6 h4 h5;have hdn:d=(d.toNat:Int):=by omega
 have hv:=AY h2;have q1:(val q).toNat=n/d.toNat:=by
  have:val q=((n/d.toNat:Nat):Int):=by rw[e1,hdn];simp
  omega
 have q2:(val [r]).toNat=n%d.toNat:=by
  have:r=((n%d.toNat:Nat):Int):=by rw[e2,hdn];simp
  simp only[val];omega
 rw[q1,q2]
section
variable {P v1 v2 vr top u2 ur q r v U:Int} (hP:0<P) (hv1:1<=v1) (hv1':v1<65536) (hv2:0<=v2/\v2<65536) (hvr:0<=vr/\vr<P) (hu2:0<=u2/\u2<65536) (hur:0<=ur/\ur<P)
 (hv:v=(v1*65536+v2)*P+vr) (hU:U=(top*65536+u2)*P+ur) (hq:q*v1+r=top) (hq0:0<=q)
include hP hv1 hv2 hvr hu2 hur hv hU hq hq0
theorem af(h:q*v2>r*65536+u2):U<q*v:=by
 have h1:q*(v1*65536+v2)=(q*v1)*65536+q*v2:=by grind
 have h2:top*65536+u2+1<=q*(v1*65536+v2):=by omega
 have h3:=zb1 h2 (ze9 hP);have h4:0<=q*vr:=zf6 hq0 hvr.1;have h5:q*v=q*(v1*65536+v2)*P+q*vr:=by rw[hv];grind
 rw[Int.add_mul]at h3;omega
theorem eC(hq1:q<65536)(h:q*v2<=r*65536+u2):q*v<U+v:=by
 have h1:q*(v1*65536+v2)=(q*v1)*65536+q*v2:=by grind
 have h2:q*(v1*65536+v2)<=top*65536+u2:=by omega
 have h3:=zb1 h2 (ze9 hP);have h4:q*vr<=65535*P:=Int.le_trans (zb4 (ze9 hvr.2) hq0) (zb1 (by omega) (ze9 hP));have h5:q*v=q*(v1*65536+v2)*P+q*vr:=by rw[hv];grind
 have h6:65536*P<=(v1*65536+v2)*P:=zb1 (by omega) (ze9 hP);omega
theorem ag(hq1:q<65536)(h:65536<=r):q*v<=U:=by
 have h1:q*(v1*65536+v2)=(q*v1)*65536+q*v2:=by grind
 have h7:q*v2<=q*65535:=zb4 (by omega) hq0;have h2:q*(v1*65536+v2)+65536<=top*65536+u2:=by omega
 have h3:=zb1 h2 (ze9 hP);have h4:q*vr<=65535*P:=Int.le_trans (zb4 (ze9 hvr.2) hq0) (zb1 (by omega) (ze9 hP));have h5:q*v=q*(v1*65536+v2)*P+q*vr:=by rw[hv];grind
 rw[Int.add_mul]at h3;omega
end
theorem kn{P' v1 vt top ut v U Q:Int}(hP:0<P')(hv1:1<=v1)(hvt:0<=vt)(hut:ut<P')(hv:v=v1*P'+vt)(hU:U=top*P'+ut)(hQ:Q*v<=U)(hQ0:0<=Q):Q<=top/v1:=by
 rw[Int.le_ediv_iff_mul_le (by omega)];by_cases h:Q*v1<=top
 ·exact h
 ·exfalso;have h1:top+1<=Q*v1:=by omega
  have h2:=zb1 h1 (ze9 hP);have h3:0<=Q*vt:=zf6 hQ0 hvt;have h4:Q*v=Q*v1*P'+Q*vt:=by rw[hv];grind
  rw[Int.add_mul]at h2;omega
theorem ud{x c:Int}(hx:x<65536)(hlo: -4294967296<=x)(hc:c=if x<0 then(-x+65536-1)/65536 else 0):
  0<=x+c*65536/\x+c*65536<65536/\0<=c/\c<=65536:=by
 subst hc;split<;>omega
structure Off (u0 u:List Int) (j k:Nat) (c q:Int) (v:List Int):Prop where
 len:u.length=u0.length
 lb:LB u
 hi:∀i,j+k<=i->dg u i=dg u0 i
 c0:0<=c
 c1:c<=65536
 v:val u-B (j+k)*c=val u0-B j*(q*val (v.take k))
theorem Off.start{u0:List Int}(h:LB u0)(j:Nat)(q:Int)(v:List Int):Off u0 u0 j 0 0 q v:=⟨rfl,h,fun _ _=>rfl,by omega,by omega,by simp[val]⟩
theorem Off.next{u0 u:List Int}{j k:Nat}{c q:Int}{v:List Int}(h:Off u0 u j k c q v)(hv:LB v)(hq:0<=q/\q<65536)(hk:j+k<u.length){c':Int}(hc:c'=if dg u (j+k)-q*dg v k-c<0 then(-(dg u (j+k)-q*dg v k-c)+65536-1)/65536 else 0):
  Off u0 (u.set (j+k) (dg u (j+k)-q*dg v k-c+c'*65536)) j (k+1) c' q v:=by
 have du:=Bd h.lb (j+k);have dv:=Bd hv k;have m0:0<=q*dg v k:=zf6 hq.1 dv.1;have m1:q*dg v k<=65535*65535:=Int.le_trans (zb4 (show dg v k<=65535 by omega) hq.1) (zb1 (show q<=65535 by omega) (by omega));have hc0:=h.c0;have hc1:=h.c1;obtain⟨s1,s2,s3,s4⟩:=ud (x:=dg u (j+k)-q*dg v k-c) (by omega) (by omega) hc;refine⟨by rw[List.length_set];exact h.len,h.lb.set ⟨s1,s2⟩,fun i hi=>by rw[Cq];exact h.hi i (by omega),s3,s4,?_⟩;rw[Hd (Am hk),A5,show j+(k+1)=j+k+1 by omega];have hv2:=h.v;have e1:B (j+k+1)*c'=B (j+k)*(c'*65536):=by simp only[B];grind
 have e2:B j*(q*(val (v.take k)+B k*dg v k))=B j*(q*val (v.take k))+B (j+k)*(q*dg v k):=by rw[S6];grind
 have e3:B (j+k)*(dg u (j+k)-q*dg v k-c+c'*65536-dg u (j+k))=B (j+k)*(c'*65536)-B (j+k)*(q*dg v k)-B (j+k)*c:=by grind
 rw[e1,e2,e3];omega
theorem Ag9{u0 v out:List Int}{n by_ q:Int}{j:Nat}(hu:LB u0)(hv:LB v)(hq:0<=q/\q<65536)(hn:n=(v.length:Int))(hlen:j+v.length<u0.length)(hl:u0.length<=1000000):
  ∃u c,Ad (fun(s:List Int×List Int×List Int×Int×Int×Int×Int×Int×Int×Int)=>FK s.1 s.2.1 s.2.2.1 s.2.2.2.1 s.2.2.2.2.1 s.2.2.2.2.2.1 s.2.2.2.2.2.2.1 s.2.2.2.2.2.2.2.1 s.2.2.2.2.2.2.2.2.1 s.2.2.2.2.2.2.2.2.2) (u0,v,out,n,by_,(j:Int),q,0,n,0)=
   some (u,v,out,n,by_,(j:Int),q,c)/\Off u0 u j v.length c q v:=by
 subst hn;obtain⟨⟨u,c⟩,h1,h2⟩:=Bw (body:=fun(s:List Int×List Int×List Int×Int×Int×Int×Int×Int×Int×Int)=>FK s.1 s.2.1 s.2.2.1 s.2.2.2.1 s.2.2.2.2.1 s.2.2.2.2.2.1 s.2.2.2.2.2.2.1 s.2.2.2.2.2.2.2.1 s.2.2.2.2.2.2.2.2.1 s.2.2.2.2.2.2.2.2.2)
  (st:=fun k (b:List Int×Int)=>(b.1,v,out,(v.length:Int),by_,(j:Int),q,b.2,(v.length:Int),(k:Int))) (fin:=fun b=>(b.1,v,out,(v.length:Int),by_,(j:Int),q,b.2)) (I:=fun k b=>Off u0 b.1 j k b.2 q v) (e:=v.length)
  (by
   rintro k ⟨u,c⟩ hk hI;simp only at hI;have hul:=hI.len;have hp:j+k<u.length:=by omega
   have du:=Bd hI.lb (j+k);have dv:=Bd hv k;have c0:=hI.c0;have c1:=hI.c1;have m0:0<=q*dg v k:=zf6 hq.1 dv.1;have m1:q*dg v k<=65535*65535:=Int.le_trans (zb4 (show dg v k<=65535 by omega) hq.1) (zb1 (show q<=65535 by omega) (by omega));refine⟨(u.set (j+k) (dg u (j+k)-q*dg v k-c+(if dg u (j+k)-q*dg v k-c<0 then(-(dg u (j+k)-q*dg v k-c)+65536-1)/65536 else 0)*65536),if dg u (j+k)-q*dg v k-c<0 then(-(dg u (j+k)-q*dg v k-c)+65536-1)/65536 else 0),?_,hI.next hv hq hp rfl⟩;unfold FK AN
   dsimp only
   have i1:AW ((j:Int)+(k:Int)) u.length=some (j+k):=by rw[show(j:Int)+(k:Int)=((j+k:Nat):Int) by omega];exact AT hp
   have hw1:=Aw (show k<4611686018427387904 by omega);have hjk:=Ae (n:=(j:Int)+(k:Int));rw[zp,hjk];simp only[cond_true,i1,AT hk,za0,Am hp,Am hk];rw[Ae (n:=q*dg v k),Ae (n:=dg u (j+k)-q*dg v k),Ae (n:=dg u (j+k)-q*dg v k-c)];have hxb: -4294967296<=dg u (j+k)-q*dg v k-c/\dg u (j+k)-q*dg v k-c<65536:=by omega
   generalize dg u (j+k)-q*dg v k-c=x at*
   by_cases hx:x<0
   ·rw[zp hx,zr hx,Ae (n:=0-x),Ae (n:=0-x+65536),Ae (n:=0-x+65536-1),zc7 (by omega),show 0-x+65536-1= -x+65536-1 by omega];rw[Ae (n:=(-x+65536-1)/65536),Ae (n:=(-x+65536-1)/65536*65536),Ae (n:=x+(-x+65536-1)/65536*65536)];simp only[cond_true,za0,za6,hjk,i1,Am hp,hw1]
   ·rw[zq hx,zw hx];simp only[cond_false,za0,za6,hjk,i1,Am hp,hw1,Int.zero_mul,Int.add_zero])
  (by
   rintro⟨u,c⟩ _;unfold FK
   dsimp only
   rw[zq (Int.lt_irrefl _)];rfl) 0 (u0,0) (by omega) (Off.start hu j q v)
 exact⟨u,c,h1,h2⟩
structure Back (u0 u:List Int) (j k:Nat) (c:Int) (v:List Int):Prop where
 len:u.length=u0.length
 lb:∀i,i<j+v.length->0<=dg u i/\dg u i<65536
 hi:∀i,j+k<=i->dg u i=dg u0 i
 c0:0<=c
 c1:c<65536
 v:val u+B (j+k)*c=val u0+B j*val (v.take k)
theorem nj{l:List Int}{k j:Nat}{x:Int}(hk:k<l.length):dg (l.set k x) j=if j=k then x else dg l j:=by
 split
 ·rename_i h;subst h;exact Hk (by rw[List.getElem?_set_self hk])
 ·rename_i h;exact Cq (fun hh=>h hh.symm)
theorem Back.next{u0 u:List Int}{j k:Nat}{c:Int}{v:List Int}(h:Back u0 u j k c v)(hv:LB v)(hkv:k<v.length)(hk:j+k<u.length):
  Back u0 (u.set (j+k) ((dg u (j+k)+dg v k+c)%65536)) j (k+1) ((dg u (j+k)+dg v k+c)/65536) v:=by
 have du:=h.lb (j+k) (by omega);have dv:=Bd hv k;have c0:=h.c0;have c1:=h.c1;refine⟨by rw[List.length_set];exact h.len,fun i hi=> ?_,fun i hi=>by rw[Cq];exact h.hi i (by omega),by omega,by omega,?_⟩
 ·rw[nj hk];split
  ·omega
  ·exact h.lb i hi
 ·have:=lM (out:=u) (p:=j+k) (o:=dg u (j+k)) (d:=(dg u (j+k)+dg v k+c)%65536) (c:=c) (c':=(dg u (j+k)+dg v k+c)/65536) (t:=dg v k) (V:=val u0+B j*val (v.take k)) (Am hk) (by omega) h.v;rw[show j+(k+1)=j+k+1 by omega,this,A5,ze3];have:B (j+k)*dg v k=B j*(B k*dg v k):=by rw[S6];grind
  omega
theorem Ag6{u0 v out:List Int}{n by_ q:Int}{j:Nat}(hu:∀i,i<j+v.length->0<=dg u0 i/\dg u0 i<65536)(hv:LB v)(hn:n=(v.length:Int))(hlen:j+v.length<u0.length)(hl:u0.length<=1000000):
  ∃u c,Ad (fun(s:List Int×List Int×List Int×Int×Int×Int×Int×Int×Int×Int)=>FL s.1 s.2.1 s.2.2.1 s.2.2.2.1 s.2.2.2.2.1 s.2.2.2.2.2.1 s.2.2.2.2.2.2.1 s.2.2.2.2.2.2.2.1 s.2.2.2.2.2.2.2.2.1 s.2.2.2.2.2.2.2.2.2) (u0,v,out,n,by_,(j:Int),q,0,n,0)=
   some (u,v,out,n,by_,(j:Int),q,c)/\Back u0 u j v.length c v:=by
 subst hn;obtain⟨⟨u,c⟩,h1,h2⟩:=Bw (body:=fun(s:List Int×List Int×List Int×Int×Int×Int×Int×Int×Int×Int)=>FL s.1 s.2.1 s.2.2.1 s.2.2.2.1 s.2.2.2.2.1 s.2.2.2.2.2.1 s.2.2.2.2.2.2.1 s.2.2.2.2.2.2.2.1 s.2.2.2.2.2.2.2.2.1 s.2.2.2.2.2.2.2.2.2)
  (st:=fun k (b:List Int×Int)=>(b.1,v,out,(v.length:Int),by_,(j:Int),q,b.2,(v.length:Int),(k:Int))) (fin:=fun b=>(b.1,v,out,(v.length:Int),by_,(j:Int),q,b.2)) (I:=fun k b=>Back u0 b.1 j k b.2 v) (e:=v.length)
  (by
   rintro k ⟨u,c⟩ hk hI;simp only at hI;have hul:=hI.len;have hp:j+k<u.length:=by omega
   have du:=hI.lb (j+k) (by omega);have dv:=Bd hv k;have c0:=hI.c0;have c1:=hI.c1;refine⟨(u.set (j+k) ((dg u (j+k)+dg v k+c)%65536),(dg u (j+k)+dg v k+c)/65536),?_,hI.next hv hk hp⟩;unfold FL AN
   dsimp only
   have i1:AW ((j:Int)+(k:Int)) u.length=some (j+k):=by rw[show(j:Int)+(k:Int)=((j+k:Nat):Int) by omega];exact AT hp
   have hw1:=Aw (show k<4611686018427387904 by omega);have hjk:=Ae (n:=(j:Int)+(k:Int));rw[zp,hjk];simp only[cond_true,i1,AT hk,za0,Am hp,Am hk];rw[Ae (n:=dg u (j+k)+dg v k),Ae (n:=c+(dg u (j+k)+dg v k)),show c+(dg u (j+k)+dg v k)=dg u (j+k)+dg v k+c by omega,zc6 (by omega),zc7 (by omega),Ae (n:=(dg u (j+k)+dg v k+c)/65536),hw1])
  (by
   rintro⟨u,c⟩ _;unfold FL
   dsimp only
   rw[zq (Int.lt_irrefl _)];rfl) 0 (u0,0) (by omega) ⟨rfl,hu,fun _ _=>rfl,by simp only;omega,by simp only;omega,by simp[val]⟩
 exact⟨u,c,h1,h2⟩
structure Guess (P v1 v2 vr top u2 ur V U Q:Int):Prop where
 hP:0<P
 hv1:1<=v1
 hv1':v1<65536
 hv2:0<=v2/\v2<65536
 hvr:0<=vr/\vr<P
 hu2:0<=u2/\u2<65536
 hur:0<=ur/\ur<P
 hV:V=(v1*65536+v2)*P+vr
 hU:U=(top*65536+u2)*P+ur
 htop:0<=top/\top<4294967296
 hQ:Q*V<=U
 hQ0:0<=Q
 hQ1:Q<65536
 hV0:0<V
theorem yP{u v out:List Int}{n by_:Int}{j m:Nat}{P v1 v2 vr top u2 ur V U Q:Int}(G:Guess P v1 v2 vr top u2 ur V U Q)(hn:n=((m+2:Nat):Int))(hm:m<=1000000)(hj:j<=1000000)
  (hv:v.length=m+2) (e1:dg v (m+1)=v1) (e2:dg v m=v2) (hu:j+m<u.length) (e3:dg u (j+m)=u2) {q0 r0:Int} (h0:q0*v1+r0=top) (hr0:0<=r0) (hq0:Q<=q0) (hq4:q0<4294967296):
  ∃q,Ad (fun(s:List Int×List Int×List Int×Int×Int×Int×Int×Int)=>Dw s.1 s.2.1 s.2.2.1 s.2.2.2.1 s.2.2.2.2.1 s.2.2.2.2.2.1 s.2.2.2.2.2.2.1 s.2.2.2.2.2.2.2) (u,v,out,n,by_,(j:Int),q0,r0)=some (u,v,out,n,by_,(j:Int),q)/\Q<=q/\q<65536/\q*V<U+V:=by
 subst hn;obtain⟨r,h1,q,rfl,h2⟩:=GY (f:=fun(s:List Int×List Int×List Int×Int×Int×Int×Int×Int)=>Dw s.1 s.2.1 s.2.2.1 s.2.2.2.1 s.2.2.2.2.1 s.2.2.2.2.2.1 s.2.2.2.2.2.2.1 s.2.2.2.2.2.2.2)
  (I:=fun s=>∃q r:Int,s=(u,v,out,((m+2:Nat):Int),by_,(j:Int),q,r)/\q*v1+r=top/\0<=r/\Q<=q/\q<4294967296)
  (R:=fun s=>∃q:Int,s=(u,v,out,((m+2:Nat):Int),by_,(j:Int),q)/\Q<=q/\q<65536/\q*V<U+V) (fun s=>s.2.2.2.2.2.2.1.toNat) (by
   rintro s ⟨q,r,rfl,g1,g2,g3,g4⟩;simp only;have hQ0:=G.hQ0;have hQ1:=G.hQ1;have hv1:=G.hv1;have hv1':=G.hv1';have hv2:=G.hv2;have hu2:=G.hu2;have htop:=G.htop;have hqv:0<=q*v1:=zf6 (by omega) (by omega);have hqv2:0<=q*v2:=zf6 (by omega) hv2.1;have hqv2':q*v2<=4294967296*65536:=Int.le_trans (zb4 (show v2<=65536 by omega) (by omega)) (zb1 (show q<=4294967296 by omega) (by omega));have iv1:AW (((m+2:Nat):Int)-1) v.length=some (m+1):=by rw[show((m+2:Nat):Int)-1=((m+1:Nat):Int) by omega];exact AT (by omega)
   have iv2:AW (((m+2:Nat):Int)-2) v.length=some m:=by rw[show((m+2:Nat):Int)-2=((m:Nat):Int) by omega];exact AT (by omega)
   have iu:AW ((j:Int)+((m+2:Nat):Int)-2) u.length=some (j+m):=by rw[show(j:Int)+((m+2:Nat):Int)-2=((j+m:Nat):Int) by omega];exact AT (by omega)
   have w1:=Ae (n:=((m+2:Nat):Int)-1);have w2:=Ae (n:=((m+2:Nat):Int)-2);have w3:=Ae (n:=(j:Int)+((m+2:Nat):Int));have w4:=Ae (n:=(j:Int)+((m+2:Nat):Int)-2);have w5:=Ae (n:=q*v2);have w6:=Ae (n:=r*65536);have w7:=Ae (n:=r*65536+u2);have w8:=Ae (n:=q-1);have w9:=Ae (n:=r+v1);have less:∀(hgo:Q<=q-1),∃q' r':Int,(u,v,out,((m+2:Nat):Int),by_,(j:Int),q-1,r+v1)=(u,v,out,((m+2:Nat):Int),by_,(j:Int),q',r')/\q'*v1+r'=top/\0<=r'/\Q<=q'/\q'<4294967296:=by
    intro hgo;exact⟨q-1,r+v1,rfl,by rw[Int.sub_mul];omega,by omega,hgo,by omega⟩
   by_cases c1:q>=65536
   ·refine .inl ⟨(u,v,out,((m+2:Nat):Int),by_,(j:Int),q-1,r+v1),?_,less (by omega),by simp only;omega⟩;unfold Dw AN;rw[zp c1];simp only[cond_true,za0,za6,w1,iv1,Am (show m+1<v.length by omega),e1,w8,w9]
   ·by_cases c2:r<65536
    ·by_cases c3:q*v2>r*65536+u2
     ·have hlt:=af G.hP G.hv1 G.hv2 G.hvr G.hu2 G.hur G.hV G.hU g1 (by omega) c3;have hne:Q<=q-1:=by
       rcases Int.lt_or_le (q-1) Q with h|h
       ·have:q=Q:=by omega
        subst this;have:=G.hQ;omega
       ·exact h
      refine .inl ⟨(u,v,out,((m+2:Nat):Int),by_,(j:Int),q-1,r+v1),?_,less hne,by simp only;omega⟩;unfold Dw AN;rw[zq c1,zp c2];simp only[cond_true,cond_false,za0,w2,iv2,Am (show m<v.length by omega),e2,w3,w4,iu,Am hu,e3,w5,w6,w7,zp c3,za6,w1,iv1,Am (show m+1<v.length by omega),e1,w8,w9]
     ·refine .inr ⟨_,?_,q,rfl,g3,by omega,eC G.hP G.hv1 G.hv2 G.hvr G.hu2 G.hur G.hV G.hU g1 (by omega) (by omega) (by omega)⟩;unfold Dw AN;rw[zq c1,zp c2];simp only[cond_true,cond_false,za0,w2,iv2,Am (show m<v.length by omega),e2,w3,w4,iu,Am hu,e3,w5,w6,w7,zq c3,zg0]
    ·have hle:=ag G.hP G.hv1 G.hv2 G.hvr G.hu2 G.hur G.hV G.hU g1 (by omega) (by omega) (by omega);have hV0:=G.hV0;refine .inr ⟨_,?_,q,rfl,g3,by omega,by omega⟩;unfold Dw AN;rw[zq c1,zq c2];rfl) (u,v,out,((m+2:Nat):Int),by_,(j:Int),q0,r0) ⟨q0,r0,rfl,h0,hr0,hq0,hq4⟩
 exact⟨q,h1,h2⟩
theorem SR{j:Nat}{a b X Y:Int}(ha:0<=a/\a<B j)(hb:0<=b/\b<B j)(h:a+B j*X=b+B j*Y):X=Y:=by
 rcases Int.lt_trichotomy X Y with g|g|g
 ·exfalso;have:=zb4 (show X+1<=Y by omega) (ze9 (Hr j));rw[ze3]at this;omega
 ·exact g
 ·exfalso;have:=zb4 (show Y+1<=X by omega) (ze9 (Hr j));rw[ze3]at this;omega
theorem Ys(l:List Int)(n k:Nat):dg (l.drop n) k=dg l (n+k):=by unfold dg;simp[zc0,zd5]
theorem C9(l:List Int)(k:Nat):val (l.drop k)=dg l k+65536*val (l.drop (k+1)):=by
 rcases zd8 k l.length with h|h
 ·rw[za9 h,Hk (za1 h)];rfl
 ·rw[zd2 h,zd2 (by omega),J1 h];simp[val]
theorem aw{l:List Int}(h:∀i,i<l.length->0<=dg l i/\dg l i<65536):LB l:=fun x hx=>by
 obtain⟨i,hi,rfl⟩:=List.getElem_of_mem hx;have:=h i hi
 rwa[Hk (za1 hi)]at this
theorem yE{l:List Int}{k i:Nat}(h:i<k):dg (l.take k) i=dg l i:=by unfold dg;simp[zc0,zc4,h]
theorem pQ{l:List Int}{k:Nat}(h:∀i,i<k->0<=dg l i/\dg l i<65536):LB (l.take k):=aw fun i hi=>by
 rw[zd9]at hi;rw[yE (by omega)];exact h i (by omega)
theorem QD:∀{l:List Int},(∀i,dg l i=0)->val l=0
 |[],_=>rfl
 |x::l,h=>by
  have h0:=h 0;have h1:val l=0:=QD fun i=>h (i+1)
  simp only[val,h1];unfold dg at h0;simp at h0;omega
theorem Dp{l:List Int}(h:LB l)(k:Nat):0<=val (l.take k)/\val (l.take k)<B k:=by
 refine⟨AY (h.take k),?_⟩;have:=QC (h.take k);have:=K2 (show(l.take k).length<=k by rw[zd9];omega);omega
theorem pv{l:List Int}(h:LB l){n k:Nat}(hv:val l<B n)(hk:n<=k):dg l k=0/\val (l.drop k)=0:=by
 have h1:=Cr l k;have h2:=AY (h.take k);have h3:=AY (h.drop k);have h4:=K2 hk;have h5:val (l.drop k)=0:=by
  rcases Int.lt_or_le 0 (val (l.drop k))with g|g
  ·have:=zb4 (show 1<=val (l.drop k) by omega) (ze9 (Hr k));omega
  ·omega
 have h6:=C9 l k;have h7:=Bd h k;have h8:=AY (h.drop (k+1));exact⟨by omega,h5⟩
structure Place (u v:List Int) (j m:Nat):Prop where
 lu:LB u
 lv:LB v
 hv:v.length=m+2
 top:1<=dg v (m+1)
 len:j+m+2<u.length
 less:val (u.drop (j+1))<val v
section
variable {u v:List Int} {j m:Nat} (H:Place u v j m)
include H
theorem Place.pos:0<val v:=by
 have h1:=Cr v (m+1);have h2:=AY (H.lv.take (m+1));have h3:=C9 v (m+1);have h4:=AY (H.lv.drop (m+1+1));have h5:=H.top;have h6:=zb4 (show 1<=val (v.drop (m+1)) by omega) (ze9 (Hr (m+1)));have h7:=Hr (m+1);omega
theorem Place.lt:val v<B (m+2):=by have:=QC H.lv;rwa[H.hv]at this
theorem Place.high{k:Nat}(hk:j+m+3<=k):dg u k=0/\val (u.drop k)=0:=by
 have h1:=pv (H.lu.drop (j+1)) (n:=m+2) (k:=k-(j+1)) (by have:=H.less;have:=H.lt;omega) (by omega);rw[Ys,List.drop_drop,show j+1+(k-(j+1))=k by omega]at h1;exact h1
theorem Place.rest:0<=val (u.drop j)/\val (u.drop j)<65536*val v:=by
 refine⟨AY (H.lu.drop j),?_⟩;have h1:=C9 u j;have h2:=Bd H.lu j;have h3:=H.less;omega
theorem Place.quot:0<=val (u.drop j)/val v/\val (u.drop j)/val v<65536:=by
 obtain⟨h1,h2⟩:=H.rest;have h3:=H.pos;exact⟨Int.ediv_nonneg h1 (by omega),Int.ediv_lt_of_lt_mul h3 h2⟩
theorem Place.mod:0<=val (u.drop j)-val (u.drop j)/val v*val v/\val (u.drop j)-val (u.drop j)/val v*val v<val v:=by
 have h1:=Int.emod_add_mul_ediv (val (u.drop j)) (val v);have h2:=Int.emod_nonneg (val (u.drop j)) (show val v≠0 by have:=H.pos;omega);have h3:=Int.emod_lt_of_pos (val (u.drop j)) H.pos;rw[Int.mul_comm]at h1;omega
theorem Place.guess:Guess (B m) (dg v (m+1)) (dg v m) (val (v.take m)) (dg u (j+m+2)*65536+dg u (j+m+1)) (dg u (j+m)) (val ((u.drop j).take m)) (val v) (val (u.drop j)) (val (u.drop j)/val v):=by
 have d1:=Bd H.lu (j+m+1);have d2:=Bd H.lu (j+m+2);have hm:=H.mod;have hq:=H.quot;refine⟨Hr m,H.top,(Bd H.lv _).2,Bd H.lv _,Dp H.lv m,Bd H.lu _,Dp (H.lu.drop j) m,?_,?_,by omega,by omega,hq.1,hq.2,H.pos⟩
 ·rw[Cr v m,C9 v m,C9 v (m+1),zd2 (show v.length<=m+1+1 by rw[H.hv];omega)];simp only[val];grind
 ·rw[Cr (u.drop j) m,List.drop_drop,C9 u (j+m),C9 u (j+m+1),C9 u (j+m+1+1),(H.high (k:=j+m+1+1+1) (by omega)).2,show j+m+1+1=j+m+2 by omega];grind
theorem Place.after{u4:List Int}(hl:u4.length=u.length)(hg:∀i,i<j+m+2->0<=dg u4 i/\dg u4 i<65536)(hh:∀i,j+m+2<i->dg u4 i=dg u i){x:Int}(hv:val u4=val u-B j*(x*val v)):
  val (u4.drop j)=val (u.drop j)-x*val v/\∃X,0<=X/\X<B (m+2)/\val (u.drop j)-x*val v=X+B (m+2)*dg u4 (j+m+2):=by
 have e1:val (u4.drop j)=val (u.drop j)-x*val v:=by
  have h1:=Cr u4 j;have h2:=Cr u j;have h3:=Dp H.lu j;have h4:LB (u4.take j):=pQ fun i hi=>hg i (by omega)
  have h5:=Dp h4 j;rw[List.take_take,Nat.min_self]at h5;refine SR (j:=j) h5 h3 ?_;rw[Int.mul_sub];omega
 refine⟨e1,val ((u4.drop j).take (m+2)),?_⟩;have h4:LB ((u4.drop j).take (m+2)):=pQ fun i hi=>by rw[Ys];exact hg _ (by omega)
 have h5:=Dp h4 (m+2);rw[List.take_take,Nat.min_self]at h5;refine⟨h5.1,h5.2,?_⟩;rw[<-e1,Cr (u4.drop j) (m+2),List.drop_drop,C9 u4 (j+(m+2)),QD (l:=u4.drop (j+(m+2)+1)) fun i=>by rw[Ys,hh _ (by omega)];exact(H.high (by omega)).1];rw[show j+(m+2)=j+m+2 by omega,Int.mul_zero,Int.add_zero]
theorem Place.done{u4:List Int}(hl:u4.length=u.length)(hg:∀i,i<j+m+2->0<=dg u4 i/\dg u4 i<65536)(hh:∀i,j+m+2<i->dg u4 i=dg u i){x:Int}(hv:val u4=val u-B j*(x*val v))
  (hx:0<=val (u.drop j)-x*val v/\val (u.drop j)-x*val v<val v):dg u4 (j+m+2)=0/\LB u4/\val (u4.drop j)<val v:=by
 obtain⟨h1,X,h2,h3,h4⟩:=H.after hl hg hh hv;have h0:dg u4 (j+m+2)=0:=by
  have:=H.lt;exact(SR (j:=m+2) (a:=val (u.drop j)-x*val v) (b:=X) (X:=0) (by omega) (by omega) (by rw[h4];simp)).symm
 refine⟨h0,aw fun i hi=> ?_,by omega⟩;rcases Nat.lt_trichotomy i (j+m+2)with g|g|g
 ·exact hg i g
 ·rw[g,h0];omega
 ·rw[hh i g];exact Bd H.lu i
theorem Place.one{q:Int}(h1:val (u.drop j)/val v<=q)(h2:q*val v<val (u.drop j)+val v):q=val (u.drop j)/val v\/q=val (u.drop j)/val v+1:=by
 have hm:=H.mod;have hp:=H.pos;rcases Int.lt_or_le (val (u.drop j)/val v+1) q with g|g
 ·exfalso;have:=zb1 (show val (u.drop j)/val v+2<=q by omega) (ze9 hp);rw[Int.add_mul]at this;omega
 ·omega
end
theorem Place.start{u v:List Int}{j m:Nat}(H:Place u v j m):val (u.drop j)/val v<=(dg u (j+m+2)*65536+dg u (j+m+1))/dg v (m+1):=by
 have G:=H.guess;have hu2:=G.hu2;have hur:=G.hur;have hP:=G.hP;have hv2:=G.hv2;have hvr:=G.hvr;have h1:dg u (j+m)*B m<=65535*B m:=zb1 (by omega) (by omega);have h2:0<=dg v m*B m:=zf6 hv2.1 (by omega);exact kn (P':=65536*B m) (vt:=dg v m*B m+val (v.take m)) (ut:=dg u (j+m)*B m+val ((u.drop j).take m)) (v:=val v) (U:=val (u.drop j)) (by omega) G.hv1 (by omega) (by omega) (by rw[G.hV];grind) (by rw[G.hU];grind) G.hQ G.hQ0
set_option maxHeartbeats 1000000 in
theorem yS {u v out : List Int} {by_ : Int} {j m : Nat} (H : Place u v j m) (hl : u.length <= 1000000) (hj : j < out.length) :
  ∃ u', Dv u v out ((m + 2 : Nat) : Int) by_ (j : Int) = some (.inl (u', v, out.set j (val (u.drop j) / val v), ((m + 2 : Nat) : Int), by_, (j : Int) - 1)) /\
   u'.length = u.length /\ LB u' /\ val u' = val u - B j * (val (u.drop j) / val v * val v) /\ val (u'.drop j) < val v := by
 have hlen := H.len;have hvl := H.hv;have d1 := Bd H.lu (j + m + 1);have d2 := Bd H.lu (j + m + 2);have dv := Bd H.lv (m + 1);have htop := H.top;have G := H.guess;have hQ := H.quot;have hmod := H.mod;have hst := H.start;have hk : ∀ l : List Int, l.length = u.length -> AW (zi zj ((j : Int) + ((m + 2 : Nat) : Int))) l.length = some (j + m + 2) := fun l h => by
  rw [h, Ae, show (j : Int) + ((m + 2 : Nat) : Int) = ((j + m + 2 : Nat) : Int) by omega];exact AT (by omega)
 have hk1 : AW (zi zj (zi zj ((j : Int) + ((m + 2 : Nat) : Int)) - 1)) u.length = some (j + m + 1) := by
  rw [Ae (n := (j : Int) + ((m + 2 : Nat) : Int)), Ae, show (j : Int) + ((m + 2 : Nat) : Int) - 1 = ((j + m + 1 : Nat) : Int) by omega];exact AT (by omega)
 have hk2 : AW (zi zj (((m + 2 : Nat) : Int) - 1)) v.length = some (m + 1) := by
  rw [Ae, show ((m + 2 : Nat) : Int) - 1 = ((m + 1 : Nat) : Int) by omega];exact AT (by omega)
 have hj0 : ∀ l : List Int, l.length = out.length -> AW (j : Int) l.length = some j := fun l h => by rw [h]; exact AT hj
 have hge : decide ((j : Int) >= 0) = true := zp (by omega);have hz : (dg v (m + 1) == 0) = false := beq_eq_false_iff_ne.2 (by omega);have w1 := Ae (n := dg u (j + m + 2) * 65536);have w2 := Ae (n := dg u (j + m + 2) * 65536 + dg u (j + m + 1));have htop0 : 0 <= dg u (j + m + 2) * 65536 + dg u (j + m + 1) := by omega
 have e1 := Int.emod_add_mul_ediv (dg u (j + m + 2) * 65536 + dg u (j + m + 1)) (dg v (m + 1));have e2 := Int.emod_nonneg (dg u (j + m + 2) * 65536 + dg u (j + m + 1)) (show dg v (m + 1) ≠ 0 by omega);have e3 : (dg u (j + m + 2) * 65536 + dg u (j + m + 1)) / dg v (m + 1) <= dg u (j + m + 2) * 65536 + dg u (j + m + 1) := Int.ediv_le_self _ htop0;have w3 := Ae (n := (dg u (j + m + 2) * 65536 + dg u (j + m + 1)) / dg v (m + 1))
 obtain ⟨q, hg1, hg2, hg3, hg4⟩ := yP (out := out) (by_ := by_) (u := u) (v := v) (j := j) (m := m) G rfl (by omega) (by omega) hvl rfl rfl (by omega) rfl (q0 := (dg u (j + m + 2) * 65536 + dg u (j + m + 1)) / dg v (m + 1)) (r0 := (dg u (j + m + 2) * 65536 + dg u (j + m + 1)) % dg v (m + 1)) (by rw [Int.mul_comm]; omega) e2 hst (by omega);obtain ⟨u1, c, ht1, O⟩ := Ag9 (out := out) (by_ := by_) (n := ((m + 2 : Nat) : Int)) (j := j) H.lu H.lv (q := q) ⟨by omega, hg3⟩ (by rw [hvl]) (by omega) hl;have ol := O.len;have oc0 := O.c0;have oc1 := O.c1
 have ohi : dg u1 (j + m + 2) = dg u (j + m + 2) := O.hi _ (by omega);have ov := O.v;rw [zc3 (za7 _), hvl, show j + (m + 2) = j + m + 2 by omega] at ov;have gu1 : AN u1 (j + m + 2) = some (dg u (j + m + 2)) := by unfold AN; rw [Am, ohi]
 have w4 := Ae (n := dg u (j + m + 2) - c);have w5 := Ae (n := (j : Int) - 1);have hset : val (u1.set (j + m + 2) (dg u (j + m + 2) - c)) = val u - B j * (q * val v) := by
  rw [Hd (Am (show j + m + 2 < u1.length by omega)), ohi, show dg u (j + m + 2) - c - dg u (j + m + 2) = -c by omega, Int.mul_neg];omega
 have hsl : (u1.set (j + m + 2) (dg u (j + m + 2) - c)).length = u.length := by rw [List.length_set]; exact ol
 have hsg : ∀ i, i < j + m + 2 -> 0 <= dg (u1.set (j + m + 2) (dg u (j + m + 2) - c)) i /\ dg (u1.set (j + m + 2) (dg u (j + m + 2) - c)) i < 65536 := fun i hi => by rw [Cq]; exact Bd O.lb i
 have hsh : ∀ i, j + m + 2 < i -> dg (u1.set (j + m + 2) (dg u (j + m + 2) - c)) i = dg u i := fun i hi => by rw [Cq]; exact O.hi i (by omega)
 have hsd : dg (u1.set (j + m + 2) (dg u (j + m + 2) - c)) (j + m + 2) = dg u (j + m + 2) - c := by rw [nj (by omega), zr rfl]
 have gs : AN (u1.set (j + m + 2) (dg u (j + m + 2) - c)) (j + m + 2) = some (dg u (j + m + 2) - c) := by unfold AN; rw [Am, hsd]
 have gout : AN out j = some (dg out j) := Am hj;have gu0 : AN u (j + m + 2) = some (dg u (j + m + 2)) := Am (by omega);have gu00 : AN u (j + m + 1) = some (dg u (j + m + 1)) := Am (by omega);have gv0 : AN v (m + 1) = some (dg v (m + 1)) := Am (by omega);rcases H.one hg2 hg4 with hq | hq
 ·obtain ⟨f1, f2, f3⟩ := H.done hsl hsg hsh hset (by rw [hq]; exact hmod);rw [hsd] at f1;rw [f1] at hset hsl hsg hsh hsd gs w4 f2 f3;refine ⟨_, ?_, hsl, f2, by rw [hset, hq], f3⟩;unfold Dv;rw [hge];simp only [cond_true, cond_false, za0, hk u rfl, gu0, hk1, gu00, hk2, gv0, hz, w1, w2, zc7 htop0, zc6 htop0, w3];rw [hg1];simp only [za0];rw [ht1];simp only [za0, hk u1 ol, gu1, f1, w4, hk _ hsl, gs, show decide ((0 : Int) < 0) = false from rfl, cond_false, hj0 out rfl, gout, w5, hq]
 ·obtain ⟨f1, X, f2, f3, f4⟩ := H.after hsl hsg hsh hset;rw [hsd] at f4;have hneg : dg u (j + m + 2) - c = -1 := by
   have hlt := H.lt;have hqv : q * val v = val (u.drop j) / val v * val v + val v := by rw [hq, Int.add_mul, Int.one_mul]
   have := SR (j := m + 2) (a := val (u.drop j) - q * val v + B (m + 2)) (b := X) (X := -1) (Y := dg u (j + m + 2) - c) (by omega) (by omega) (by rw [f4, Int.mul_neg, Int.mul_one]; omega);exact this.symm
  rw [hneg] at hset hsl hsg hsh hsd gs w4;obtain ⟨u3, c3, hb1, K⟩ := Ag6 (out := out) (by_ := by_) (n := ((m + 2 : Nat) : Int)) (q := val (u.drop j) / val v) (u0 := u1.set (j + m + 2) (-1)) (v := v) (j := j) (by rw [hvl]; exact hsg) H.lv (by rw [hvl]) (by omega) (by omega);have kl : u3.length = u.length := K.len.trans hsl;have kc0 := K.c0;have kc1 := K.c1;have khi : dg u3 (j + m + 2) = -1 := by rw [K.hi _ (by omega), hsd]
  have kv := K.v;rw [zc3 (za7 _), hvl, show j + (m + 2) = j + m + 2 by omega, hset] at kv;have hset' : val (u3.set (j + m + 2) (-1 + c3)) = val u - B j * (val (u.drop j) / val v * val v) := by
   rw [Hd (Am (show j + m + 2 < u3.length by omega)), khi, show -1 + c3 - -1 = c3 by omega];have : B j * (q * val v) = B j * (val (u.drop j) / val v * val v) + B j * val v := by rw [hq, Int.add_mul, Int.one_mul, ze3]
   omega
  obtain ⟨f1, f2, f3⟩ := H.done (u4 := u3.set (j + m + 2) (-1 + c3)) (by rw [List.length_set]; exact kl) (fun i hi => by rw [Cq]; exact K.lb i (by omega)) (fun i hi => by rw [Cq, K.hi i (by omega)]; exact hsh i hi) hset' hmod;refine ⟨_, ?_, by rw [List.length_set]; exact kl, f2, hset', f3⟩;have gu3 : AN u3 (j + m + 2) = some (-1) := by unfold AN; rw [Am, khi]
  have w6 := Ae (n := -1 + c3);have w7 : zi zj (q - 1) = val (u.drop j) / val v := by rw [Ae]; omega
  unfold Dv;rw [hge];simp only [cond_true, cond_false, za0, hk u rfl, gu0, hk1, gu00, hk2, gv0, hz, w1, w2, zc7 htop0, zc6 htop0, w3];rw [hg1];simp only [za0];rw [ht1];simp only [za0, hk u1 ol, gu1, hneg, w4, hk _ hsl, gs, show decide ((-1 : Int) < 0) = true from rfl, cond_true, w7];rw [hb1];simp only [za0, hk u3 kl, gu3, hj0 out rfl, gout, w5, w6]
structure Places (u0 v:List Int) (m n:Nat) (u out:List Int):Prop where
 len:u.length=u0.length
 lu:LB u
 le:n+(m+2)<=u0.length
 less:val (u.drop n)<val v
 lo:LB out
 olen:out.length+(m+2)=u0.length
 zero:∀i,i<n->dg out i=0
 v:val u+val v*val out=val u0
theorem Places.place{u0 v u out:List Int}{m n:Nat}(h:Places u0 v m (n+1) u out)(hv:LB v)(hvl:v.length=m+2)(ht:1<=dg v (m+1)):Place u v n m:=
 ⟨h.lu,hv,hvl,ht,by have:=h.le;have:=h.len;omega,h.less⟩
theorem Places.next{u0 v u out u':List Int}{m n:Nat}(h:Places u0 v m (n+1) u out)(H:Place u v n m)(h1:u'.length=u.length)(h2:LB u')(h3:val u'=val u-B n*(val (u.drop n)/val v*val v))(h4:val (u'.drop n)<val v):
  Places u0 v m n u' (out.set n (val (u.drop n)/val v)):=by
 have hle:=h.le;have hol:=h.olen;refine⟨h1.trans h.len,h2,by omega,h4,h.lo.set H.quot,by rw[List.length_set];exact hol,fun i hi=>by rw[Cq];exact h.zero i (by omega),?_⟩;have hz:=h.zero n (by omega);rw[Hd (Am (show n<out.length by omega)),hz,h3,Int.sub_zero,ze3];have:=h.v;have e:val v*(B n*(val (u.drop n)/val v))=B n*(val (u.drop n)/val v*val v):=by grind
 omega
theorem vM{u0 v:List Int}{m:Nat}{by_:Int}(hv:LB v)(hvl:v.length=m+2)(ht:1<=dg v (m+1))(hl:u0.length<=1000000){n:Nat}{out:List Int}(h:Places u0 v m n u0 out):
  ∃u out',Ad (fun(s:List Int×List Int×List Int×Int×Int×Int)=>Dv s.1 s.2.1 s.2.2.1 s.2.2.2.1 s.2.2.2.2.1 s.2.2.2.2.2) (u0,v,out,((m+2:Nat):Int),by_,(n:Int)-1)=some (u,out',((m+2:Nat):Int),by_)/\Places u0 v m 0 u out':=by
 obtain⟨⟨u,out'⟩,h1,h2⟩:=KP (body:=fun(s:List Int×List Int×List Int×Int×Int×Int)=>Dv s.1 s.2.1 s.2.2.1 s.2.2.2.1 s.2.2.2.2.1 s.2.2.2.2.2)
  (st:=fun n (b:List Int×List Int)=>(b.1,v,b.2,((m+2:Nat):Int),by_,(n:Int)-1)) (fin:=fun b=>(b.1,b.2,((m+2:Nat):Int),by_)) (I:=fun n b=>Places u0 v m n b.1 b.2)
  (by
   rintro n ⟨u,out⟩ hI;simp only at hI;have H:=hI.place hv hvl ht;have hle:=hI.le;have hol:=hI.olen;have hul:=hI.len;obtain⟨u',g1,g2,g3,g4,g5⟩:=yS (out:=out) (by_:=by_) H (by omega) (by omega);refine⟨(u',out.set n (val (u.drop n)/val v)),?_,hI.next H g2 g3 g4 g5⟩;simp only;rw[show((n+1:Nat):Int)-1=(n:Int) by omega,g1])
  (by
   rintro⟨u,out⟩ _;unfold Dv
   dsimp only
   rw[zq];rfl) n (u0,out) h
 exact⟨u,out',h1,h2⟩
theorem Places.start{u0 v:List Int}{m n:Nat}(hu:LB u0)(hv:LB v)(hvl:v.length=m+2)(ht:1<=dg v (m+1))(hn:u0.length=n+(m+2))(h0:dg u0 (n+(m+1))=0):Places u0 v m n u0 (List.replicate n 0):=by
 refine⟨rfl,hu,by omega,?_,LB.zeros n,by simp;omega,fun i hi=>by unfold dg;rw[zc0,List.getElem?_replicate];split<;>rfl,by rw[GA];omega⟩;have h1:=Cr (u0.drop n) (m+1);have h2:=Dp (hu.drop n) (m+1);rw[List.drop_drop,C9 u0 (n+(m+1)),h0,zd2 (show u0.length<=n+(m+1)+1 by omega)]at h1;simp only[val]at h1;have h3:=Cr v (m+1);have h4:=AY (hv.take (m+1));have h5:=C9 v (m+1);have h6:=AY (hv.drop (m+1+1));have h7:=zb4 (show 1<=val (v.drop (m+1)) by omega) (ze9 (Hr (m+1)));omega
theorem Places.end{u0 v u out:List Int}{m:Nat}(h:Places u0 v m 0 u out)(hv:LB v):val out=val u0/val v/\val u=val u0%val v:=by
 have h1:=h.less;rw[ze5]at h1;exact Vv (by rw[Int.mul_comm];have:=h.v;omega) (AY h.lu) h1
theorem Yz{n:Nat}(h:n≠0):1<=dg (lim n) ((lim n).length-1)/\dg (lim n) ((lim n).length-1)<65536/\B ((lim n).length-1)*dg (lim n) ((lim n).length-1)<=n/\(n:Int)<B ((lim n).length-1)*(dg (lim n) ((lim n).length-1)+1):=by
 have hne:(lim n).length≠0:=fun hh=>h (KE.1 (zb2 hh))
 have h1:=Cr (lim n) ((lim n).length-1);have h2:=Dp (AJ n) ((lim n).length-1);rw[C9,zd2 (show(lim n).length<=(lim n).length-1+1 by omega),As]at h1;simp only[val,Int.mul_zero,Int.add_zero]at h1;have h3:=Bd (AJ n) ((lim n).length-1);refine⟨?_,h3.2,by omega,by rw[ze3];omega⟩;rcases Int.lt_or_le 0 (dg (lim n) ((lim n).length-1))with g|g
 ·omega
 ·exfalso;have g0:dg (lim n) ((lim n).length-1)=0:=by omega
  refine VV n _ (List.getLast?_eq_getElem? .. ▸Am (show(lim n).length-1<(lim n).length by omega)) g0
theorem N5{l:List Int}{n:Int}{i:Nat}(hn:n=(i:Int))(h:i<l.length):AA l n=some (dg l i):=by rw[hn,Af];exact Am h
theorem fH{n m:Int}{a b k:Nat}(hn:n=(a:Int))(hm:m=(b:Int))(h1:a<=b)(h2:b<=k):Fx n m k=some (a,b):=by
 subst hn hm;unfold Fx;simp[h1,h2]
theorem pS{b:Nat}(h:(lim b).length=1):(lim b)=[(b:Int)]/\b<65536/\b≠0:=by
 match hl:lim b with
 |[]=>rw[hl]at h;simp at h
 |[x]=>
  have hv:=As b;have hb:=AJ b;rw[hl]at hv hb;have h0:=hb.head;simp only[val]at hv;have:b≠0:=fun h0=>by rw[h0,CH]at hl;simp at hl
  exact⟨by congr 1;omega,by omega,this⟩
 |x::y::l=>rw[hl]at h;simp at h
theorem Z1{a b c:Nat}(hc:0<c):a*c/(b*c)=a/b/\a*c%(b*c)=a%b*c:=⟨Nat.mul_div_mul_right _ _ hc,Nat.mul_mod_mul_right _ _ _⟩
theorem Ao6{t by_:Int}(h1:1<=t)(h2:t<65536)(hb:by_=65536/(t+1)):1<=by_/\by_<=32768/\by_*(t+1)<=65536:=by
 have e1:=Int.emod_add_mul_ediv 65536 (t+1);have e2:=Int.emod_nonneg 65536 (show t+1≠0 by omega);have e3:=Int.emod_lt_of_pos 65536 (show 0<t+1 by omega);rw[<-hb]at e1;have e4:1<=by_:=by
  rw[hb];exact(Int.le_ediv_iff_mul_le (by omega)).2 (by omega)
 have e5:by_*2<=by_*(t+1):=zb4 (by omega) (by omega);rw[Int.mul_comm]at e1;exact⟨e4,by omega,by omega⟩
set_option maxHeartbeats 1000000 in
theorem aj {a b : Nat} (hb0 : b ≠ 0) (ha : (lim a).length <= 90000) (hb : (lim b).length <= 90000) : HZ (lim a) (lim b) = some (lim (a / b), lim (a % b)) := by
 unfold HZ;rw [Iv (by unfold Az; omega) (by unfold Az; omega)];simp only [za0];by_cases hab : a < b
 ·rw [EY];simp only [show decide ((-1 : Int) < 0) = true from rfl, cond_true];rw [Nat.div_eq_of_lt hab, Nat.mod_eq_of_lt hab, CH]
 have hc : decide (Dt (a : Int) b < 0) = false := by
  rcases Co (a : Int) b with ⟨h, g⟩ | ⟨h, _⟩ | ⟨h, _⟩
  ·omega
  ·rw [h]; rfl
  ·rw [h]; rfl
 simp only [hc, cond_false];have hbl : (lim b).length ≠ 0 := fun h => hb0 (KE.1 (zb2 h))
 by_cases h1 : (lim b).length = 1
 ·obtain ⟨e1, e2, e3⟩ := pS h1;rw [e1];simp only [List.length_singleton, show (((1 : Nat) : Int) == 1) = true from rfl, cond_true];rw [show AA [(b : Int)] 0 = some (b : Int) from rfl];simp only [za0];rw [ak (by omega) (by omega)];simp only [za0, zc2];rw [eG (by unfold Az; simp)];have hm := Nat.mod_lt a (show b > 0 by omega);simp only [za0, CO (LB.cons (show (0 : Int) <= ((a % b : Nat) : Int) /\ ((a % b : Nat) : Int) < 65536 by omega) LB.nil), val]
  congr 3
 have hn1 : ((((lim b).length : Nat) : Int) == 1) = false := beq_eq_false_iff_ne.2 (by omega);obtain ⟨m, hm⟩ : ∃ m, (lim b).length = m + 2 := ⟨(lim b).length - 2, by omega⟩;obtain ⟨t1, t2, t3, t4⟩ := Yz hb0;rw [hm, show m + 2 - 1 = m + 1 by omega] at t1 t2 t3 t4;have hg := N5 (l := lim b) (n := zi zj (((lim b).length : Int) - 1)) (i := m + 1) (by rw [Ae]; omega) (by omega);generalize ht : dg (lim b) (m + 1) = t at *
 have wt : zi zj (t + 1) = t + 1 := Ae (by omega) (by omega);have hz : (t + 1 == 0) = false := beq_eq_false_iff_ne.2 (by omega);obtain ⟨s1, s2, s3⟩ := Ao6 t1 t2 rfl;have hby : zi zj (Int.tdiv 65536 (t + 1)) = 65536 / (t + 1) := by rw [zc7 (by omega)]; exact Ae (by omega) (by omega)
 generalize hby2 : 65536 / (t + 1) = by_ at *
 obtain ⟨c, rfl⟩ : ∃ c : Nat, by_ = (c : Int) := ⟨by_.toNat, by omega⟩;have hb40 : (lim a).length <= 90000 := ha;have hBa : (a : Int) < B (lim a).length := Ao.1 (za7 _);have hBb : (b : Int) < B (lim b).length := Ao.1 (za7 _);have hB1 : B 1 = 65536 := rfl;have fitc : ∀ k, 1 <= k -> (((c : Int)).natAbs : Int) < B k := fun k hk => by
  have := K2 hk;omega
 have hk1 : 1 <= (lim a).length := by
  rcases Nat.eq_zero_or_pos (lim a).length with h | h
  ·have := KE.1 (zb2 h); omega
  ·exact h
 obtain ⟨ra, hra, era⟩ := EF (x := (a : Int)) (y := (c : Int)) (k := (lim a).length) (by omega) (by rw [zf4]; exact hBa) (fitc _ hk1);obtain ⟨rb, hrb, erb⟩ := EF (x := (b : Int)) (y := (c : Int)) (k := (lim b).length) (by omega) (by rw [zf4]; exact hBb) (fitc _ (by omega));have bn : ∀ n : Nat, big (n : Int) = (false, lim n) := fun n => by unfold big; rw [zq, zf4]
 have ra1 : ra.1 = lim (a * c) := by rw [show (a : Int) * c = ((a * c : Nat) : Int) by simp, bn] at era; exact (Prod.ext_iff.1 era).2
 have rb1 : rb.1 = lim (b * c) := by rw [show (b : Int) * c = ((b * c : Nat) : Int) by simp, bn] at erb; exact (Prod.ext_iff.1 erb).2
 rw [bn, bn] at hra hrb;have mkb : ∀ n : Nat, (lim n).length <= 90000 -> Bo false (lim n) = some (lim n, false) := fun n hn => by
  rw [Jo (AJ n) (by unfold Az; omega), As]; simp
 simp only [hn1, cond_false, hg, za0, wt, hz, hby, mkb a ha, mkb b hb, Yv (n := (c : Int)) (by omega) (by omega), bn, hra, hrb, ra1, rb1];have hc0 : 0 < c := by omega
 have la : (lim a).length <= (lim (a * c)).length := by
  rw [Ao];have h1 : ((a * c : Nat) : Int) < B (lim (a * c)).length := Ao.1 (za7 _);have : a * 1 <= a * c := Nat.mul_le_mul_left _ (by omega);omega
 have la2 : (lim (a * c)).length <= (lim a).length + 1 := by
  rw [Ao];rw [show ((a * c : Nat) : Int) = (a : Int) * c by simp];have e1 : (a : Int) * c <= a * 65536 := zb4 (by omega) (by omega);simp only [B];omega
 have lb : (lim (b * c)).length = m + 2 := by
  apply Nat.le_antisymm
  ·rw [Ao];rw [show ((b * c : Nat) : Int) = (b : Int) * c by simp];have e1 : (b : Int) * c < B (m + 1) * (t + 1) * c := Int.mul_lt_mul_of_pos_right t4 (by omega);have e2 : B (m + 1) * ((c : Int) * (t + 1)) <= B (m + 1) * 65536 := zb4 s3 (ze9 (Hr _));have e3 : B (m + 1) * (t + 1) * c = B (m + 1) * ((c : Int) * (t + 1)) := by rw [Int.mul_assoc, Int.mul_comm (t + 1)]
   have e4 : B (m + 2) = B (m + 1) * 65536 := by simp only [B]; omega
   omega
  ·rw [<- hm, Ao];have h1 : ((b * c : Nat) : Int) < B (lim (b * c)).length := Ao.1 (za7 _);have : b * 1 <= b * c := Nat.mul_le_mul_left _ (by omega);omega
 have happ : BV 8 1 (lim (a * c)) [0] = some (lim (a * c) ++ [0]) := jG (by omega);have hle : (lim b).length <= (lim a).length := by
  rw [Ao]; omega
 simp only [happ, za0];rw [Ak (r := (lim (a * c) ++ [0], lim (b * c), ((lim b).length : Int), (c : Int))) (by
  unfold Pg
  dsimp only
  rw [Ae (by omega) (by omega), zq (by simp; omega)];rfl)]
 simp only [za0];have hlu : (lim (a * c) ++ [(0 : Int)]).length = ((lim (a * c)).length - (m + 1)) + (m + 2) := by simp; omega
 have wl : zi zj (((lim (a * c) ++ [(0 : Int)]).length : Int) - ((lim b).length : Int)) = (((lim (a * c)).length - (m + 1) : Nat) : Int) := by
  rw [Ae]; omega
 generalize hn : (lim (a * c)).length - (m + 1) = n at *
 rw [wl, JW (by unfold Aa; omega) (by unfold Aa; omega)];simp only [za0];have hval0 : val (lim (a * c) ++ [(0 : Int)]) = ((a * c : Nat) : Int) := by rw [ND, As]; omega
 have hlb0 : LB (lim (a * c) ++ [(0 : Int)]) := (AJ _).append (LB.cons (by omega) LB.nil);have hbc0 : b * c ≠ 0 := Nat.mul_ne_zero hb0 (by omega);have htop := (Yz hbc0).1;rw [lb, show m + 2 - 1 = m + 1 by omega] at htop;obtain ⟨u, out, hp, P⟩ := vM (by_ := (c : Int)) (AJ (b * c)) lb htop (by omega) (Places.start hlb0 (AJ _) lb htop hlu (by
  unfold dg;rw [zc0, List.getElem?_append_right (by omega), show n + (m + 1) - (lim (a * c)).length = 0 by omega];rfl))
 rw [show ((lim b).length : Int) = ((m + 2 : Nat) : Int) by omega, Ae, hp];simp only [za0];obtain ⟨p1, p2⟩ := P.end (AJ _);rw [hval0, As] at p1 p2;obtain ⟨q1, q2⟩ := Z1 (a := a) (b := b) hc0;have p1' : val out = ((a / b : Nat) : Int) := by rw [p1, <- q1]; simp
 have p2' : val u = ((a % b * c : Nat) : Int) := by rw [p2, <- q2]; simp
 have hul := P.len;have hol := P.olen;rw [fH (a := 0) (b := m + 2) (by rfl) rfl (by omega) (by omega)];simp only [za0, ze5, Nat.sub_zero, zf3];have hless := P.less;rw [ze5, As] at hless;have hbc : ((b * c : Nat) : Int) < B (m + 2) := by rw [<- lb]; exact Ao.1 (za7 _)
 have hvt : val (u.take (m + 2)) = val u := by
  have h1 := Cr u (m + 2);have h2 := (pv P.lu (n := m + 2) (k := m + 2) (by omega) (za7 _)).2;rw [h2] at h1;omega
 rw [eG (by unfold Az; rw [zd9]; omega)];simp only [za0];rw [CO (P.lu.take _), hvt, p2', zc2, ak (by omega) (by
  have : (lim (a % b * c)).length <= m + 2 := by
   rw [Ao];have := Nat.mul_lt_mul_of_pos_right (Nat.mod_lt a (show b > 0 by omega)) hc0;omega
  omega)]
 simp only [za0];rw [eG (by unfold Az; omega)];simp only [za0];rw [CO P.lo, p1', zc2, zc2, Nat.mul_div_cancel _ hc0]
theorem jX(v:List Int)(k:Nat):dg (v++[0]) k=dg v k:=by
 unfold dg;simp only[zc0];rcases zd8 k v.length with h|h
 ·rw[List.getElem?_append_left h]
 ·rw[List.getElem?_append_right h,List.getElem?_eq_none h];rcases Nat.eq_zero_or_pos (k-v.length)with g|g
  ·rw[g];rfl
  ·rw[List.getElem?_eq_none (by simp;omega)]
theorem fO(v:List Int):val (v++[0])=val v:=by rw[ND];omega
theorem kM{v:List Int}(h:LB v):LB (v++[0]):=h.append (LB.cons (by omega) LB.nil)
theorem Aj4{u0 v:List Int}{q:Int}{j:Nat}(hu:LB u0)(hv:LB v)(hq:0<=q/\q<65536)(hlen:j+v.length<u0.length)(hl:u0.length<=1000000):
  ∃u c,NR u0 v (j:Int) q=some (u,c)/\Off u0 u j (v.length+1) c q (v++[0]):=by
 obtain⟨⟨u,c⟩,h1,h2⟩:=Bw (body:=fun(s:List Int×List Int×Int×Int×Int×Int)=>Kj s.1 s.2.1 s.2.2.1 s.2.2.2.1 s.2.2.2.2.1 s.2.2.2.2.2)
  (st:=fun k (b:List Int×Int)=>(b.1,v,(j:Int),q,b.2,(k:Int))) (fin:=fun b=>(b.1,b.2)) (I:=fun k b=>Off u0 b.1 j k b.2 q (v++[0])) (e:=v.length+1)
  (by
   rintro k ⟨u,c⟩ hk hI;simp only at hI;have hul:=hI.len;have hp:j+k<u.length:=by omega
   have du:=Bd hI.lb (j+k);have dv:=Bd hv k;have c0:=hI.c0;have c1:=hI.c1;have m0:0<=q*dg v k:=zf6 hq.1 dv.1;have m1:q*dg v k<=65535*65535:=Int.le_trans (zb4 (show dg v k<=65535 by omega) hq.1) (zb1 (show q<=65535 by omega) (by omega));have hnx:=hI.next (kM hv) hq hp rfl;rw[jX]at hnx;refine⟨(u.set (j+k) (dg u (j+k)-q*dg v k-c+(if dg u (j+k)-q*dg v k-c<0 then(-(dg u (j+k)-q*dg v k-c)+65536-1)/65536 else 0)*65536),if dg u (j+k)-q*dg v k-c<0 then(-(dg u (j+k)-q*dg v k-c)+65536-1)/65536 else 0),?_,hnx⟩;unfold Kj AN
   dsimp only
   have i1:AW ((j:Int)+(k:Int)) u.length=some (j+k):=by rw[show(j:Int)+(k:Int)=((j+k:Nat):Int) by omega];exact AT hp
   have hw1:=Aw (show k<4611686018427387904 by omega);have hjk:=Ae (n:=(j:Int)+(k:Int));rw[zp,hjk];simp only[cond_true,i1,za0,Am hp,Nz];rw[Ae (n:=q*dg v k),Ae (n:=dg u (j+k)-q*dg v k),Ae (n:=dg u (j+k)-q*dg v k-c)];have hxb: -4294967296<=dg u (j+k)-q*dg v k-c/\dg u (j+k)-q*dg v k-c<65536:=by omega
   generalize dg u (j+k)-q*dg v k-c=x at*
   by_cases hx:x<0
   ·rw[zp hx,zr hx,Ae (n:=0-x),Ae (n:=0-x+65536),Ae (n:=0-x+65536-1),zc7 (by omega),show 0-x+65536-1= -x+65536-1 by omega];rw[Ae (n:=(-x+65536-1)/65536),Ae (n:=(-x+65536-1)/65536*65536),Ae (n:=x+(-x+65536-1)/65536*65536)];simp only[cond_true,za0,za6,hjk,i1,Am hp,hw1]
   ·rw[zq hx,zw hx];simp only[cond_false,za0,za6,hjk,i1,Am hp,hw1,Int.zero_mul,Int.add_zero])
  (by
   rintro⟨u,c⟩ _;unfold Kj
   dsimp only
   rw[zq];rfl) 0 (u0,0) (by omega) (Off.start hu j q (v++[0]))
 refine⟨u,c,?_,h2⟩;unfold NR
 dsimp only at h1
 rw[show((0:Nat):Int)=0 from rfl]at h1;rw[h1];rfl
theorem Aj1{u0 v:List Int}{j:Nat}(hu:LB u0)(hv:LB v)(hlen:j+v.length<u0.length)(hl:u0.length<=1000000):
  ∃u c,NP u0 v (j:Int)=some u/\Back u0 u j (v.length+1) c (v++[0]):=by
 obtain⟨⟨u,c⟩,h1,h2⟩:=Bw (body:=fun(s:List Int×List Int×Int×Int×Int)=>Kh s.1 s.2.1 s.2.2.1 s.2.2.2.1 s.2.2.2.2)
  (st:=fun k (b:List Int×Int)=>(b.1,v,(j:Int),b.2,(k:Int))) (fin:=fun b=>b.1) (I:=fun k b=>Back u0 b.1 j k b.2 (v++[0])) (e:=v.length+1)
  (by
   rintro k ⟨u,c⟩ hk hI;simp only at hI;have hul:=hI.len;have hp:j+k<u.length:=by omega
   have du:=hI.lb (j+k) (by simp;omega);have dv:=Bd hv k;have c0:=hI.c0;have c1:=hI.c1;have hnx:=hI.next (kM hv) (by simp;omega) hp;rw[jX]at hnx;refine⟨⟨_,_⟩,?_,hnx⟩;unfold Kh AN
   dsimp only
   have i1:AW ((j:Int)+(k:Int)) u.length=some (j+k):=by rw[show(j:Int)+(k:Int)=((j+k:Nat):Int) by omega];exact AT hp
   have hw1:=Aw (show k<4611686018427387904 by omega);have hjk:=Ae (n:=(j:Int)+(k:Int));rw[zp,hjk];simp only[cond_true,i1,za0,Am hp,Nz];rw[Ae (n:=dg u (j+k)+dg v k),Ae (n:=dg u (j+k)+dg v k+c),zc6 (by omega),zc7 (by omega),Ae (n:=(dg u (j+k)+dg v k+c)/65536),hw1])
  (by
   rintro⟨u,c⟩ _;unfold Kh
   dsimp only
   rw[zq];rfl) 0 (u0,0) (by omega) ⟨rfl,fun i _=>Bd hu i,fun _ _=>rfl,by simp only;omega,by simp only;omega,by simp[val]⟩
 refine⟨u,c,?_,h2⟩;unfold NP
 dsimp only at h1
 rw[show((0:Nat):Int)=0 from rfl]at h1;rw[h1];rfl
theorem zL{u v:List Int}{j m:Nat}(H:Place u v j m)(hl:u.length<=1000000):
  ∃q,Mr u v (j:Int)=some q/\val (u.drop j)/val v<=q/\q<65536/\q*val v<val (u.drop j)+val v:=by
 have G:=H.guess;have hv:=H.hv;have hlen:=H.len;have hrest:=H.rest;have hst:=H.start;have d1:=Bd H.lu (j+m+1);have d2:=Bd H.lu (j+m+2);have hu:j+m<u.length:=by omega
 have htop65:dg u (j+m+2)*65536+dg u (j+m+1)<65536*(dg v (m+1)+1):=by
  have hP:=G.hP;have hU:=G.hU;have hV:=G.hV;have hv2:=G.hv2;have hvr:=G.hvr;have hu2:=G.hu2;have hur:=G.hur;rcases Int.lt_or_le (dg u (j+m+2)*65536+dg u (j+m+1)) (65536*(dg v (m+1)+1))with h|h
  ·exact h
  ·exfalso;generalize dg u (j+m+2)*65536+dg u (j+m+1)=top at*
   generalize dg v (m+1)=v1 at*
   generalize dg v m=v2 at*
   generalize dg u (j+m)=u2 at*
   generalize val (v.take m)=vr at*
   generalize val ((u.drop j).take m)=ur at*
   have e1:=zb1 (show 65536*(v1+1)*65536<=top*65536+u2 by omega) (ze9 hP);have e2:=zb1 (show v1*65536+v2+1<=(v1+1)*65536 by omega) (ze9 hP);rw[Int.add_mul,Int.one_mul]at e2;have e3:65536*(v1+1)*65536*B m=65536*((v1+1)*65536*B m):=by grind
   omega
 have hv1:=G.hv1;have hv1':=G.hv1';have htop0:0<=dg u (j+m+2)*65536+dg u (j+m+1):=by omega
 have e1:=Int.emod_add_mul_ediv (dg u (j+m+2)*65536+dg u (j+m+1)) (dg v (m+1));have e2:=Int.emod_nonneg (dg u (j+m+2)*65536+dg u (j+m+1)) (show dg v (m+1)≠0 by omega);have e3:(dg u (j+m+2)*65536+dg u (j+m+1))/dg v (m+1)<=dg u (j+m+2)*65536+dg u (j+m+1):=Int.ediv_le_self _ htop0;have e4:=Int.ediv_nonneg htop0 (show 0<=dg v (m+1) by omega);have w1:=Ae (n:=dg u (j+m+2)*65536);have w2:=Ae (n:=dg u (j+m+2)*65536+dg u (j+m+1));have w3:=Ae (n:=(dg u (j+m+2)*65536+dg u (j+m+1))/dg v (m+1));have g1:AA u (zi zj ((j:Int)+(v.length:Int)))=some (dg u (j+m+2)):=N5 (by rw[Ae];omega) (by omega)
 have g2:AA u (zi zj (zi zj ((j:Int)+(v.length:Int))-1))=some (dg u (j+m+1)):=N5 (by rw[Ae (n:=(j:Int)+(v.length:Int)),Ae];omega) (by omega);have g3:AA v (zi zj ((v.length:Int)-1))=some (dg v (m+1)):=N5 (by rw[Ae];omega) (by omega);have g4:AA v (zi zj ((v.length:Int)-2))=some (dg v m):=N5 (by rw[Ae];omega) (by omega);have g5:AA u (zi zj (zi zj ((j:Int)+(v.length:Int))-2))=some (dg u (j+m)):=N5 (by rw[Ae (n:=(j:Int)+(v.length:Int)),Ae];omega) (by omega);have hz:(dg v (m+1)==0)=false:=beq_eq_false_iff_ne.2 (by omega)
 obtain⟨r,h1,h2⟩:=GY (f:=fun(s:List Int×List Int×Int×Int×Int×Int)=>Fj s.1 s.2.1 s.2.2.1 s.2.2.2.1 s.2.2.2.2.1 s.2.2.2.2.2)
  (I:=fun s=>∃q r:Int,s=(u,v,(j:Int),(v.length:Int),q,r)/\q*dg v (m+1)+r=dg u (j+m+2)*65536+dg u (j+m+1)/\0<=r/\val (u.drop j)/val v<=q/\q<4294967296)
  (R:=fun q=>val (u.drop j)/val v<=q/\q<65536/\q*val v<val (u.drop j)+val v) (fun s=>s.2.2.2.2.1.toNat) (by
   rintro s ⟨q,r,rfl,f1,f2,f3,f4⟩;simp only;have hQ0:=G.hQ0;have hQ1:=G.hQ1;have hv2:=G.hv2;have hu2:=G.hu2;have htop:=G.htop;have hqv:0<=q*dg v (m+1):=zf6 (by omega) (by omega);have hqv2:0<=q*dg v m:=zf6 (by omega) hv2.1;have hqv2':q*dg v m<=4294967296*65536:=Int.le_trans (zb4 (show dg v m<=65536 by omega) (by omega)) (zb1 (show q<=4294967296 by omega) (by omega));have w5:=Ae (n:=q*dg v m);have w6:=Ae (n:=r*65536);have w7:=Ae (n:=r*65536+dg u (j+m));have w8:=Ae (n:=q-1);have w9:=Ae (n:=r+dg v (m+1))
   have less:∀(hgo:val (u.drop j)/val v<=q-1),∃q' r':Int,(u,v,(j:Int),(v.length:Int),q-1,r+dg v (m+1))=(u,v,(j:Int),(v.length:Int),q',r')/\q'*dg v (m+1)+r'=dg u (j+m+2)*65536+dg u (j+m+1)/\0<=r'/\val (u.drop j)/val v<=q'/\q'<4294967296:=by
    intro hgo;exact⟨q-1,r+dg v (m+1),rfl,by rw[Int.sub_mul];omega,by omega,hgo,by omega⟩
   by_cases c2:r<65536
   ·by_cases c1:q>=65536
    ·refine .inl ⟨(u,v,(j:Int),(v.length:Int),q-1,r+dg v (m+1)),?_,less (by omega),by simp only;omega⟩;unfold Fj;rw[zp c2,zp c1];simp only[cond_true,za0,zg0,za6,g3,w8,w9]
    ·by_cases c3:q*dg v m>r*65536+dg u (j+m)
     ·have hlt:=af G.hP G.hv1 G.hv2 G.hvr G.hu2 G.hur G.hV G.hU f1 (by omega) c3;have hne:val (u.drop j)/val v<=q-1:=by
       rcases Int.lt_or_le (q-1) (val (u.drop j)/val v)with h|h
       ·have:q=val (u.drop j)/val v:=by omega
        have:=G.hQ;subst q;omega
       ·exact h
      refine .inl ⟨(u,v,(j:Int),(v.length:Int),q-1,r+dg v (m+1)),?_,less hne,by simp only;omega⟩;unfold Fj;rw[zp c2,zq c1];simp only[cond_true,cond_false,za0,g4,g5,w5,w6,w7,zp c3,za6,g3,w8,w9]
     ·refine .inr ⟨q,?_,f3,by omega,eC G.hP G.hv1 G.hv2 G.hvr G.hu2 G.hur G.hV G.hU f1 (by omega) (by omega) (by omega)⟩;unfold Fj;rw[zp c2,zq c1];simp only[cond_true,cond_false,za0,g4,g5,w5,w6,w7,zq c3,zg0]
   ·have hq65:q<65536:=by
     rcases Int.lt_or_le q 65536 with h|h
     ·exact h
     ·exfalso;have:=zb1 h (show 0<=dg v (m+1) by omega);omega
    have hle:=ag G.hP G.hv1 G.hv2 G.hvr G.hu2 G.hur G.hV G.hU f1 (by omega) hq65 (by omega);have hV0:=G.hV0;refine .inr ⟨q,?_,f3,hq65,by omega⟩;unfold Fj;rw[zq c2];rfl) (u,v,(j:Int),(v.length:Int),(dg u (j+m+2)*65536+dg u (j+m+1))/dg v (m+1),(dg u (j+m+2)*65536+dg u (j+m+1))%dg v (m+1)) ⟨_,_,rfl,by rw[Int.mul_comm];omega,e2,hst,by omega⟩
 refine⟨r,?_,h2⟩;unfold Mr;simp only[g1,g2,g3,za0,hz,cond_false,w1,w2,zc7 htop0,zc6 htop0,w3];rw[h1];rfl
theorem Place.part{u v u':List Int}{j m:Nat}(H:Place u v j m)(h1:u'.length=u.length)(h2:LB u')(h3:∀i,j+m+3<=i->dg u' i=dg u i){W e:Int}(h4:val u'=val u-B j*W+B (j+m+3)*e):
  val (u'.drop j)=val (u.drop j)-W+B (m+3)*e/\0<=val (u'.drop j)/\val (u'.drop j)<B (m+3):=by
 have hz:val (u'.drop (j+(m+3)))=0:=QD fun i=>by rw[Ys,h3 _ (by omega)];exact(H.high (by omega)).1
 have p1:=Cr (u'.drop j) (m+3);rw[List.drop_drop,hz]at p1;have p2:=Dp (h2.drop j) (m+3);have p3:=Cr u' j;have p4:=Cr u j;have p5:=Dp h2 j;have p6:=Dp H.lu j;refine⟨?_,by omega,by omega⟩;refine SR p5 p6 ?_;have e1:B (j+m+3)*e=B j*(B (m+3)*e):=by rw[show j+m+3=j+(m+3) by omega,S6];grind
 rw[ze3,Int.mul_sub];omega
set_option maxHeartbeats 1000000 in
theorem zR {u v out : List Int} {bits : Int} {j m : Nat} (H : Place u v j m) (hl : u.length <= 1000000) (hj : j < out.length) :
  ∃ u', CJ u v out bits (j : Int) = some (.inl (u', v, out.set j (val (u.drop j) / val v), bits, (j : Int) - 1)) /\
   u'.length = u.length /\ LB u' /\ val u' = val u - B j * (val (u.drop j) / val v * val v) /\ val (u'.drop j) < val v := by
 have hlen := H.len;have hvl := H.hv;have hQ := H.quot;have hmod := H.mod;have hlt := H.lt;have hpos := H.pos;have hB3 : B (m + 3) = 65536 * B (m + 2) := rfl;obtain ⟨q, hg1, hg2, hg3, hg4⟩ := zL H hl;obtain ⟨u1, c, ht1, O⟩ := Aj4 (j := j) (q := q) H.lu H.lv ⟨by omega, hg3⟩ (by omega) hl;have ov := O.v;have ol := O.len;have oc0 := O.c0;rw [zc3 (by simp), fO, hvl, show j + (m + 2 + 1) = j + m + 3 by omega] at ov;have oh := O.hi;rw [hvl, show j + (m + 2 + 1) = j + m + 3 by omega] at oh;obtain ⟨p1, p2, p3⟩ := H.part ol O.lb oh (W := q * val v) (e := c) (by omega)
 have hge : decide ((j : Int) >= 0) = true := zp (by omega);have w5 := Ae (n := (j : Int) - 1);have hj0 : AW (j : Int) out.length = some j := AT hj;have gout : AN out j = some (dg out j) := Am hj;have hBp := Hr (m + 3);rcases H.one hg2 hg4 with hq | hq
 ·have hc : c = 0 := by
   rw [hq] at p1;have := SR (j := m + 3) (a := val (u1.drop j)) (b := val (u.drop j) - val (u.drop j) / val v * val v) (X := 0) (Y := c) ⟨p2, p3⟩ (by omega) (by omega);exact this.symm
  subst hc;refine ⟨u1, ?_, ol, O.lb, by rw [hq] at ov; omega, by rw [hq] at p1; omega⟩;unfold CJ;simp only [hge, cond_true, hg1, ht1, za0, ol, decide_true, show decide ((0 : Int) > 0) = false from rfl, cond_false, hj0, gout, w5];rw [hq]
 ·have hqv : q * val v = val (u.drop j) / val v * val v + val v := by rw [hq, Int.add_mul, Int.one_mul]
  have hc : c = 1 := by
   have := SR (j := m + 3) (a := val (u1.drop j)) (b := val (u.drop j) - q * val v + B (m + 3)) (X := 1) (Y := c) ⟨p2, p3⟩ (by omega) (by omega);exact this.symm
  subst hc;obtain ⟨u2, c2, hb1, K⟩ := Aj1 (u0 := u1) (v := v) (j := j) O.lb H.lv (by omega) (by omega);have kl := K.len;have kh := K.hi;have kv := K.v;rw [zc3 (by simp), fO, hvl, show j + (m + 2 + 1) = j + m + 3 by omega] at kv;rw [hvl, show j + (m + 2 + 1) = j + m + 3 by omega] at kh;have klb : LB u2 := aw fun i hi => by
   rcases zd8 i (j + m + 3) with g | g
   ·exact K.lb i (by simp; omega)
   ·rw [kh i g]; exact Bd O.lb i
  have e1 : B j * (q * val v) = B j * (val (u.drop j) / val v * val v) + B j * val v := by rw [hqv, ze3]
  have hall : val u2 = val u - B j * (val (u.drop j) / val v * val v) + B (j + m + 3) * (1 - c2) := by
   rw [Int.mul_sub]; omega
  obtain ⟨k1, k2, k3⟩ := H.part (kl.trans ol) klb (fun i hi => (kh i hi).trans (oh i hi)) hall;have hc2 : c2 = 1 := by
   have := SR (j := m + 3) (a := val (u2.drop j)) (b := val (u.drop j) - val (u.drop j) / val v * val v) (X := 0) (Y := 1 - c2) ⟨k2, k3⟩ (by omega) (by omega);omega
  subst hc2;refine ⟨u2, ?_, kl.trans ol, klb, by omega, by omega⟩;have w7 : zi zj (q - 1) = val (u.drop j) / val v := by rw [Ae]; omega
  unfold CJ;simp only [hge, cond_true, hg1, ht1, za0, ol, decide_true, show decide ((1 : Int) > 0) = true from rfl, hb1, kl, hj0, gout, w5, w7]
theorem pY{s o t:Nat}(ho:o<2^s)(h:2^s*t+o<4611686018427387904):orI .i64 (o:Int) ((2^s*t:Nat):Int)=((o+2^s*t:Nat):Int):=by
 unfold orI;rw[BitVec.ofInt_natCast,BitVec.ofInt_natCast,BitVec.toNat_or,BitVec.toNat_ofNat,BitVec.toNat_ofNat];have h64:IntKind.bits .i64=64:=rfl;rw[h64,Nat.mod_eq_of_lt (by omega),Nat.mod_eq_of_lt (by omega),Nat.or_comm,<-Nat.two_pow_add_eq_or_of_lt ho,Ae];omega
theorem bw{x:Int}{s:Nat}(hs:s<=63:=by omega)(h0: -9223372036854775808<=x*2^s:=by omega)(h1:x*2^s<=9223372036854775807:=by omega):Wd .i64 x (zi zk (s:Int))=x*2^s:=by
 unfold Wd;rw[bT,show min ((s:Int).toNat) (IntKind.bits .i64)=s by simp[IntKind.bits];omega,Ae h0 h1]
theorem xC{x:Int}{s:Nat}(hs:s<=63):oM .i64 x (zi zk (s:Int))=x/2^s:=by
 unfold oM;rw[bT,show min ((s:Int).toNat) (IntKind.bits .i64)=s by simp[IntKind.bits];omega];exact Int.fdiv_eq_ediv_of_nonneg _ (ze9 (Int.pow_pos (by decide)))
theorem Rq{s:Nat}(hs:s<=16):∃S T:Nat,S=2^s/\T=2^(16-s)/\S*T=65536/\1<=S/\1<=T/\S<=65536:=by
 refine⟨2^s,2^(16-s),rfl,rfl,?_,Nat.one_le_two_pow,Nat.one_le_two_pow,?_⟩
 ·rw[<-Nat.pow_add,show s+(16-s)=16 by omega]
 ·exact Nat.pow_le_pow_right (by decide) hs
theorem bM{S T x:Int}(hST:S*T=65536)(hS:1<=S)(hT:1<=T)(hx:0<=x/\x<65536):
  x*S%65536=S*(x%T)/\x*S/65536=x/T/\0<=x/T/\x/T<S/\0<=x%T/\x%T<T/\S*(x%T)+65536*(x/T)=x*S/\S*(x%T)+S<=65536:=by
 have e1:=Int.emod_add_mul_ediv x T;have e2:=Int.emod_nonneg x (show T≠0 by omega);have e3:=Int.emod_lt_of_pos x (show 0<T by omega);have e4:=Int.ediv_nonneg hx.1 (show 0<=T by omega);have e5:x/T<S:=Int.ediv_lt_of_lt_mul (by omega) (by rw[hST];exact hx.2);have e6:x*S=S*(x%T)+65536*(x/T):=by
  have h2:S*(x%T+T*(x/T))=S*(x%T)+(S*T)*(x/T):=by rw[ze3,Int.mul_assoc]
  rw[e1,hST]at h2;rw[<-h2,Int.mul_comm]
 have e7:S*(x%T)+S<=65536:=by
  have h2:=zb4 (show x%T+1<=T by omega) (show 0<=S by omega);rw[ze3,hST]at h2;omega
 have e8:0<=S*(x%T):=zf6 (by omega) e2;rw[e6];refine⟨?_,?_,e4,e5,e2,e3,rfl,e7⟩<;>omega
theorem nn{S T x y R:Int}(hST:S*T=65536)(hS:1<=S)(hT:1<=T)(hx:0<=x/\x<65536):(x+65536*(y+65536*R))/S=(x+65536*y)/S%65536+65536*((y+65536*R)/S):=by
 have e1:x+65536*(y+65536*R)=(x+65536*y)+S*(T*65536*R):=by
  have:S*(T*65536*R)=(S*T)*(65536*R):=by grind
  rw[this,hST];omega
 have e2:(x+65536*(y+65536*R))/S=(x+65536*y)/S+T*65536*R:=by rw[e1,Int.add_mul_ediv_left _ _ (by omega)]
 have e3:(x+65536*(y+65536*R))/S%65536=(x+65536*y)/S%65536:=by
  rw[e2,show T*65536*R=65536*(T*R) by grind,Int.add_mul_emod_self_left]
 have e4:(x+65536*(y+65536*R))/S/65536=(y+65536*R)/S:=by
  rw[Int.ediv_ediv_of_nonneg (by omega),Int.mul_comm S,<-Int.ediv_ediv_of_nonneg (by decide)]
  congr 1
  omega
 have e5:=Int.emod_add_mul_ediv ((x+65536*(y+65536*R))/S) 65536;rw[e3,e4]at e5;omega
structure Up (l out:List Int) (s i:Nat):Prop where
 lb:LB out
 len:out.length=l.length+1
 c:dg out i<2^s
 z:∀k,i<k->dg out k=0
 v:val out=val (l.take i)*2^s
theorem Up.next{l out:List Int}{s i:Nat}(h:Up l out s i)(hl:LB l)(hs:s<=15)(hi:i<l.length):
  Up l ((out.set i (dg out i+dg l i*2^s%65536)).set (i+1) (dg l i*2^s/65536)) s (i+1):=by
 obtain⟨S,T,eS,eT,hST,hS,hT,hS2⟩:=Rq (show s<=16 by omega);have hSi:((S:Nat):Int)=2^s:=by rw[eS];simp
 have hc:=h.c;rw[<-hSi]at hc⊢
 have hx:=Bd hl i;obtain⟨d1,d2,d3,d4,d5,d6,d7,d8⟩:=bM (S:=(S:Int)) (T:=(T:Int)) (by rw[<-zf7,hST];rfl) (by omega) (by omega) hx;have ho:=Bd h.lb i;have hol:=h.len;have hv:=h.v;rw[<-hSi]at hv;have m0:0<=(S:Int)*(dg l i%T):=zf6 (by omega) d5;rw[d1,d2];have hz:=h.z (i+1) (by omega);refine⟨?_,by simp[hol],?_,fun k hk=> ?_,?_⟩
 ·refine(h.lb.set ⟨by omega,by omega⟩).set ⟨d3,by omega⟩
 ·rw[nj (by simp;omega),zr rfl,<-hSi];exact d4
 ·rw[Cq,Cq];exact h.z k (by omega)
 ·rw[Hd (Am (by simp;omega)),Cq,hz,Hd (Am (show i<out.length by omega)),hv,A5,<-hSi];have e1:B (i+1)*(dg l i/T-0)=B i*(65536*(dg l i/T)):=by simp only[B];grind
  have e2:(val (l.take i)+B i*dg l i)*S=val (l.take i)*S+B i*(dg l i*S):=by grind
  rw[e1,e2,<-d7,ze3];have e3:B i*(dg out i+S*(dg l i%T)-dg out i)=B i*(S*(dg l i%T)):=by congr 1;omega
  omega
theorem xA{l:List Int}{s:Nat}(hl:LB l)(hs:s<=15)(hn:l.length<=1000000):∃out,Pm l (s:Int)=some out/\LB out/\out.length=l.length+1/\val out=val l*2^s:=by
 obtain⟨out,h1,h2⟩:=Bw (body:=fun(s:List Int×Int×List Int×Int×Int)=>NE s.1 s.2.1 s.2.2.1 s.2.2.2.1 s.2.2.2.2)
  (st:=fun k (b:List Int)=>(b,(s:Int),l,(l.length:Int),(k:Int))) (fin:=fun b=>b) (I:=fun k b=>Up l b s k) (e:=l.length)
  (by
   rintro k out hk hI;refine⟨_,?_,hI.next hl hs hk⟩;obtain⟨S,T,eS,eT,hST,hS,hT,hS2⟩:=Rq (show s<=16 by omega);have hSi:((S:Nat):Int)=2^s:=by rw[eS];simp
   have hx:=Bd hl k;have ho:=Bd hI.lb k;have hol:=hI.len;have hc:=hI.c;rw[<-hSi]at hc⊢
   obtain⟨d1,d2,d3,d4,d5,d6,d7,d8⟩:=bM (S:=(S:Int)) (T:=(T:Int)) (by rw[<-zf7,hST];rfl) (by omega) (by omega) hx;have hxS:0<=dg l k*(S:Int)/\dg l k*(S:Int)<=65536*65536:=⟨zf6 hx.1 (by omega),Int.le_trans (zb4 (show(S:Int)<=65536 by omega) hx.1) (zb1 (by omega) (by decide))⟩;have hsh:Wd .i64 (dg l k) (zi zk (s:Int))=dg l k*S:=by rw[hSi];exact bw (by omega) (by rw[<-hSi];omega) (by rw[<-hSi];omega)
   have hor:orI .i64 (dg out k) (dg l k*S%65536)=dg out k+dg l k*S%65536:=by
    obtain⟨o,eo⟩:∃o:Nat,dg out k=(o:Int):=⟨(dg out k).toNat,by omega⟩;obtain⟨t,et⟩:∃t:Nat,dg l k%T=(t:Int):=⟨(dg l k%T).toNat,by omega⟩;rw[d1,et,eo,<-zf7,eS,pY (by rw[<-eS];omega) (by
     rw[<-eS];have:((S*t:Nat):Int)<=65536:=by rw[zf7,<-et];omega
     omega)]
    simp
   have hu:zi zk (s:Int)=(s:Int):=bT (by omega) (by omega);unfold NE AN
   dsimp only
   rw[zp,Aw];have i1:AW (k:Int) out.length=some k:=AT (by omega);have hd:decide (zi zk (s:Int)<0)=false:=by rw[hu];exact zq (by omega)
   simp only[cond_true,Af,Am hk,za0,hd,cond_false,i1,Am (show k<out.length by omega),hsh,zc6 hxS.1,zc7 hxS.1,hor,List.length_set];rw[AT];simp only[za0];rw[Am (by simp;omega)];simp only[za0];rw[Ae (n:=dg l k*S/65536)])
  (by
   rintro out _;unfold NE
   dsimp only
   rw[zq (Int.lt_irrefl _)];rfl) 0 (List.replicate (l.length+1) 0) (by omega) ⟨LB.zeros _,by simp,by
    rw[show dg (List.replicate (l.length+1) (0:Int)) 0=0 from rfl];exact Int.pow_pos (by decide),fun k _=>by unfold dg;rw[zc0,List.getElem?_replicate];split<;>rfl,by simp[GA,val]⟩
 have hv:=h2.v;rw[List.take_length]at hv;refine⟨out,?_,h2.lb,h2.len,hv⟩;unfold Pm;rw[Aw,JW (by unfold Aa;omega) (by unfold Aa;omega)];simp only[za0];rw[show((0:Nat):Int)=0 from rfl]at h1;rw[h1];rfl
theorem xz{l:List Int}{s:Nat}(hl:LB l)(hs:s<=15)(hn:l.length<=1000000):NQ l (s:Int)=some (lim (val l/2^s).toNat):=by
 obtain⟨S,T,eS,eT,hST,hS,hT,hS2⟩:=Rq (show s<=16 by omega);have hSi:((S:Nat):Int)=2^s:=by rw[eS];simp
 have hSTi:(S:Int)*T=65536:=by rw[<-zf7,hST];rfl
 obtain⟨out,h1,h2⟩:=Bw (body:=fun(s:List Int×List Int×Int×Int×Int)=>Ki s.1 s.2.1 s.2.2.1 s.2.2.2.1 s.2.2.2.2)
  (st:=fun k (b:List Int)=>(b,l,(s:Int),(l.length:Int),(k:Int))) (fin:=fun b=>b)
  (I:=fun k b=>LB b/\b.length=l.length/\(∀i,k<=i->dg b i=0)/\val b+B k*(val (l.drop k)/S)=val l/S) (e:=l.length)
  (by
   rintro k out hk ⟨g1,g2,g3,g4⟩;have hx:=Bd hl k;have hy:=Bd hl (k+1);have hm0:0<=(dg l k+65536*dg l (k+1))/(S:Int)%65536/\(dg l k+65536*dg l (k+1))/(S:Int)%65536<65536:=by omega
   refine⟨out.set k ((dg l k+65536*dg l (k+1))/(S:Int)%65536),?_,g1.set hm0,by simp[g2],fun i hi=>by rw[Cq];exact g3 i (by omega),?_⟩
   ·have hor:orI .i64 (dg l k) (Wd .i64 (dg l (k+1)) 16)=dg l k+65536*dg l (k+1):=by
     obtain⟨o,eo⟩:∃o:Nat,dg l k=(o:Int):=⟨(dg l k).toNat,by omega⟩;obtain⟨t,et⟩:∃t:Nat,dg l (k+1)=(t:Int):=⟨(dg l (k+1)).toNat,by omega⟩;have h16:Wd .i64 (dg l (k+1)) 16=((2^16*t:Nat):Int):=by
      have:=bw (x:=dg l (k+1)) (s:=16) (by omega) (by omega) (by omega);rw[show zi zk ((16:Nat):Int)=16 by decide]at this;rw[this,et];omega
     rw[h16,eo,pY (by omega) (by omega),et];omega
    have hu:zi zk (s:Int)=(s:Int):=bT (by omega) (by omega);unfold Ki AN
    dsimp only
    rw[zp,Aw];have i1:AW (k:Int) out.length=some k:=AT (by omega);have hd:decide (zi zk (s:Int)<0)=false:=by rw[hu];exact zq (by omega)
    have hsr:oM .i64 (dg l k+65536*dg l (k+1)) (zi zk (s:Int))=(dg l k+65536*dg l (k+1))/(S:Int):=by rw[xC (by omega),hSi]
    have hq0:0<=(dg l k+65536*dg l (k+1))/(S:Int):=Int.ediv_nonneg (by omega) (by omega);simp only[cond_true,Af,Am hk,za0,Nz,hd,cond_false,i1,Am (show k<out.length by omega),hor,hsr,zc6 hq0]
   ·rw[Hd (Am (show k<out.length by omega)),g3 k (za7 _),Int.sub_zero];rw[C9 l k,C9 l (k+1),nn hSTi (by omega) (by omega) hx,<-C9 l (k+1),ze3]at g4;have e:B (k+1)*(val (l.drop (k+1))/S)=B k*(65536*(val (l.drop (k+1))/S)):=by simp only[B];grind
    omega)
  (by
   rintro out _;unfold Ki
   dsimp only
   rw[zq (Int.lt_irrefl _)];rfl) 0 (List.replicate l.length 0) (by omega) ⟨LB.zeros _,by simp,fun i _=>by unfold dg;rw[zc0,List.getElem?_replicate];split<;>rfl,by rw[GA,ze5];simp[B]⟩
 obtain⟨g1,g2,g3,g4⟩:=h2;rw[List.drop_length,show val []=0 from rfl,Int.zero_ediv,Int.mul_zero,Int.add_zero]at g4;unfold NQ;rw[JW (by unfold Aa;omega) (by unfold Aa;omega)];simp only[za0];rw[show((0:Nat):Int)=0 from rfl]at h1;rw[h1];simp only[za0];rw[IE (by unfold Az;omega)];simp only[za0];rw[CO g1,g4,hSi]
theorem Aj2{a b:List Int}{t:Int}{m:Nat}(hm:b.length=m+1)(hml:m<=1000000)(ht:dg b m=t)(h1:1<=t)(h2:t<65536):
  ∃s:Nat,s<=15/\t*2^s<65536/\Ad (fun(s:List Int×List Int×Int)=>Eu s.1 s.2.1 s.2.2) (a,b,0)=some (a,b,(s:Int)):=by
 have bound:∀s:Nat,t*2^s<65536->s<=15:=fun s h=>by
  have h3:(2:Int)^s<2^16:=by
   have h4:(1:Int)*2^s<=t*2^s:=zb1 h1 (ze9 (Int.pow_pos (by decide)));have h5:(2:Int)^16=65536:=by decide
   omega
  have h5:((2^s:Nat):Int)<((2^16:Nat):Int):=by simpa using h3
  have h6:2^s<2^16:=by omega
  have:=(Nat.pow_lt_pow_iff_right (show 1<2 by decide)).1 h6;omega
 obtain⟨r,g1,s,rfl,g2⟩:=GY (f:=fun(s:List Int×List Int×Int)=>Eu s.1 s.2.1 s.2.2)
  (I:=fun x=>∃s:Nat,x=(a,b,(s:Int))/\t*2^s<65536) (R:=fun x=>∃s:Nat,x=(a,b,(s:Int))/\t*2^s<65536) (fun x=>100-x.2.2.toNat) (by
   rintro x ⟨s,rfl,hs⟩;have hb:=bound s hs;have p0:(0:Int)<2^s:=Int.pow_pos (by decide);have p1:0<=t*2^s:=zf6 (by omega) (by omega);have hsh:Wd .i64 t (zi zk (s:Int))=t*2^s:=bw (by omega) (by omega) (by omega);have hu:zi zk (s:Int)=(s:Int):=bT (by omega) (by omega);have hd:decide (zi zk (s:Int)<0)=false:=by rw[hu];exact zq (by omega)
   have hg:AA b (zi zj ((b.length:Int)-1))=some t:=by rw[<-ht];exact N5 (by rw[Ae];omega) (by omega)
   simp only;by_cases hc:t*2^s<32768
   ·refine .inl ⟨(a,b,((s+1:Nat):Int)),?_,⟨s+1,rfl,by rw[Int.pow_succ,<-Int.mul_assoc];omega⟩,by simp only;omega⟩;unfold Eu;simp only[hg,za0,hd,cond_false,hsh,zp hc,cond_true];rw[Aw]
   ·refine .inr ⟨(a,b,(s:Int)),?_,s,rfl,hs⟩;unfold Eu;simp only[hg,za0,hd,cond_false,hsh,zq hc]) (a,b,0) ⟨0,rfl,by simp;omega⟩
 exact⟨s,bound s g2,g2,g1⟩
theorem xB{u0 v:List Int}{m:Nat}{bits:Int}(hv:LB v)(hvl:v.length=m+2)(ht:1<=dg v (m+1))(hl:u0.length<=1000000){n:Nat}{out:List Int}(h:Places u0 v m n u0 out):
  ∃u out',Ad (fun(s:List Int×List Int×List Int×Int×Int)=>CJ s.1 s.2.1 s.2.2.1 s.2.2.2.1 s.2.2.2.2) (u0,v,out,bits,(n:Int)-1)=some (u,out',bits)/\Places u0 v m 0 u out':=by
 obtain⟨⟨u,out'⟩,h1,h2⟩:=KP (body:=fun(s:List Int×List Int×List Int×Int×Int)=>CJ s.1 s.2.1 s.2.2.1 s.2.2.2.1 s.2.2.2.2)
  (st:=fun n (b:List Int×List Int)=>(b.1,v,b.2,bits,(n:Int)-1)) (fin:=fun b=>(b.1,b.2,bits)) (I:=fun n b=>Places u0 v m n b.1 b.2)
  (by
   rintro n ⟨u,out⟩ hI;simp only at hI;have H:=hI.place hv hvl ht;have hle:=hI.le;have hol:=hI.olen;have hul:=hI.len;obtain⟨u',g1,g2,g3,g4,g5⟩:=zR (out:=out) (bits:=bits) H (by omega) (by omega);refine⟨(u',out.set n (val (u.drop n)/val v)),?_,hI.next H g2 g3 g4 g5⟩;simp only;rw[show((n+1:Nat):Int)-1=(n:Int) by omega,g1])
  (by
   rintro⟨u,out⟩ _;unfold CJ
   dsimp only
   rw[zq];rfl) n (u0,out) h
 exact⟨u,out',h1,h2⟩
theorem Places.start2{u0 v:List Int}{m n:Nat}(hu:LB u0)(hn:u0.length=n+(m+2))(h0:val (u0.drop n)<val v):Places u0 v m n u0 (List.replicate n 0):=
 ⟨rfl,hu,by omega,h0,LB.zeros n,by simp;omega,fun i hi=>by unfold dg;rw[zc0,List.getElem?_replicate];split<;>rfl,by rw[GA];omega⟩
set_option maxHeartbeats 1000000 in
theorem UI {a b : Nat} (hb0 : b ≠ 0) (ha : (lim a).length <= 90000) (hb : (lim b).length <= 90000) : F0 (lim a) (lim b) = some (lim (a / b), lim (a % b)) := by
 unfold F0;rw [IE (by unfold Az; omega)];simp only [za0];rw [Qz (VV a), Rh (by unfold Az; omega) (by unfold Az; omega)];simp only [za0];by_cases hab : a < b
 ·rw [EY];simp only [show decide ((-1 : Int) < 0) = true from rfl, cond_true];rw [Nat.div_eq_of_lt hab, Nat.mod_eq_of_lt hab, CH]
 have hc : decide (Dt (a : Int) b < 0) = false := by
  rcases Co (a : Int) b with ⟨h, g⟩ | ⟨h, _⟩ | ⟨h, _⟩
  ·omega
  ·rw [h]; rfl
  ·rw [h]; rfl
 simp only [hc, cond_false];have hbl : (lim b).length ≠ 0 := fun h => hb0 (KE.1 (zb2 h))
 by_cases h1 : (lim b).length = 1
 ·obtain ⟨e1, e2, e3⟩ := pS h1;rw [e1];simp only [List.length_singleton, show (((1 : Nat) : Int) == 1) = true from rfl, cond_true];rw [show AA [(b : Int)] 0 = some (b : Int) from rfl];simp only [za0];rw [tO (by omega) (by omega)];simp only [za0, zc2]
 have hn1 : ((((lim b).length : Nat) : Int) == 1) = false := beq_eq_false_iff_ne.2 (by omega);obtain ⟨m, hm⟩ : ∃ m, (lim b).length = m + 2 := ⟨(lim b).length - 2, by omega⟩;obtain ⟨t1, t2, t3, t4⟩ := Yz hb0;rw [hm, show m + 2 - 1 = m + 1 by omega] at t1 t2 t3 t4;generalize ht : dg (lim b) (m + 1) = t at *
 obtain ⟨s, hs1, hs2, hs3⟩ := Aj2 (a := lim a) (b := lim b) (m := m + 1) (by omega) (by omega) ht t1 t2;obtain ⟨S, T, eS, eT, hST, hS, hT, hS2⟩ := Rq (show s <= 16 by omega);have hSi : ((S : Nat) : Int) = 2 ^ s := by rw [eS]; simp
 obtain ⟨u, hu1, hu2, hu3, hu4⟩ := xA (AJ a) hs1 (by omega);obtain ⟨v, hv1, hv2, hv3, hv4⟩ := xA (AJ b) hs1 (by omega);rw [As, <- hSi, <- zf7] at hu4 hv4;simp only [hn1, cond_false, hs3, za0, hu1, hv1];rw [IE (by unfold Az; omega)];simp only [za0];rw [CO hv2, hv4, zc2];have hBa : (a : Int) < B (lim a).length := Ao.1 (za7 _);have lb : (lim (b * S)).length = m + 2 := by
  apply Nat.le_antisymm
  ·rw [Ao];rw [show ((b * S : Nat) : Int) = (b : Int) * S by simp];rw [<- hSi] at hs2;have e1 : (b : Int) * S < B (m + 1) * (t + 1) * S := Int.mul_lt_mul_of_pos_right t4 (by omega);have hts : (t + 1) * (S : Int) <= 65536 := by
    obtain ⟨d1, d2, d3, d4, d5, d6, d7, d8⟩ := bM (S := (S : Int)) (T := (T : Int)) (by rw [<- zf7, hST]; rfl) (by omega) (by omega) (show 0 <= t /\ t < 65536 by omega);have d9 : t * S % 65536 = t * S := Int.emod_eq_of_lt (zf6 (by omega) (by omega)) hs2;rw [Int.add_mul, Int.one_mul, <- d9, d1];exact d8
   have e2 : B (m + 1) * ((t + 1) * (S : Int)) <= B (m + 1) * 65536 := zb4 hts (ze9 (Hr _));have e3 : B (m + 1) * (t + 1) * S = B (m + 1) * ((t + 1) * (S : Int)) := Int.mul_assoc ..
   have e4 : B (m + 2) = B (m + 1) * 65536 := by simp only [B]; omega
   omega
  ·rw [<- hm, Ao];have h1 : ((b * S : Nat) : Int) < B (lim (b * S)).length := Ao.1 (za7 _);have : b * 1 <= b * S := Nat.mul_le_mul_left _ (by omega);omega
 have hle : (lim b).length <= (lim a).length := by rw [Ao]; omega
 have hbS0 : b * S ≠ 0 := Nat.mul_ne_zero hb0 (by omega);have htop := (Yz hbS0).1;rw [lb, show m + 2 - 1 = m + 1 by omega] at htop;generalize hn : (lim a).length - (lim b).length + 1 = n at *
 have w0 : zi zj (((lim a).length : Int) - ((lim b).length : Int)) = (n : Int) - 1 := by rw [Ae]; omega
 rw [w0, Ae (n := (n : Int) - 1 + 1), show (n : Int) - 1 + 1 = (n : Int) by omega, JW (by unfold Aa; omega) (by unfold Aa; omega)];simp only [za0];have hless : val (u.drop n) < val (lim (b * S)) := by
  rw [As];have h1 := Cr u n;have h2 := AY (hu2.take n);rw [hu4] at h1;have h3 : B n * val (u.drop n) <= ((a * S : Nat) : Int) := by omega
  have h4 : ((a * S : Nat) : Int) < B (lim a).length * S := by rw [zf7]; exact Int.mul_lt_mul_of_pos_right hBa (by omega)
  have h5 : (lim a).length = n + (m + 1) := by omega
  rw [h5, S6] at h4;have h6 : B (m + 1) * S <= ((b * S : Nat) : Int) := by
   rw [zf7];have : B (m + 1) * 1 <= B (m + 1) * t := zb4 t1 (ze9 (Hr _));exact zb1 (by omega) (by omega)
  have h7 : B n * (val (u.drop n)) < B n * (B (m + 1) * S) := by rw [<- Int.mul_assoc]; omega
  have h8 := Int.lt_of_mul_lt_mul_left h7 (ze9 (Hr n));omega
 obtain ⟨u', out, hp, P⟩ := xB (bits := (s : Int)) (AJ (b * S)) lb htop (by omega) (Places.start2 (n := n) hu2 (by omega) hless);rw [hp];simp only [za0];obtain ⟨p1, p2⟩ := P.end (AJ _);rw [hu4, As] at p1 p2;obtain ⟨q1, q2⟩ := Z1 (a := a) (b := b) (c := S) (by omega);have p1' : val out = ((a / b : Nat) : Int) := by rw [p1, <- q1]; simp
 have p2' : val u' = ((a % b * S : Nat) : Int) := by rw [p2, <- q2]; simp
 have hul := P.len;have hol := P.olen;rw [IE (by unfold Az; omega)];simp only [za0];rw [IE (by unfold Az; omega)];simp only [za0];rw [CO P.lo, CO P.lu, p1', p2', zc2, zc2, xz (AJ _) hs1 (by
  have : (lim (a % b * S)).length <= m + 2 := by
   rw [<- lb, Ao];have h1 : ((b * S : Nat) : Int) < B (lim (b * S)).length := Ao.1 (za7 _);have := Nat.mul_lt_mul_of_pos_right (Nat.mod_lt a (show b > 0 by omega)) (show S > 0 by omega);omega
  omega), As]
 simp only [za0];rw [<- hSi, zf7, Int.mul_ediv_cancel _ (by omega), zc2]
theorem Ip(n:Nat):big (n:Int)=(false,lim n):=by unfold big;rw[zq,zf4]
theorem gr(n:Nat):big (-(n:Int))=(decide (n≠0),lim n):=by unfold big;congr 1;exact decide_eq_decide.2 (by omega);congr 1;omega
theorem jK(x y:Int):((!(decide (x<0)==decide (y<0)))&&decide (x.natAbs/y.natAbs≠0),lim (x.natAbs/y.natAbs))=big (x.tdiv y):=by
 rcases Int.lt_or_le x 0 with hx|hx
 ·obtain⟨a,rfl⟩:∃a:Nat,x= -(a:Int):=⟨x.natAbs,by omega⟩;rcases Int.lt_or_le y 0 with hy|hy
  ·obtain⟨b,rfl⟩:∃b:Nat,y= -(b:Int):=⟨y.natAbs,by omega⟩;rw[Int.neg_tdiv,Int.tdiv_neg,Int.neg_neg,<-Int.ofNat_tdiv,Ip,zp hx,zp hy,Int.natAbs_neg,Int.natAbs_neg];rfl
  ·obtain⟨b,rfl⟩:∃b:Nat,y=(b:Int):=⟨y.natAbs,by omega⟩;rw[Int.neg_tdiv,<-Int.ofNat_tdiv,gr,zp hx,zq (show ¬(b:Int)<0 by omega),Int.natAbs_neg];rfl
 ·obtain⟨a,rfl⟩:∃a:Nat,x=(a:Int):=⟨x.natAbs,by omega⟩;rcases Int.lt_or_le y 0 with hy|hy
  ·obtain⟨b,rfl⟩:∃b:Nat,y= -(b:Int):=⟨y.natAbs,by omega⟩;rw[Int.tdiv_neg,<-Int.ofNat_tdiv,gr,zq (show ¬(a:Int)<0 by omega),zp hy,Int.natAbs_neg];rfl
  ·obtain⟨b,rfl⟩:∃b:Nat,y=(b:Int):=⟨y.natAbs,by omega⟩;rw[<-Int.ofNat_tdiv,Ip,zq (show ¬(a:Int)<0 by omega),zq (show ¬(b:Int)<0 by omega)];rfl
theorem jL(x y:Int):(decide (x<0)&&decide (x.natAbs%y.natAbs≠0),lim (x.natAbs%y.natAbs))=big (x.tmod y):=by
 have hy:x.tmod y=x.tmod (y.natAbs:Int):=by
  rcases Int.natAbs_eq y with h|h
  ·rw[<-h]
  ·rw[h,Int.tmod_neg,Int.natAbs_neg,zf4]
 rw[hy];rcases Int.lt_or_le x 0 with hx|hx
 ·obtain⟨a,rfl⟩:∃a:Nat,x= -(a:Int):=⟨x.natAbs,by omega⟩;rw[Int.neg_tmod,<-Int.ofNat_tmod,gr,zp hx,Int.natAbs_neg];rfl
 ·obtain⟨a,rfl⟩:∃a:Nat,x=(a:Int):=⟨x.natAbs,by omega⟩;rw[<-Int.ofNat_tmod,Ip,zq (show ¬(a:Int)<0 by omega)];rfl
theorem LG{a b:Nat}(h:a<=b):(lim a).length<=(lim b).length:=Ao.2 (Int.lt_of_le_of_lt (by omega) (Ao.1 (za7 (lim b).length)))
section
variable {x y:Int} {k:Nat}
theorem Nn(hk:k<=90000)(hx:(x.natAbs:Int)<B k)(hy:(y.natAbs:Int)<B k)(h0:y≠0):Ht (big x) (big y)=some (big (x.tdiv y),big (x.tmod y)):=by
 have lx:=zf2 (Ao.2 hx) hk;have ly:=zf2 (Ao.2 hy) hk;have l1:=LG (Nat.div_le_self x.natAbs y.natAbs);have l2:=LG (Nat.mod_le x.natAbs y.natAbs);unfold Ht;rw[show(big x).2=lim x.natAbs from rfl,show(big y).2=lim y.natAbs from rfl,aj (by omega) lx ly];simp only[za0];rw[Jo (AJ _) (by unfold Az;omega),Jo (AJ _) (by unfold Az;omega),As,As,zc2,zc2];simp only[za0];rw[show(big x).1=decide (x<0)from rfl,show(big y).1=decide (y<0)from rfl,jK,jL]
theorem iB(hk:k<=90000)(hx:(x.natAbs:Int)<B k)(hy:(y.natAbs:Int)<B k)(h0:y≠0):KM (big x) (big y)=some (big (x.tdiv y),big (x.tmod y)):=by
 have lx:=zf2 (Ao.2 hx) hk;have ly:=zf2 (Ao.2 hy) hk;have l1:=LG (Nat.div_le_self x.natAbs y.natAbs);have l2:=LG (Nat.mod_le x.natAbs y.natAbs);unfold KM;rw[show(big x).2=lim x.natAbs from rfl,show(big y).2=lim y.natAbs from rfl,UI (by omega) lx ly];simp only[za0];rw[G6 (AJ _) (by unfold Az;omega),G6 (AJ _) (by unfold Az;omega),As,As,zc2,zc2];simp only[za0];rw[show(big x).1=decide (x<0)from rfl,show(big y).1=decide (y<0)from rfl,jK,jL]
end
theorem XK{b:Nat}(h:b≠0):decide ((((lim b).length:Nat):Int)>0)=true:=by rw[Qn,Nt];simp[h]
theorem nK(s:Bool×List Int):∀(n a b:Nat),b<n->(lim a).length<=90000->(lim b).length<=90000->
  Ad (fun(s:(Bool×List Int)×List Int×List Int)=>Je s.1 s.2.1 s.2.2) (s,lim a,lim b)=some (s,lim (Nat.gcd a b)):=by
 intro n
 induction n with
 |zero=>intro a b h;omega
 |succ n ih=>
  intro a b h ha hb;by_cases h0:b=0
  ·subst h0;rw[Nat.gcd_zero_right];refine Ak ?_;unfold Je;rw[CH];rfl
  ·have hm:=Nat.mod_lt a (show b>0 by omega);rw[AP (s':=(s,lim b,lim (a%b)))]
   ·rw[ih b (a%b) (by omega) hb (zf2 (LG (Nat.mod_le _ _)) ha),Nat.gcd_comm b,<-Nat.gcd_rec,Nat.gcd_comm b]
   ·unfold Je
    dsimp only
    rw[XK h0,aj h0 ha hb];rfl
theorem oD:∀(n a b:Nat),b<n->(lim a).length<=90000->(lim b).length<=90000->
  Ad (fun(s:List Int×List Int)=>Mb s.1 s.2) (lim a,lim b)=some (lim (Nat.gcd a b)):=by
 intro n
 induction n with
 |zero=>intro a b h;omega
 |succ n ih=>
  intro a b h ha hb;by_cases h0:b=0
  ·subst h0;rw[Nat.gcd_zero_right];refine Ak ?_;unfold Mb;rw[CH];rfl
  ·have hm:=Nat.mod_lt a (show b>0 by omega);rw[AP (s':=(lim b,lim (a%b)))]
   ·rw[ih b (a%b) (by omega) hb (zf2 (LG (Nat.mod_le _ _)) ha),Nat.gcd_comm b,<-Nat.gcd_rec,Nat.gcd_comm b]
   ·unfold Mb
    dsimp only
    rw[XK h0,UI h0 ha hb];rfl
theorem pE{a b:Nat}(ha:(lim a).length<=90000)(hb:(lim b).length<=90000):(lim (Nat.gcd a b)).length<=90000:=by
 by_cases h:a=0
 ·subst h;rw[Nat.gcd_zero_left];exact hb
 ·exact zf2 (LG (Nat.gcd_le_left b (by omega))) ha
section
variable {x y:Int} {k:Nat}
theorem eE(hk:k<=90000)(hx:(x.natAbs:Int)<B k)(hy:(y.natAbs:Int)<B k):Jx (big x) (big y)=some (big (Int.gcd x y:Nat)):=by
 have lx:=zf2 (Ao.2 hx) hk;have ly:=zf2 (Ao.2 hy) hk;have lg:=pE lx ly;unfold Jx;rw[show(big x).2=lim x.natAbs from rfl,show(big y).2=lim y.natAbs from rfl,nK _ _ _ _ (Nat.lt_succ_self _) lx ly];simp only[za0];rw[Jo (AJ _) (by unfold Az;omega),As,zc2,Ip];rfl
theorem qO(hk:k<=90000)(hx:(x.natAbs:Int)<B k)(hy:(y.natAbs:Int)<B k):MX (big x).2 (big y).2=some (lim (Int.gcd x y)):=by
 have lx:=zf2 (Ao.2 hx) hk;have ly:=zf2 (Ao.2 hy) hk;have lg:=pE lx ly;unfold MX;rw[show(big x).2=lim x.natAbs from rfl,show(big y).2=lim y.natAbs from rfl,oD _ _ _ (Nat.lt_succ_self _) lx ly];simp only[za0];rw[IE (by unfold Az;omega)];simp only[za0];rw[Qz (VV _)];rfl
end
theorem Uo{l:List Int}(neg:Bool)(hl:LB l)(hv:val l<=4611686018427387904)(hn:l.length<=1000):
  Ad (fun(s:(Bool×List Int)×Int×Int)=>FG s.1 s.2.1 s.2.2) ((neg,l),0,(l.length:Int)-1)=some ((neg,l),val l):=by
 obtain⟨n,h1,h2⟩:=KP (body:=fun(s:(Bool×List Int)×Int×Int)=>FG s.1 s.2.1 s.2.2)
  (st:=fun k (b:Int)=>((neg,l),b,(k:Int)-1)) (fin:=fun b=>((neg,l),b)) (I:=fun k b=>k<=l.length/\b=val (l.drop k))
  (by
   rintro k b ⟨hk,rfl⟩;have hkl:k<l.length:=by omega
   have hx:=Bd hl k;have e1:=C9 l k;have e2:=AY (hl.drop (k+1));have e3:=Cr l k;have e4:=AY (hl.take k);have e5:val (l.drop k)<=B k*val (l.drop k):=by
    have:=zb1 (show 1<=B k by have:=Hr k;omega) (AY (hl.drop k));omega
   refine⟨val (l.drop k),?_,by omega,rfl⟩;unfold FG
   dsimp only
   rw[zp,show((k+1:Nat):Int)-1=(k:Int) by omega,Af,Am hkl];simp only[cond_true,za0];rw[Ae (n:=val (l.drop (k+1))*65536),Ae (n:=val (l.drop (k+1))*65536+dg l k),Ae (n:=(k:Int)-1),e1,show val (l.drop (k+1))*65536+dg l k=dg l k+65536*val (l.drop (k+1)) by omega])
  (by
   rintro b _;unfold FG;rfl) l.length 0 ⟨za7 _,by rw[List.drop_length];rfl⟩
 rw[ze5]at h2;rw[<-h2.2];exact h1
theorem it{l:List Int}(neg:Bool)(hl:LB l)(hv:val l<=4611686018427387904)(hn:l.length<=1000):
  Ad (fun(s:(Bool×List Int)×Int×Int)=>L9 s.1 s.2.1 s.2.2) ((neg,l),0,(l.length:Int)-1)=some ((neg,l),val l):=by
 have:(fun(s:(Bool×List Int)×Int×Int)=>L9 s.1 s.2.1 s.2.2)=fun(s:(Bool×List Int)×Int×Int)=>FG s.1 s.2.1 s.2.2:=by
  funext s;unfold L9 FG;rfl
 rw[this];exact Uo neg hl hv hn
def S1(z:Int):Int×Bool:=if z.natAbs<=4611686018427387904 then(z,true)else(0,false)
theorem pT(T:Nat):(big (T:Int)).2=lim T:=by rw[Ip]
theorem lR{z:Int}{T:Nat}(hT:T=4611686018427387904):S1 z=if z.natAbs<=T then(z,true)else(0,false):=by rw[hT];rfl
theorem vz{z:Int}{T:Nat}(hT:T=4611686018427387904)(hz:(z.natAbs:Int)<B 40):KJ (big z)=some (S1 z):=by
 have lz:=Ao.2 hz;have hB4:B 4=18446744073709551616:=rfl;rw[lR hT];unfold KJ;rw[show(4611686018427387904:Int)=(T:Int) by omega];rw[VI (by unfold big Az;dsimp only;omega),KU hz,Yv];simp only[za0,zf5,cond_false];rw[show(big z).2=lim z.natAbs from rfl,pT,Iv (by unfold Az;omega) (by unfold Az;have:= @kP T (by omega);omega)];simp only[za0];by_cases h:z.natAbs<=T
 ·have hc:decide (Dt (z.natAbs:Int) (T:Int)>0)=false:=by
   rcases Co (z.natAbs:Int) (T:Int)with⟨g,_⟩|⟨g,_⟩|⟨g,_⟩
   ·rw[g];rfl
   ·omega
   ·rw[g];rfl
  rw[hc,zr h,Ae,show big z=(decide (z<0),lim z.natAbs)from rfl];simp only[cond_false];rw[Uo _ (AJ _) (by rw[As];omega) (by omega),As];simp only[za0];by_cases hn:z<0
  ·rw[zp hn,Ae];simp only[cond_true];rw[show(0:Int)-(z.natAbs:Int)=z by omega]
  ·rw[zq hn];simp only[cond_false];rw[show(z.natAbs:Int)=z by omega]
 ·have hc:decide (Dt (z.natAbs:Int) (T:Int)>0)=true:=by rw[Hc];rfl
  rw[hc,zw h];rfl
theorem xo{z:Int}{T:Nat}(hT:T=4611686018427387904)(hz:(z.natAbs:Int)<B 40):MU (big z)=some (S1 z):=by
 have lz:=Ao.2 hz;have hB4:B 4=18446744073709551616:=rfl;rw[lR hT];unfold MU;rw[show(4611686018427387904:Int)=(T:Int) by omega];rw[Wc (by unfold big Az;dsimp only;omega),KU hz,UG];simp only[za0,zf5,cond_false];rw[show(big z).2=lim z.natAbs from rfl,pT];by_cases h4:(lim z.natAbs).length>4
 ·rw[zp];have:¬z.natAbs<=T:=fun h=>by
   have:= @kP z.natAbs (by omega);omega
  rw[zw this];rfl
 rw[zq,Rh (by unfold Az;omega) (by unfold Az;have:= @kP T (by omega);omega)];simp only[za0,cond_false];by_cases h:z.natAbs<=T
 ·have hc:decide (Dt (z.natAbs:Int) (T:Int)>0)=false:=by
   rcases Co (z.natAbs:Int) (T:Int)with⟨g,_⟩|⟨g,_⟩|⟨g,_⟩
   ·rw[g];rfl
   ·omega
   ·rw[g];rfl
  rw[hc,zr h,Ae,show big z=(decide (z<0),lim z.natAbs)from rfl];simp only[cond_false];rw[it _ (AJ _) (by rw[As];omega) (by omega),As];simp only[za0];by_cases hn:z<0
  ·rw[zp hn,Ae];simp only[cond_true];rw[show(0:Int)-(z.natAbs:Int)=z by omega]
  ·rw[zq hn];simp only[cond_false];rw[show(z.natAbs:Int)=z by omega]
 ·have hc:decide (Dt (z.natAbs:Int) (T:Int)>0)=true:=by rw[Hc];rfl
  rw[hc,zw h];rfl
theorem yO{z:Int}(hz:(z.natAbs:Int)<B 40):KJ (big z)=some (S1 z):=vz rfl hz
theorem zK{z:Int}(hz:(z.natAbs:Int)<B 40):MU (big z)=some (S1 z):=xo rfl hz
section
variable {x y:Int} (hx:(x.natAbs:Int)<B 40) (hy:(y.natAbs:Int)<B 40)
include hx hy
end
section
variable {a b:Bool×List Int} (ha:Az a.2) (hb:Az b.2) (h:(HE a&&HE b)=false)
include ha hb h
end
open Go
def rq(q:Rat):(Bool×List Int)×(Bool×List Int):=(big q.num,big (q.den:Int))
theorem xk{p q:Rat}(h:rq p=rq q):p=q:=by
 have h1:=pm (congrArg Prod.fst h);have h2:=pm (congrArg Prod.snd h);exact Rat.ext h1 (by exact_mod_cast h2)
theorem N2{x y:Int}(hy:y≠0):x.tdiv (if y<0 then-((Int.gcd x y:Nat):Int)else(Int.gcd x y:Nat))=(Rat.divInt x y).num/\y.tdiv (if y<0 then-((Int.gcd x y:Nat):Int)else(Int.gcd x y:Nat))=((Rat.divInt x y).den:Int):=by
 have d1:((Int.gcd x y:Nat):Int)∣x:=Int.gcd_dvd_left ..
 have d2:((Int.gcd x y:Nat):Int)∣y:=Int.gcd_dvd_right ..
 rw[Rat.num_divInt,Rat.den_divInt,zw hy,Int.gcd_comm y x];generalize Int.gcd x y=n at*
 obtain⟨a,rfl⟩:=d1;obtain⟨b,rfl⟩:=d2;have hn:n≠0:=by rintro rfl;simp at hy
 have hn':(n:Int)≠0:=by omega
 have hb:b≠0:=by rintro rfl;simp at hy
 have hsg:((n:Int)*b<0)↔b<0:=by
  constructor
  ·intro h;rcases Int.lt_or_le b 0 with g|g
   ·exact g
   ·exact absurd (zf6 (show(0:Int)<=(n:Int) by omega) g) (by omega)
  ·intro h;exact Int.mul_neg_of_pos_of_neg (by omega) h
 rw[Int.natAbs_mul,zf4,Nat.mul_div_cancel_left _ (by omega)];by_cases h:b<0
 ·rw[zr (hsg.2 h),Int.sign_eq_neg_one_of_neg (hsg.2 h),Int.tdiv_neg,Int.tdiv_neg,Int.mul_tdiv_cancel_left _ hn',Int.mul_tdiv_cancel_left _ hn',show(-1:Int)*((n:Int)*a)=(n:Int)*(-a) by rw[Int.mul_neg,Int.neg_mul,Int.one_mul],Int.mul_ediv_cancel_left _ hn'];exact⟨rfl,by omega⟩
 ·have h':¬(n:Int)*b<0:=fun g=>h (hsg.1 g)
  have hp:0<(n:Int)*b:=by omega
  rw[zw h',Int.sign_eq_one_of_pos hp,Int.mul_tdiv_cancel_left _ hn',Int.mul_tdiv_cancel_left _ hn',Int.one_mul,Int.mul_ediv_cancel_left _ hn'];exact⟨rfl,by omega⟩
def Sz(k:Nat)(q:Rat):Prop:=(q.num.natAbs:Int)<B k/\(q.den:Int)<B k
instance (k:Nat) (q:Rat):Decidable (Sz k q):=by unfold Sz;infer_instance
theorem Sz.mono{k m:Nat}{q:Rat}(h:Sz k q)(hkm:k<=m):Sz m q:=by
 have:=K2 hkm;unfold Sz at*
 omega
theorem Rm(x g:Int):(x.tdiv g).natAbs<=x.natAbs:=by rw[Int.natAbs_tdiv];exact Nat.div_le_self _ _
theorem Wh{x y:Int}{k:Nat}(hx:(x.natAbs:Int)<B k)(hy:(y.natAbs:Int)<B k)(h0:y≠0):Sz k (Rat.divInt x y):=by
 obtain⟨h1,h2⟩:=N2 (x:=x) h0;have a1:=Rm x (if y<0 then-((Int.gcd x y:Nat):Int)else(Int.gcd x y:Nat));have a2:=Rm y (if y<0 then-((Int.gcd x y:Nat):Int)else(Int.gcd x y:Nat));rw[h1]at a1;rw[h2]at a2;unfold Sz;omega
theorem wQ(p q:Rat):p+q=Rat.divInt (p.num*q.den+q.num*p.den) ((p.den:Int)*(q.den:Int)):=by
 rw[Rat.add_def',<-Rat.divInt_ofNat,zf7]
theorem wS(p q:Rat):p*q=Rat.divInt (p.num*q.num) ((p.den:Int)*(q.den:Int)):=by
 rw[Rat.mul_def',<-Rat.divInt_ofNat,zf7]
theorem wR(p q:Rat):p/q=Rat.divInt (p.num*q.den) ((p.den:Int)*q.num):=by
 rw[Rat.div_def,Rat.inv_def]
 conv=>lhs;lhs;rw[<-Rat.num_divInt_den p]
 rw[Rat.divInt_mul_divInt]
theorem J2{x y:Int}{k m:Nat}(hx:(x.natAbs:Int)<B k)(hy:(y.natAbs:Int)<B m):((x*y).natAbs:Int)<B (k+m):=by
 rw[Int.natAbs_mul];exact Ar7 hx hy
theorem Ar2{x y:Int}{k:Nat}(hx:(x.natAbs:Int)<B k)(hy:(y.natAbs:Int)<B k):((x+y).natAbs:Int)<B (k+1):=by
 have h1:B (k+1)=65536*B k:=by rw[S6,Int.mul_comm];rfl
 have:=Hr k;omega
theorem CT{n:Nat}{k:Nat}(h:(n:Int)<B k):(((n:Int)).natAbs:Int)<B k:=by rw[zf4];exact h
theorem y8{x:Int}{k:Nat}(h:(x.natAbs:Int)<B k):((-x).natAbs:Int)<B k:=by rw[Int.natAbs_neg];exact h
theorem upB{x:Int}{k m:Nat}(h:(x.natAbs:Int)<B k)(hkm:k<=m):(x.natAbs:Int)<B m:=Int.lt_of_lt_of_le h (K2 hkm)
section
variable {p q:Rat} {k m:Nat} (hp:Sz k p) (hq:Sz m q)
include hp hq
theorem LX:Sz (k+m) (p*q):=by
 rw[wS];exact Wh (J2 hp.1 hq.1) (J2 (CT hp.2) (CT hq.2)) (by have:=p.den_nz;have:=q.den_nz;intro h;rcases Int.mul_eq_zero.1 h with h|h<;>omega)
theorem V2:((p.num*(q.den:Int)+q.num*(p.den:Int)).natAbs:Int)<B (k+m+1):=
 Ar2 (J2 hp.1 (CT hq.2)) (by rw[Nat.add_comm];exact J2 hq.1 (CT hp.2))
theorem S3:Sz (k+m+1) (p+q):=by
 rw[wQ];exact Wh (V2 hp hq) (upB (J2 (CT hp.2) (CT hq.2)) (by omega)) (by have:=p.den_nz;have:=q.den_nz;intro h;rcases Int.mul_eq_zero.1 h with h|h<;>omega)
theorem iI(h0:q≠0):Sz (k+m) (p/q):=by
 rw[wR];exact Wh (J2 hp.1 (CT hq.2)) (J2 (CT hp.2) hq.1) (by
  have:=p.den_nz;have hn:q.num≠0:=fun h=>h0 (Rat.num_eq_zero.1 h)
  intro h;rcases Int.mul_eq_zero.1 h with h|h<;>omega)
end
theorem oQ{p:Rat}{k:Nat}(hp:Sz k p):Sz k (-p):=⟨y8 hp.1,hp.2⟩
theorem LY{p q:Rat}{k m:Nat}(hp:Sz k p)(hq:Sz m q):Sz (k+m+1) (p-q):=by rw[Rat.sub_eq_add_neg];exact S3 hp (oQ hq)
theorem B1:B 1=65536:=rfl
theorem iJ{z:Int}{k:Nat}(h:(z.natAbs:Int)<B k)(hk:1<=k):Sz k (z:Rat):=⟨h,by
 rw[Rat.den_intCast];have:=K2 hk;rw[B1]at this;omega⟩
def T9(p q:Rat):Int:=if p<q then-1 else if q<p then 1 else 0
theorem pr(p q:Rat):Dt (p.num*(q.den:Int)) (q.num*(p.den:Int))=T9 p q:=by
 unfold Dt T9;simp only[Rat.lt_iff]
theorem pt{p q:Rat}:T9 p q<0↔p<q:=by
 unfold T9;split
 ·simp[*]
 ·split<;>simp[*]
theorem MA{p q:Rat}:0<T9 p q↔q<p:=by
 unfold T9;split
 ·rename_i h;simp;exact Rat.not_lt.2 (Rat.le_of_lt h)
 ·split<;>simp[*]
theorem Xy{x d:Int}(hd:0<d):(if x.tmod d<0 then x.tdiv d-1 else x.tdiv d)=x/d:=by
 have h1:=Int.mul_tdiv_add_tmod x d;have h2:=Int.natAbs_tmod x d;have h3:(x.tmod d).natAbs<d.natAbs:=by rw[h2];exact Nat.mod_lt _ (by omega)
 have h4:x=(if x.tmod d<0 then x.tmod d+d else x.tmod d)+d*(if x.tmod d<0 then x.tdiv d-1 else x.tdiv d):=by
  split
  ·rw[Int.mul_sub];omega
  ·omega
 conv=>rhs;rw[h4]
 rw[Int.add_mul_ediv_left _ _ (by omega),Int.ediv_eq_zero_of_lt (by split<;>omega) (by split<;>omega),Int.zero_add]
def CE(a:(Bool×List Int)×(Bool×List Int)):Bool:=HE a.1&&HE a.2&&((!a.2.1&& !a.2.2.isEmpty)&&decide (Nat.gcd (val a.1.2).toNat (val a.2.2).toNat=1))
theorem Nm{a:(Bool×List Int)×(Bool×List Int)}:CE a=true↔∃q:Rat,Sz 40 q/\a=rq q:=by
 unfold CE;constructor
 ·intro h;simp only[za2,decide_eq_true_eq]at h;obtain⟨⟨h1,h2⟩,⟨h3,h4⟩,h5⟩:=h;obtain⟨x,hx,e1⟩:=I8.1 h1;obtain⟨y,hy,e2⟩:=I8.1 h2;rw[e2]at h3 h4 h5;rw[e1]at h5;unfold big at h3 h4 h5;simp only[As,zc2]at h5;simp only[Bool.not_eq_true',decide_eq_false_iff_not]at h3;simp only[Bool.not_eq_true']at h4;have h6:y≠0:=by
   rintro rfl;rw[show(0:Int).natAbs=0 from rfl,CH]at h4;simp at h4
  refine⟨⟨x,y.natAbs,by omega,h5⟩,⟨hx,by show((y.natAbs:Nat):Int)<B 40;exact hy⟩,?_⟩;unfold rq;rw[<-e1];refine Prod.ext rfl ?_;rw[e2];show big y=big ((y.natAbs:Nat):Int)
  congr 1
  omega
 ·rintro⟨q,h,rfl⟩;unfold rq;have hd:=q.den_nz;have hb:=KU h.1;have hb2:=KU (CT h.2);simp only[hb,hb2,ze2];unfold big;simp only[As,zc2,zf4,za2,decide_eq_true_eq,Bool.not_eq_true',decide_eq_false_iff_not];refine⟨⟨by omega,?_⟩,q.reduced⟩;have:=Nt q.den;rw[zp hd]at this;simpa using this
theorem Uk{q:Rat}(h:Sz 40 q):CE (rq q)=true:=Nm.2 ⟨q,h,rfl⟩
abbrev RF:=Bool×(List Int×Bool×List Int)
def rqF(q:Rat):RF:=((big q.num).1,(big q.num).2,(big (q.den:Int)).1,(big (q.den:Int)).2)
def zF:RF:=(false,[],false,[])
theorem Yj(q:Rat):((rqF q).1,(rqF q).2.1)=big q.num:=(rfl)
theorem cB(q:Rat):((rqF q).2.2.1,(rqF q).2.2.2)=big (q.den:Int):=(rfl)
theorem RZ(q:Rat):(rqF q).2.2=big (q.den:Int):=(rfl)
theorem A2(a:RF):(a.1,a.2.1,a.2.2.1,a.2.2.2)=a:=(rfl)
theorem pD{x y:Int}{k:Nat}(hy:(y.natAbs:Int)<B k)(h0:y≠0):(((Int.gcd x y:Nat):Int).natAbs:Int)<B k:=by
 rw[zf4];have:Int.gcd x y<=y.natAbs:=Nat.le_of_dvd (by omega) (Nat.gcd_dvd_right ..);omega
theorem vu{x y:Int}(h0:y≠0):((Int.gcd x y:Nat):Int)≠0:=by
 have:0<Int.gcd x y:=Nat.gcd_pos_of_pos_right _ (by omega);omega
theorem I5{x:Int}{k:Nat}(hk:k<=1000000)(h:(x.natAbs:Int)<B k):Az (big x).2:=by
 have:=Ao.2 h;unfold big Az;dsimp only;omega
theorem QR(x:Int)(s:Bool):(lim (val (big x).2).toNat,s&&decide ((val (big x).2).toNat≠0))=(lim x.natAbs,s&&decide (x≠0)):=by
 unfold big;simp only[As,zc2]
 congr 2
 exact decide_eq_decide.2 (by omega)
theorem VG{x:Int}{k:Nat}(hk:k<=1000000)(h:(x.natAbs:Int)<B k):Hu (big x)=some (big (-x)):=by
 unfold Hu;rw[Jo (show LB (big x).2 from AJ _) (I5 hk h),QR];simp only[za0]
 congr 1
 unfold big;simp only;refine Prod.ext ?_ (by simp);simp only;by_cases h0:x<0
 ·rw[zp h0];simp;omega
 ·rw[zq h0];simp only[Bool.not_false,ze2];exact decide_eq_decide.2 (by omega)
theorem YG{x:Int}{k:Nat}(hk:k<=1000000)(h:(x.natAbs:Int)<B k):IU (big x)=some (big (-x)):=by
 unfold IU;rw[G6 (show LB (big x).2 from AJ _) (I5 hk h),QR];simp only[za0]
 congr 1
 unfold big;simp only;refine Prod.ext ?_ (by simp);simp only;by_cases h0:x<0
 ·rw[zp h0];simp;omega
 ·rw[zq h0];simp only[Bool.not_false,ze2];exact decide_eq_decide.2 (by omega)
theorem pZ{x:Int}{k:Nat}(hk:k<=1000000)(h:(x.natAbs:Int)<B k):Bo (big x).1 (big x).2=some ((big x).2,(big x).1):=by
 rw[Jo (show LB (big x).2 from AJ _) (I5 hk h),QR]
 congr 1
 unfold big;simp only;refine Prod.ext rfl ?_;simp only;by_cases h0:x<0
 ·rw[zp h0];simp;omega
 ·rw[zq h0];rfl
theorem YC{n:Nat}{k:Nat}(hk:k<=1000000)(h:(n:Int)<B k):Bo false (big (n:Int)).2=some ((big (n:Int)).2,(big (n:Int)).1):=by
 have:=pZ (x:=(n:Int)) hk (CT h)
 rwa[show(big (n:Int)).1=false by rw[Ip]]at this⊢
theorem fC{x:Int}{k:Nat}(hk:k<=1000000)(h:(x.natAbs:Int)<B k):BC (big x).1 (big x).2=some ((big x).2,(big x).1):=by
 rw[G6 (show LB (big x).2 from AJ _) (I5 hk h),QR]
 congr 1
 unfold big;simp only;refine Prod.ext rfl ?_;simp only;by_cases h0:x<0
 ·rw[zp h0];simp;omega
 ·rw[zq h0];rfl
theorem fD{n:Nat}{k:Nat}(hk:k<=1000000)(h:(n:Int)<B k):BC false (big (n:Int)).2=some ((big (n:Int)).2,(big (n:Int)).1):=by
 have:=fC (x:=(n:Int)) hk (CT h)
 rwa[show(big (n:Int)).1=false by rw[Ip]]at this⊢
theorem gN{x y:Int}{k:Nat}(hk:k<=90000)(hx:(x.natAbs:Int)<B k)(hy:(y.natAbs:Int)<B k)(h0:y≠0):KK (big x) (big y)=some (rqF (Rat.divInt x y)):=by
 obtain⟨p1,p2⟩:=N2 (x:=x) h0;have hg:=pD (x:=x) hy h0;have hg0:=vu (x:=x) h0;unfold KK;simp only[AR,eE hk hx hy,za0];rw[show(big y).1=decide (y<0)from rfl];by_cases hn:y<0
 ·rw[zr hn]at p1 p2;rw[zp hn];simp only[cond_true,VG (show k<=1000000 by omega) hg,za0,za6,Nn hk hx (y8 hg) (by omega),Nn hk hy (y8 hg) (by omega),p1,p2];rfl
 ·rw[zw hn]at p1 p2;rw[zq hn];simp only[cond_false,za0,za6,Nn hk hx hg hg0,Nn hk hy hg hg0,p1,p2];rfl
theorem ZY(q:Rat):(q.den:Int)≠0:=by have:=q.den_nz;omega
theorem N1(p q:Rat):(p.den:Int)*(q.den:Int)≠0:=fun h=>by rcases Int.mul_eq_zero.1 h with h|h<;>exact ZY _ h
theorem oG{x y:Int}{k:Nat}(hk:k<=1000000)(hx:(x.natAbs:Int)<B k)(hy:(y.natAbs:Int)<B k):Ku (big x) (big y)=some (Dt x y):=by
 have lx:=HG hx hk;have ly:=HG hy hk;have e1:=Rh (a:=x.natAbs) (b:=y.natAbs) (by unfold Az;omega) (by unfold Az;omega);have e2:=Rh (a:=y.natAbs) (b:=x.natAbs) (by unfold Az;omega) (by unfold Az;omega);unfold Ku;rw[show(big x).1=decide (x<0)from rfl,show(big y).1=decide (y<0)from rfl,show(big x).2=lim x.natAbs from rfl,show(big y).2=lim y.natAbs from rfl,e1,e2];by_cases h1:x<0
 ·by_cases h2:y<0
  ·rw[zp h1,zp h2];simp only[cond_true,cond_false,zf5,za0]
   congr 1
   rcases Co x y with⟨e,h⟩|⟨e,h⟩|⟨e,h⟩
   ·rw[e];exact EY (by omega)
   ·rw[e];exact Hc (by omega)
   ·rw[e,h];exact QX _
  ·rw[zp h1,zq h2,EY (show x<y by omega)];rfl
 ·by_cases h2:y<0
  ·rw[zq h1,zp h2,Hc (show y<x by omega)];rfl
  ·rw[zq h1,zq h2];simp only[cond_true,cond_false,Bool.not_false,za0]
   congr 1
   rcases Co x y with⟨e,h⟩|⟨e,h⟩|⟨e,h⟩
   ·rw[e];exact EY (by omega)
   ·rw[e];exact Hc (by omega)
   ·rw[e,h];exact QX _
section
variable {p q:Rat} {k:Nat} (hk:k<=20000) (hp:Sz k p) (hq:Sz k q)
include hk hp hq
theorem KX:Dj (rqF p) (rqF q)=some (rqF (p+q)):=by
 obtain⟨r1,a1,b1⟩:=EF (k:=k) (by omega) hp.1 (CT hq.2);obtain⟨r2,a2,b2⟩:=EF (k:=k) (by omega) hq.1 (CT hp.2);obtain⟨r3,a3,b3⟩:=EF (k:=k) (by omega) (CT hp.2) (CT hq.2);unfold Dj;simp only[Yj,cB,RZ,a1,a2,a3,b1,b2,b3,za0];rw[eD (k:=k+k) (by omega) (J2 hp.1 (CT hq.2)) (J2 hq.1 (CT hp.2))];simp only[za0,AR];rw[gN (k:=k+k+1) (by omega) (V2 hp hq) (upB (J2 (CT hp.2) (CT hq.2)) (by omega)) (N1 p q),<-wQ];rfl
theorem Ja:CY (rqF p) (rqF q)=some (rqF (p*q)):=by
 obtain⟨r1,a1,b1⟩:=EF (k:=k) (by omega) hp.1 hq.1;obtain⟨r3,a3,b3⟩:=EF (k:=k) (by omega) (CT hp.2) (CT hq.2);unfold CY;simp only[Yj,cB,RZ,a1,a3,b1,b3,za0];rw[gN (k:=k+k) (by omega) (J2 hp.1 hq.1) (J2 (CT hp.2) (CT hq.2)) (N1 p q),<-wS];rfl
theorem VJ(h0:q≠0):Hv (rqF p) (rqF q)=some (rqF (p/q)):=by
 obtain⟨r1,a1,b1⟩:=EF (k:=k) (by omega) hp.1 (CT hq.2);obtain⟨r3,a3,b3⟩:=EF (k:=k) (by omega) (CT hp.2) hq.1;unfold Hv;simp only[Yj,cB,RZ,a1,a3,b1,b3,za0];rw[gN (k:=k+k) (by omega) (J2 hp.1 (CT hq.2)) (J2 (CT hp.2) hq.1) (by
  intro h;rcases Int.mul_eq_zero.1 h with h|h
  ·exact ZY _ h
  ·exact h0 (Rat.num_eq_zero.1 h)),<-wR]
 rfl
theorem gL:HY (rqF p) (rqF q)=some (T9 p q):=by
 obtain⟨r1,a1,b1⟩:=EF (k:=k) (by omega) hp.1 (CT hq.2);obtain⟨r2,a2,b2⟩:=EF (k:=k) (by omega) hq.1 (CT hp.2);unfold HY;simp only[Yj,cB,RZ,a1,a2,b1,b2,za0];rw[Ur (k:=k+k) (by omega) (J2 hp.1 (CT hq.2)) (J2 hq.1 (CT hp.2)),pr];rfl
theorem Gc:DY (rqF p) (rqF q)=some (decide (p<q)):=by
 unfold DY;simp only[A2,gL hk hp hq,za0]
 congr 1
 exact decide_eq_decide.2 pt
theorem OP:IV (rqF p) (rqF q)=some (T9 p q):=by
 unfold IV;simp only[Yj,cB,RZ,KH (k:=k) (by omega) hp.1 (CT hq.2),KH (k:=k) (by omega) hq.1 (CT hp.2),za0,AR];rw[oG (k:=k+k) (by omega) (J2 hp.1 (CT hq.2)) (J2 hq.1 (CT hp.2)),pr];rfl
end
theorem sx{q:Rat}{k:Nat}(hk:k<=1000000)(hq:Sz k q):Mh (rqF q)=some (rqF (-q)):=by
 unfold Mh;simp only[Yj,VG hk hq.1,za0];rw[show(rqF q).2.2.2=(big (q.den:Int)).2 from rfl,YC hk hq.2];rfl
theorem Q4{p q:Rat}{k:Nat}(hk:k<=20000)(hp:Sz k p)(hq:Sz k q):FT (rqF p) (rqF q)=some (rqF (p-q)):=by
 unfold FT;simp only[A2,sx (k:=k) (by omega) hq,za0,KX hk hp (oQ hq)];rw[Rat.sub_eq_add_neg]
theorem mC:Ez (1:Int)=some (big 1):=Yv (by omega) (by omega)
theorem ls:Fk (1:Int)=some (big 1):=UG (by omega) (by omega)
theorem Jp{n:Int}(h1: -9223372036854775808<=n:=by omega)(h2:n<=9223372036854775807:=by omega):Be n=some (rqF (n:Rat)):=by
 unfold Be;simp only[Yv h1 h2,mC,za0];rfl
theorem Ri{n:Int}(h1: -9223372036854775808<=n:=by omega)(h2:n<=9223372036854775807:=by omega):C4 n=some (rqF (n:Rat)):=by
 unfold C4;simp only[UG h1 h2,ls,za0];rfl
theorem kY{k:Nat}(hk:1<=k:=by omega):(((1:Int).natAbs:Nat):Int)<B k:=by
 have:=K2 hk;rw[B1]at this;omega
theorem kt{q:Rat}{k:Nat}(hk:k<=80000)(h1:1<=k)(hq:Sz k q):GQ (rqF q)=some (big q.floor):=by
 have hd:=q.den_pos;have hf:=Xy (x:=q.num) (d:=(q.den:Int)) (by omega);rw[<-Rat.floor_def]at hf;have ht:=upB (m:=k+1) (k:=k) (x:=q.num.tdiv (q.den:Int)) (by have:=Rm q.num (q.den:Int);have:=hq.1;omega) (by omega);unfold GQ IS;simp only[Yj,cB,RZ,Nn (k:=k) (by omega) hq.1 (CT hq.2) (ZY q),za0,AR,gO];by_cases h:q.num.tmod (q.den:Int)<0
 ·rw[zr h]at hf;rw[EY h];simp only[show decide ((-1:Int)<0)=true from rfl,cond_true,mC,za0,AR];unfold Pl;simp only[AR,VG (k:=k+1) (by omega) (kY (by omega)),za0];rw[eD (k:=k+1) (by omega) ht (by simpa using kY (k:=k+1) (by omega)),<-hf];simp only[za0,AR,Int.sub_eq_add_neg]
 ·rw[zw h]at hf;have:decide (Dt (q.num.tmod (q.den:Int)) 0<0)=false:=zq (by rcases Co (q.num.tmod (q.den:Int)) 0 with⟨e,g⟩|⟨e,g⟩|⟨e,g⟩<;>omega);rw[this,<-hf];rfl
def BrF(a:RF):Prop:=Az a.2.1/\Az a.2.2.2
def toQ(a:RF):(Bool×List Int)×(Bool×List Int):=((a.1,a.2.1),a.2.2.1,a.2.2.2)
theorem lX{q:Rat}{k:Nat}(hk:k<=1000000)(h:Sz k q):BrF (rqF q):=⟨I5 hk h.1,I5 hk (CT h.2)⟩
theorem zt{y:Int}:(!(big y).1&& !(big y).2.isEmpty)=decide (0<y):=by
 unfold big;simp only;have:=Nt y.natAbs;rw[this];by_cases h:0<y
 ·rw[zp h,zq,zp];rfl
 ·rw[zq h];by_cases h0:y=0
  ·subst h0;rfl
  ·rw[zp (show y<0 by omega)];rfl
theorem ew{x y:Int}(hx:(x.natAbs:Int)<B 40)(hy:(y.natAbs:Int)<B 40):CE (big x,big y)=(decide (0<y)&&decide (Int.gcd x y=1)):=by
 unfold CE;simp only[KU hx,KU hy,ze2,zt];unfold big;simp only[As,zc2];rfl
theorem ZR{g:Nat}:(Dt (g:Int) 1==0)=decide (g=1):=by
 rcases Co (g:Int) 1 with⟨e,h⟩|⟨e,h⟩|⟨e,h⟩
 ·rw[e,zq];rfl
 ·rw[e,zq];rfl
 ·rw[e,zp];rfl
theorem gV(y:Int):((((big y).2.length:Nat):Int)==(0:Int))=decide (y=0):=by
 rw[Bool.eq_iff_iff];simp only[beq_iff_eq,decide_eq_true_eq];unfold big;constructor
 ·intro h;have:=KE.1 (zb2 (show(lim y.natAbs).length=0 by simpa using h));omega
 ·rintro rfl;rw[show(0:Int).natAbs=0 from rfl,CH];rfl
theorem sr{a:RF}(h:BrF a):Me a=some (CE (toQ a)):=by
 obtain⟨n,nl,d,dl⟩:=a;unfold Me toQ;simp only;have hl:K6 [(n,nl),(d,dl)]=some (HE (n,nl)&&HE (d,dl)):=by
  rw[vB (by simp) (by intro b hb;simp at hb;rcases hb with rfl|rfl;exact h.1;exact h.2)];simp
 rw[hl];simp only[za0];cases hg:HE (n,nl)&&HE (d,dl)with
 |false=>unfold CE;simp only[hg,zf8,cond_false]
 |true=>
  rw[za2]at hg;obtain⟨x,hx,e1⟩:=I8.1 hg.1;obtain⟨y,hy,e2⟩:=I8.1 hg.2;simp only[e1,e2,cond_true,gO,za0,ew hx hy];rcases Co y 0 with⟨e,g⟩|⟨e,g⟩|⟨e,g⟩
  ·rw[e,zq (show ¬0<y by omega)];rfl
  ·rw[e,zp (show 0<y by omega)];simp only[show decide ((1:Int)>0)=true from rfl,cond_true,eE (k:=40) (by omega) hx hy,mC,za0,AR,ze2];rw[Ur (k:=40) (by omega) (pD hy (by omega)) (kY (by omega))];simp only[za0,ZR]
  ·rw[e,zq (show ¬0<y by omega)];rfl
theorem fA{a:RF}(h:BrF a):JB a=some (CE (toQ a)):=by
 obtain⟨n,nl,d,dl⟩:=a;unfold JB toQ;simp only;rw[Wc h.1];simp only[za0];cases h1:HE (n,nl)with
 |false=>unfold CE;simp only[h1,zf8,Bool.not_false,cond_true]
 |true=>
  simp only[zf5,cond_false];rw[Wc h.2];simp only[za0];cases h2:HE (d,dl)with
  |false=>unfold CE;simp only[h1,h2,Bool.and_false,zf8,Bool.not_false,cond_true]
  |true=>
   obtain⟨x,hx,e1⟩:=I8.1 h1;obtain⟨y,hy,e2⟩:=I8.1 h2;have f1:nl=(big x).2:=congrArg Prod.snd e1;have f2:dl=(big y).2:=congrArg Prod.snd e2;have f3:d=(big y).1:=congrArg Prod.fst e2;simp only[zf5,cond_false];rw[e1,e2,ew hx hy,f3,show(big y).1=decide (y<0)from rfl];by_cases hy0:y<0
   ·rw[zp hy0,zq (show ¬0<y by omega)];rfl
   ·rw[zq hy0];simp only[cond_false];rw[f2,gV];by_cases h0:y=0
    ·rw[zp h0,zq (show ¬0<y by omega)];rfl
    ·rw[zq h0,zp (show 0<y by omega)];simp only[cond_false];rw[f1,qO (k:=40) (by omega) hx hy];simp only[za0];have hl1:([1]:List Int)=lim 1:=by rw[aC (by omega),CH];rfl
     have hgb:=Ao.2 (show((Int.gcd x y:Nat):Int)<B 40 by have:=pD (x:=x) hy h0;rwa[zf4]at this);rw[hl1,Rh (by unfold Az;omega) (by rw[<-hl1];unfold Az;simp)];simp only[za0,ZR,ze2];exact congrArg some ZR
theorem eF{l:List ((Bool×List Int)×Bool×List Int)}(hl:l.length<=1000)(hb:∀a∈l,Az a.1.2/\Az a.2.2):Hw l=some (l.all CE):=by
 unfold Hw;obtain⟨h1,h2⟩:=bK (l:=l) (body:=fun(s:(List ((Bool×List Int)×Bool×List Int))×(Int×Int))=>Jg s.1 s.2.1 s.2.2)
  (st:=fun k (_:Unit)=>(l,(l.length:Int),(k:Int))) (step:=fun _ a=>if CE a then .inr ()else .inl (.inr false)) (fin:=fun _=>.inl ()) (I:=fun _ _=>True)
  (by
   rintro k b a hk _;have hkl:=Dd hk;unfold Jg;have ha:=hb a (za3 hk);simp only[zp (show(k:Int)<(l.length:Int) by omega),cond_true,Af,hk,za0];rw[sr (a:=(a.1.1,a.1.2,a.2.1,a.2.2)) ha];simp only[za0,toQ,AR];cases hg:CE a with
   |true=>left;exact⟨(),by simp,by simp only[zf5,cond_false];rw[Ae];rfl,trivial⟩
   |false=>right;exact⟨.inr false,by simp,by simp only[Bool.not_false,cond_true]⟩)
  (by
   rintro b _;unfold Jg;simp) () trivial
 rw[show((0:Nat):Int)=0 from rfl]at h1;rw[h1];have key:∀(m:List ((Bool×List Int)×Bool×List Int)),Eo (ρ:=Unit⊕Bool) (fun(_:Unit) a=>if CE a then .inr ()else .inl (.inr false)) () m=if m.all CE then .inr ()else .inl (.inr false):=by
  intro m
  induction m with
  |nil=>rfl
  |cons a m ih=>
   unfold Eo;rw[zd1];cases hg:CE a with
   |true=>simp only[if_true,ze2];exact ih
   |false=>simp
 rw[key];cases l.all CE<;>rfl
def RU(q:Rat):RF×Bool:=if Sz 40 q then(rqF q,true)else(zF,false)
theorem sG{q:Rat}{n:Nat}:Cw (rqF q) (n:Int)=some (decide (Sz n q)):=by
 unfold Cw;have e1:((((rqF q).2.1.length:Nat):Int)<=(n:Int))↔((q.num.natAbs:Int)<B n):=by rw[<-Ao];exact Int.ofNat_le
 have e2:((((rqF q).2.2.2.length:Nat):Int)<=(n:Int))↔((q.den:Int)<B n):=by
  have:(rqF q).2.2.2=lim q.den:=by show(big (q.den:Int)).2=_;rw[Ip]
  rw[this,<-Ao];exact Int.ofNat_le
 unfold Sz;by_cases h1:(q.num.natAbs:Int)<B n
 ·rw[zp (e1.2 h1)];simp only[cond_true,decide_eq_decide.2 e2,h1,true_and]
 ·rw[zq (fun h=>h1 (e1.1 h))];simp[h1]
theorem Uq(q:Rat):FU (rqF q)=some (RU q):=by
 unfold FU RU;simp only[A2];rw[show(40:Int)=((40:Nat):Int)from rfl,sG];by_cases h:Sz 40 q
 ·simp[h]
 ·simp[h];rfl
theorem qN{x y:Int}{k:Nat}(hk:k<=1000000)(hx:(x.natAbs:Int)<B k)(hy:(y.natAbs:Int)<B k):MW (big x) (big y)=some (big (x+y)):=by
 have lx:=HG hx hk;have ly:=HG hy hk;unfold MW big;simp only;by_cases hs:decide (x<0)=decide (y<0)
 ·rw[hs,beq_self_eq_true];obtain⟨r,e1,e2,e3,e4,_⟩:=iA (AJ x.natAbs) (AJ y.natAbs) (by omega) (by omega);rw[As,As]at e3;simp only[cond_true,e1,za0];rw[G6 e2 (by unfold Az;omega)];simp only[za0];have hv:(val r).toNat=(x+y).natAbs:=by
   by_cases h1:x<0
   ·have:y<0:=by simpa[h1]using hs
    omega
   ·have:¬y<0:=by simpa[h1]using hs
    omega
  rw[hv]
  congr 2
  by_cases h2:y<0
  ·have h1:x<0:=by simpa[h2]using hs
   rw[zp h2,zp (show x+y<0 by omega),zp (show(x+y).natAbs≠0 by omega)];rfl
  ·have h1:¬x<0:=by simpa[h2]using hs
   rw[zq h2,zq (show ¬x+y<0 by omega)];rfl
 ·have hb:(decide (x<0)==decide (y<0))=false:=by simpa using hs
  rw[hb];simp only[cond_false];rw[Rh (by unfold Az;omega) (by unfold Az;omega)];simp only[za0];have hxy:(x<0/\¬y<0)\/(¬x<0/\y<0):=by
   by_cases h1:x<0<;>by_cases h2:y<0<;>simp[h1,h2]at hs⊢
  rcases zd8 x.natAbs y.natAbs with hlt|hge
  ·rw[EY,zq];simp only[cond_false];have hl:(lim x.natAbs).length<=(lim y.natAbs).length:=Ao.2 (by have:=Ao.1 (za7 (lim y.natAbs).length);omega);rw[UJ (AJ _) (AJ _) hl (by omega) (by rw[As,As];omega)];simp only[za0,As];have e:((y.natAbs:Int)-(x.natAbs:Int)).toNat=(x+y).natAbs:=by omega
   rw[e,G6 (AJ _) (by
    have:(lim (x+y).natAbs).length<=(lim y.natAbs).length:=Ao.2 (by have:=Ao.1 (za7 (lim y.natAbs).length);omega);unfold Az;omega)]
   simp only[za0,As,zc2]
   congr 2
   by_cases h2:y<0
   ·rw[zp h2,zp (show x+y<0 by omega),zp (show(x+y).natAbs≠0 by omega)];rfl
   ·rw[zq h2,zq (show ¬x+y<0 by omega)];rfl
  ·have hc:Dt (x.natAbs:Int) (y.natAbs:Int)>=0:=by unfold Dt;rw[zw (by omega)];split<;>omega
   rw[zp hc];simp only[cond_true];have hl:(lim y.natAbs).length<=(lim x.natAbs).length:=Ao.2 (by have:=Ao.1 (za7 (lim x.natAbs).length);omega);rw[UJ (AJ _) (AJ _) hl (by omega) (by rw[As,As];omega)];simp only[za0,As];have e:((x.natAbs:Int)-(y.natAbs:Int)).toNat=(x+y).natAbs:=by omega
   rw[e,G6 (AJ _) (by
    have:(lim (x+y).natAbs).length<=(lim x.natAbs).length:=Ao.2 (by have:=Ao.1 (za7 (lim x.natAbs).length);omega);unfold Az;omega)]
   simp only[za0,As,zc2]
   congr 2
   by_cases h2:x<0
   ·rw[zp h2];by_cases h3:x+y<0
    ·rw[zp h3,zp (show(x+y).natAbs≠0 by omega)];rfl
    ·rw[zq h3,zq (show ¬(x+y).natAbs≠0 by omega)];rfl
   ·rw[zq h2,zq (show ¬x+y<0 by omega)];rfl
theorem UM {x y : Int} {k : Nat} (hk : k <= 90000) (hx : (x.natAbs : Int) < B k) (hy : (y.natAbs : Int) < B k) (h0 : y ≠ 0) : Hf (big x) (big y) = some (rqF (Rat.divInt x y)) := by
  obtain ⟨p1, p2⟩ := N2 (x := x) h0;have hg := pD (x := x) hy h0;have hg0 := vu (x := x) h0;have hl : (lim (Int.gcd x y)).length <= k := Ao.2 (by rwa [zf4] at hg);unfold Hf;rw [qO hk hx hy];simp only [za0];rw [G6 (AJ _) (by unfold Az; omega), As, zc2];simp only [za0, zf8];rw [<- Ip];simp only [AR, iB hk hx hg hg0, iB hk hy hg hg0, za0];have t1 := Rm x (Int.gcd x y : Nat);have t2 := Rm y (Int.gcd x y : Nat);obtain ⟨c, hc⟩ : ((Int.gcd x y : Nat) : Int) ∣ y := Int.gcd_dvd_right ..
  have e2 : y.tdiv (Int.gcd x y : Nat) = c := by conv => lhs; lhs; rw [hc]
                                                 exact Int.mul_tdiv_cancel_left _ hg0
  have hsg : (y < 0) ↔ c < 0 := by
    have hp : (0 : Int) < (Int.gcd x y : Nat) := by omega
    generalize ((Int.gcd x y : Nat) : Int) = g at *
    constructor
    · intro h
      rcases Int.lt_or_le c 0 with e | e
      · exact e
      · have := zf6 (ze9 hp) e; omega
    · intro h; have := Int.mul_neg_of_pos_of_neg hp h; omega
  rw [show (big (y.tdiv (Int.gcd x y : Nat))).1 = decide (y.tdiv (Int.gcd x y : Nat) < 0) from rfl];by_cases hn : y < 0
  · rw [zr hn, Int.tdiv_neg] at p1 p2
    rw [zp (by rw [e2]; exact hsg.1 hn)];simp only [cond_true];rw [YG (show k <= 1000000 by omega) (by omega), YG (show k <= 1000000 by omega) (by omega)];simp only [za0, p1, p2];rfl
  · rw [zw hn] at p1 p2
    rw [zq (by rw [e2]; exact fun h => hn (hsg.2 h))];simp only [cond_false, p1, p2];rfl
theorem zN{q:Rat}{k:Nat}(hk:k<=1000000)(hq:Sz k q):QH (rqF q)=some (rqF (-q)):=by
 unfold QH;simp only[Yj,YG hk hq.1,za0];rfl
section
variable {p q:Rat} {k:Nat} (hk:k<=20000) (hp:Sz k p) (hq:Sz k q)
include hk hp hq
theorem UK:Hz (rqF p) (rqF q)=some (rqF (p+q)):=by
 unfold Hz;simp only[Yj,cB,RZ,KH (k:=k) (by omega) hp.1 (CT hq.2),KH (k:=k) (by omega) hq.1 (CT hp.2),KH (k:=k) (by omega) (CT hp.2) (CT hq.2),za0,AR];rw[qN (k:=k+k) (by omega) (J2 hp.1 (CT hq.2)) (J2 hq.1 (CT hp.2))];simp only[za0,AR];rw[UM (k:=k+k+1) (by omega) (V2 hp hq) (upB (J2 (CT hp.2) (CT hq.2)) (by omega)) (N1 p q),<-wQ];rfl
theorem YH:IW (rqF p) (rqF q)=some (rqF (p*q)):=by
 unfold IW;simp only[Yj,cB,RZ,KH (k:=k) (by omega) hp.1 hq.1,KH (k:=k) (by omega) (CT hp.2) (CT hq.2),za0,AR];rw[UM (k:=k+k) (by omega) (J2 hp.1 hq.1) (J2 (CT hp.2) (CT hq.2)) (N1 p q),<-wS];rfl
theorem qQ(h0:q≠0):MY (rqF p) (rqF q)=some (rqF (p/q)):=by
 unfold MY;simp only[Yj,cB,RZ,KH (k:=k) (by omega) hp.1 (CT hq.2),KH (k:=k) (by omega) (CT hp.2) hq.1,za0,AR];rw[UM (k:=k+k) (by omega) (J2 hp.1 (CT hq.2)) (J2 (CT hp.2) hq.1) (by
  intro h;rcases Int.mul_eq_zero.1 h with h|h
  ·exact ZY _ h
  ·exact h0 (Rat.num_eq_zero.1 h)),<-wR]
 rfl
end
theorem YI{p q:Rat}{k:Nat}(hk:k<=20000)(hp:Sz k p)(hq:Sz k q):IX (rqF p) (rqF q)=some (rqF (p-q)):=by
 unfold IX;simp only[A2,zN (k:=k) (by omega) hq,za0,UK hk hp (oQ hq)];rw[Rat.sub_eq_add_neg]
theorem zM{x y:Int}{k:Nat}(hk:k<=900000)(hx:(x.natAbs:Int)<B k)(hy:(y.natAbs:Int)<B k):QG (big x) (big y)=some (big (x-y)):=by
 unfold QG;simp only[AR,YG (k:=k) (by omega) hy,za0];rw[qN (k:=k) (by omega) hx (y8 hy)];simp only[za0,AR,Int.sub_eq_add_neg]
theorem tP{q:Rat}{k:Nat}(hk:k<=80000)(h1:1<=k)(hq:Sz k q):Mt (rqF q)=some (big q.floor):=by
 have hd:=q.den_pos;have hf:=Xy (x:=q.num) (d:=(q.den:Int)) (by omega);rw[<-Rat.floor_def]at hf;have ht:=upB (m:=k+1) (k:=k) (x:=q.num.tdiv (q.den:Int)) (by have:=Rm q.num (q.den:Int);have:=hq.1;omega) (by omega);unfold Mt;simp only[Yj,cB,RZ,iB (k:=k) (by omega) hq.1 (CT hq.2) (ZY q),za0,AR];rw[show(big (q.num.tmod (q.den:Int))).1=decide (q.num.tmod (q.den:Int)<0)from rfl];by_cases h:q.num.tmod (q.den:Int)<0
 ·rw[zr h]at hf;rw[zp h];simp only[cond_true,ls,za0,AR];rw[zM (k:=k+1) (by omega) ht (kY (by omega)),<-hf];rfl
 ·rw[zw h]at hf;rw[zq h,<-hf];rfl
theorem UL{q:Rat}{k:Nat}(hk:k<=1000000)(hq:Sz k q):F2 (rqF q)=some (RU q):=by
 unfold F2 RU;have e1:((((rqF q).2.1.length:Nat):Int)>40)↔¬((q.num.natAbs:Int)<B 40):=by
  rw[<-Ao];show((((lim q.num.natAbs).length:Nat):Int)>40)↔_;omega
 have e2:((((rqF q).2.2.2.length:Nat):Int)>40)↔¬((q.den:Int)<B 40):=by
  rw[<-Ao];have:(rqF q).2.2.2=lim q.den:=by show(big (q.den:Int)).2=_;rw[Ip]
  rw[this];omega
 by_cases h1:(q.num.natAbs:Int)<B 40
 ·rw[zq (fun h=>e1.1 h h1)];by_cases h2:(q.den:Int)<B 40
  ·rw[zq (fun h=>e2.1 h h2),zr ⟨h1,h2⟩];simp only[cond_false];rw[show(rqF q).1=(big q.num).1 from rfl,show(rqF q).2.1=(big q.num).2 from rfl,show(rqF q).2.2.2=(big (q.den:Int)).2 from rfl,fC (k:=40) (by omega) h1,fD (k:=40) (by omega) h2];rfl
  ·rw[zp (e2.2 h2),zw (fun h=>h2 h.2)];rfl
 ·rw[zp (e1.2 h1),zw (fun h=>h1 h.1)];rfl
theorem KQ{q:Rat}(h:Sz 40 q):RU q=(rqF q,true):=zr h
theorem Q1{q:Rat}(h:¬Sz 40 q):RU q=(zF,false):=zw h
section
variable {p q:Rat} (hp:Sz 40 p) (hq:Sz 40 q)
include hp hq
end
section
variable {a b:RF} (ha:BrF a) (hb:BrF b) (h:(CE (toQ a)&&CE (toQ b))=false)
include ha hb h
end
def ShF(a:RF):Prop:=a.2.1.length<=100/\a.2.2.2.length<=100
theorem ShF.br{a:RF}(h:ShF a):BrF a:=by unfold ShF at h;unfold BrF Az;omega
open Go
open Go
abbrev Q2:=Rat×Rat
def crd(b:Bool)(p:Q2):Rat:=if b then p.2 else p.1
def ins(b high:Bool)(s:Rat)(p:Q2):Bool:=if high then decide (s<=crd b p)else decide (crd b p<=s)
def VX(a c:Q2)(t:Rat):Q2:=(a.1+t*(c.1-a.1),a.2+t*(c.2-a.2))
def ZU(b:Bool)(s:Rat)(a c:Q2):Q2:=VX a c ((s-crd b a)/(crd b c-crd b a))
def LV(b high:Bool)(s:Rat)(a c:Q2):List Q2:=(if ins b high s a=ins b high s c then []else [ZU b s a c])++(if ins b high s c then [c]else [])
def Cn(b high:Bool)(s:Rat):Q2->List Q2->List Q2
 |_,[]=>[]
 |a,c::l=>LV b high s a c++Cn b high s c l
def Iz(l:List Q2):Q2:=l.getLast?.getD (0,0)
def Fy(b high:Bool)(s:Rat)(l:List Q2):List Q2:=Cn b high s (Iz l) l
def crs(p q:Q2):Rat:=p.1*q.2-q.1*p.2
def chn(f:Q2->Q2->Rat):Q2->List Q2->Rat
 |_,[]=>0
 |a,c::l=>f a c+chn f c l
def J8(l:List Q2):Rat:=chn crs (Iz l) l
theorem Af7{b:Bool}{s:Rat}{a c:Q2}(h:crd b c≠crd b a):crd b (ZU b s a c)=s:=by
 have hd:crd b c-crd b a≠0:=fun e=>h (by grind)
 have hm:=Rat.div_mul_cancel hd (a:=s-crd b a);unfold ZU VX;cases b with
 |true=>
  unfold crd at*
  simp at*
  rw[hm];grind
 |false=>
  unfold crd at*
  simp at*
  rw[hm];grind
theorem nP{b high:Bool}{s:Rat}{a c:Q2}(h:ins b high s a≠ins b high s c):crd b c≠crd b a:=by
 intro e;apply h;unfold ins;rw[e]
theorem vU{b:Bool}{s:Rat}{p:Q2}:ins b false s p=decide (crd b p<=s):=rfl
theorem vT{b:Bool}{s:Rat}{p:Q2}:ins b true s p=decide (s<=crd b p):=rfl
def j6:Q2->List Q2->Q2
 |a,[]=>a
 |_,c::l=>j6 c l
theorem ZN(f:Q2->Q2->Rat):∀(a:Q2)(l m:List Q2),chn f a (l++m)=chn f a l+chn f (j6 a l) m
 |a,[],m=>by simp[chn,j6,Rat.zero_add]
 |a,c::l,m=>by
  rw[ze8,chn,chn,ZN f c l m,j6,Rat.add_assoc]
theorem ed(a:Q2):∀(l:List Q2),l≠[]->j6 a l=Iz l
 |[],h=>absurd rfl h
 |[c],_=>rfl
 |c::d::l,_=>by
  rw[j6,ed c (d::l) (by simp)];unfold Iz;rw[List.getLast?_cons_cons]
theorem sO{l:List Q2}(h:l≠[]):Iz l∈l:=by
 unfold Iz;cases hl:l.getLast? with
 |none=>exact absurd (List.getLast?_eq_none_iff.1 hl) h
 |some x=>exact List.mem_of_getLast? hl
theorem uQ(f:Q2->Q2->Rat)(a:Q2)(l:List Q2)(c:Q2):chn f a (l++[c])=chn f a l+f (j6 a l) c:=by
 rw[ZN];simp only[chn];grind
abbrev SF:=Bool×(List Int×Bool×List Int×Bool×List Int×Bool×List Int)
abbrev RQ:=(Bool×List Int)×(Bool×List Int)
abbrev RPt:=RQ×RQ
def fl(x:RPt):SF:=(x.1.1.1,x.1.1.2,x.1.2.1,x.1.2.2,x.2.1.1,x.2.1.2,x.2.2)
def un(s:SF):RPt:=(((s.1,s.2.1),s.2.2.1,s.2.2.2.1),(s.2.2.2.2.1,s.2.2.2.2.2.1),s.2.2.2.2.2.2)
def fx(x:RPt):RF:=(x.1.1.1,x.1.1.2,x.1.2)
def fy(x:RPt):RF:=(x.2.1.1,x.2.1.2,x.2.2)
theorem sg(x:RPt):(x.1.1.1,x.1.1.2,x.1.2.1,x.1.2.2,x.2.1.1,x.2.1.2,x.2.2)=fl x:=(rfl)
theorem oW(s:SF):(((s.1,s.2.1),s.2.2.1,s.2.2.2.1),(s.2.2.2.2.1,s.2.2.2.2.2.1),s.2.2.2.2.2.2)=un s:=(rfl)
theorem yK(x:RPt):(x.1.1.1,x.1.1.2,x.1.2)=fx x:=(rfl)
theorem yL(x:RPt):(x.2.1.1,x.2.1.2,x.2.2)=fy x:=(rfl)
theorem bL(x:RPt):un (fl x)=x:=(rfl)
theorem Sc(x:RPt):((fl x).1,(fl x).2.1,(fl x).2.2.1,(fl x).2.2.2.1)=fx x:=(rfl)
theorem Sd(x:RPt):(fl x).2.2.2.2=fy x:=(rfl)
def rp(p:Q2):RPt:=(rq p.1,rq p.2)
theorem Kd(p:Q2):fx (rp p)=rqF p.1:=(rfl)
theorem Ke(p:Q2):fy (rp p)=rqF p.2:=(rfl)
def shQ(n:Nat)(a:RF):Bool:=decide (a.2.1.length<=n)&&decide (a.2.2.2.length<=n)
def Hl(x:RPt):Bool:=(CE x.1&&CE x.2)&&(shQ 8 (fx x)&&shQ 8 (fy x))
def BrP(x:RPt):Prop:=BrF (fx x)/\BrF (fy x)
def SzP(k:Nat)(p:Q2):Prop:=Sz k p.1/\Sz k p.2
theorem SzP.mono{k m:Nat}{p:Q2}(h:SzP k p)(hkm:k<=m):SzP m p:=⟨h.1.mono hkm,h.2.mono hkm⟩
theorem X3{q:Rat}{n:Nat}(hn:n<=100:=by omega):shQ n (rqF q)=decide (Sz n q):=by
 unfold shQ;rw[<-Bool.decide_and];refine decide_eq_decide.2 ?_;unfold Sz;have h1:= @Ao q.num.natAbs n;have h2:= @Ao q.den n;have e2:(rqF q).2.2.2=lim q.den:=by show(big (q.den:Int)).2=_;rw[Ip]
 rw[e2,<-h2,<-h1];rfl
theorem oS(x:RPt):toQ (fx x)=x.1:=(rfl)
theorem oT(x:RPt):toQ (fy x)=x.2:=(rfl)
theorem Si{x:RPt}:Hl x=true↔∃p,SzP 8 p/\x=rp p:=by
 constructor
 ·intro h;unfold Hl at h;simp only[za2]at h;obtain⟨⟨h1,h2⟩,h3,h4⟩:=h;obtain⟨a,ha,e1⟩:=Nm.1 h1;obtain⟨c,hc,e2⟩:=Nm.1 h2;have exy:x=(rq a,rq c):=by rw[<-e1,<-e2]
  have ex:fx x=rqF a:=by rw[exy];rfl
  have ey:fy x=rqF c:=by rw[exy];rfl
  rw[ex,X3]at h3;rw[ey,X3]at h4;exact⟨(a,c),⟨of_decide_eq_true h3,of_decide_eq_true h4⟩,by unfold rp;rw[<-e1,<-e2]⟩
 ·rintro⟨p,hp,rfl⟩;unfold Hl;rw[Kd,Ke,X3,X3,zp hp.1,zp hp.2,Bool.and_true,Bool.and_true,za2];exact⟨Uk (hp.1.mono (by omega)),Uk (hp.2.mono (by omega))⟩
def IL(l:List RPt):Bool:=decide (l.length<=40)&&l.all Hl
def SzR(ps:List Q2):Prop:=ps.length<=40/\∀p∈ps,SzP 8 p
theorem sn{l:List RPt}:IL l=true↔∃ps:List Q2,SzR ps/\l=ps.map rp:=by
 unfold IL;rw[za2,decide_eq_true_eq];constructor
 ·rintro⟨h1,h2⟩;have key:∀l:List RPt,l.all Hl=true->∃ps:List Q2,(∀p∈ps,SzP 8 p)/\l=ps.map rp:=by
   intro l
   induction l with
   |nil=>intro _;exact⟨[],by simp,rfl⟩
   |cons x l ih=>
    intro h;rw[zd1,za2]at h;obtain⟨p,hp,e⟩:=Si.1 h.1;obtain⟨ps,hps,e2⟩:=ih h.2;refine⟨p::ps,?_,by rw[zb9,<-e,<-e2]⟩;intro q hq;rcases zc1.1 hq with rfl|hq
    ·exact hp
    ·exact hps q hq
  obtain⟨ps,hps,e⟩:=key l h2;exact⟨ps,⟨by rw[e,zc5]at h1;exact h1,hps⟩,e⟩
 ·rintro⟨ps,⟨h1,h2⟩,rfl⟩;refine⟨by rw[zc5];exact h1,?_⟩;rw[za5];intro x hx;obtain⟨p,hp,rfl⟩:=zd3.1 hx;exact Si.2 ⟨p,h2 p hp,rfl⟩
theorem N8(a:RF)(n:Nat):Cw a (n:Int)=some (shQ n a):=by
 unfold Cw shQ;by_cases h:a.2.1.length<=n
 ·rw[zp (show((a.2.1.length:Nat):Int)<=(n:Int) by omega),cT,zp h,ze2]
  congr 1
  exact decide_eq_decide.2 (by omega)
 ·rw[zq (show ¬((a.2.1.length:Nat):Int)<=(n:Int) by omega),cF,zq h,zf8]
theorem pI{x:RPt}(h:BrP x):Hx (fl x) 8=some (Hl x):=by
 have hl:Hw [x.1,x.2]=some (CE x.1&&CE x.2):=by
  rw[eF (by simp) (by
   intro a ha;simp at ha;rcases ha with rfl|rfl
   ·exact h.1
   ·exact h.2)]
  simp
 have e:((((fl x).1,(fl x).2.1),(fl x).2.2.1,(fl x).2.2.2.1):RQ)=x.1:=rfl;have e':((((fl x).2.2.2.2.1,(fl x).2.2.2.2.2.1),(fl x).2.2.2.2.2.2):RQ)=x.2:=rfl;unfold Hx Hl;simp only[AR];rw[e,e',hl,obs];have s1:=N8 (fx x) 8;have s2:=N8 (fy x) 8;rw[show((8:Nat):Int)=8 from rfl]at s1 s2;cases hg:CE x.1&&CE x.2 with
 |false=>rfl
 |true=>
  rw[cT]
  try simp only[Sc,Sd]
  rw[s1,obs,ze2];cases shQ 8 (fx x)with
  |false=>rfl
  |true=>rw[cT,s2,obs,ze2]
theorem DE{l:List RPt}(hl:l.length<=100000)(hb:∀x∈l,BrP x:=by omega):EU l=some (IL l):=by
 have hc:Bg l=some (!(l.all Hl)):=by
  unfold Bg CB;have key:=Fc (body:=fun(s:List RPt×Int×Int)=>Ay s.1 s.2.1 s.2.2) (l:=l) (st:=fun k=>(l,(l.length:Int),(k:Int))) (p:=Hl) (fin:=.inl ()) (bad:=fun k=>.inr (k:Int))
   (fun k a hk hp=>by
    have:=Dd hk;show Ay l (l.length:Int) (k:Int)=_;unfold Ay HP;simp only[Jr hk,cT,Af,hk,obs,AR];rw[sg,pI (hb a (za3 hk)),obs,hp,obs,nT,cF,Aw])
   (fun k a hk hp=>by
    show Ay l (l.length:Int) (k:Int)=_;unfold Ay HP;simp only[Jr hk,cT,Af,hk,obs,AR];rw[sg,pI (hb a (za3 hk)),obs,hp,obs,nF,cT])
   (by
    show Ay l (l.length:Int) (l.length:Int)=_;unfold Ay;simp only[Ui,cF])
  rw[show((0:Nat):Int)=0 from rfl]at key;cases hall:l.all Hl with
  |true=>rw[key.1 hall];rfl
  |false=>
   obtain⟨k,_,h⟩:=key.2 hall;rw[h];simp only[za0,za6];have:decide ((k:Int)>=0)=true:=by simp
   rw[this];rfl
 unfold EU IL;by_cases h:l.length<=40
 ·rw[zp,cT,hc,obs,zp h,Bool.not_not,ze2]
 ·rw[zq,cF,zq h,zf8]
theorem Rg{a:RF}(h:BrF a):JE a=some (CE (toQ a)&&shQ 8 a):=by
 unfold JE shQ;simp only[A2,AR];by_cases h1:a.2.1.length<=8
 ·rw[zp,cT,zp h1,ze2];by_cases h2:a.2.2.2.length<=8
  ·rw[zp,cT,zp h2,Bool.and_true,fA h,obs]
  ·rw[zq,cF,zq h2,Bool.and_false]
 ·rw[zq,cF,zq h1,zf8,Bool.and_false]
theorem bo{a:RF}(h:BrF a):H7 a=some (CE (toQ a)&&shQ 2 a):=by
 unfold H7 shQ;simp only[A2,AR];by_cases h1:a.2.1.length<=2
 ·rw[zp,cT,zp h1,ze2];by_cases h2:a.2.2.2.length<=2
  ·rw[zp,cT,zp h2,Bool.and_true,fA h,obs]
  ·rw[zq,cF,zq h2,Bool.and_false]
 ·rw[zq,cF,zq h1,zf8,Bool.and_false]
theorem Hn{l:List RPt}(hl:l.length<=100000)(hb:∀x∈l,BrP x:=by omega):H5 l=some (IL l):=by
 have key:=Fc (body:=fun(s:List RPt×List RPt×Int×Int)=>CX s.1 s.2.1 s.2.2.1 s.2.2.2) (l:=l) (st:=fun k=>(l,l,(l.length:Int),(k:Int))) (p:=Hl) (fin:=.inl l) (bad:=fun k=>.inr false)
  (fun k a hk hp=>by
   have:=Dd hk;have hba:=hb a (za3 hk);unfold Hl at hp;simp only[za2]at hp;show CX l l (l.length:Int) (k:Int)=_;unfold CX;simp only[Jr hk,cT,Af,hk,obs,AR];rw[yK,yL,Rg hba.1,obs,oS,hp.1.1,hp.2.1,Bool.and_self,nT,cF,Rg hba.2,obs,oT,hp.1.2,hp.2.2,Bool.and_self,nT,cF,Aw])
  (fun k a hk hp=>by
   have hba:=hb a (za3 hk);show CX l l (l.length:Int) (k:Int)=_;unfold CX;simp only[Jr hk,cT,Af,hk,obs,AR];rw[yK,yL,Rg hba.1,obs,oS];cases h1:CE a.1&&shQ 8 (fx a)with
   |false=>rw[nF,cT]
   |true=>
    have h2:(CE a.2&&shQ 8 (fy a))=false:=by
     unfold Hl at hp;rw[za2]at h1;rw[h1.1,h1.2,ze2,ze2]at hp;exact hp
    rw[nT,cF,Rg hba.2,obs,oT,h2,nF,cT])
  (by
   show CX l l (l.length:Int) (l.length:Int)=_;unfold CX;simp only[Ui,cF])
 rw[show((0:Nat):Int)=0 from rfl]at key;unfold H5 IL;cases hall:l.all Hl with
 |true=>
  rw[key.1 hall,obs,sEl,Bool.and_true]
  congr 1
  exact decide_eq_decide.2 (by omega)
 |false=>
  obtain⟨k,_,h⟩:=key.2 hall;rw[h,obs,sEr,Bool.and_false]
theorem ci{l:List RPt}{x:RPt}(h:l.length<=100000):BV 128 8 l [x]=some (l++[x]):=Bu (by simp[Aa];omega) (by simp[Aa];omega)
theorem Yx(p:Q2)(b:Bool):B0 (fl (rp p)) b=some (rqF (crd b p)):=by cases b<;>rfl
theorem iz(p:Q2)(b:Bool):H8 (fl (rp p)) b=some (rqF (crd b p)):=by cases b<;>rfl
theorem F9{k:Nat}{p:Q2}(h:SzP k p)(b:Bool):Sz k (crd b p):=by cases b;exact h.1;exact h.2
theorem eJ:Be (1:Int)=some (rqF 1):=by rw[Jp];rfl
section
variable {a c:Q2} {t:Rat} (ha:SzP 8 a) (hc:SzP 8 c) (ht:Sz 34 t)
include ha hc ht
end
section
variable {a c:Q2} {s:Rat} {b:Bool} (ha:SzP 8 a) (hc:SzP 8 c) (hs:Sz 8 s) (hne:crd b c≠crd b a)
include ha hc hs hne
end
theorem qD{k n:Nat}(hk:k<n)(hn:n<=100000):Int.tmod (zi zj (zi zj ((k:Int)+(n:Int))-1)) (n:Int)=(((k+n-1)%n:Nat):Int):=by
 rw[Ae (n:=(k:Int)+(n:Int)),Ae,zc6 (by omega)];rw[show(k:Int)+(n:Int)-1=((k+n-1:Nat):Int) by omega];rfl
theorem eW{k n:Nat}(hk:k<n):(k+1+n-1)%n=k:=by
 rw[show k+1+n-1=k+n by omega,Nat.add_mod_right,Nat.mod_eq_of_lt hk]
theorem Js{ps:List Q2}{k:Nat}{p:Q2}(h:ps[k]? =some p):AA (ps.map rp) (k:Int)=some (rp p):=by
 rw[Af,zd4,h];rfl
theorem bA(b high:Bool)(s:Rat)(a c:Q2):(LV b high s a c).length<=2:=by
 unfold LV;rw[zb5];split<;>split<;>simp
section
variable {ps:List Q2} {s:Rat} (hps:SzR ps) (hs:Sz 8 s) (b high:Bool)
include hps hs
end
theorem ik{p q:Q2}(h:rp p=rp q):p=q:=by
 unfold rp at h;have h1:=xk (congrArg Prod.fst h);have h2:=xk (congrArg Prod.snd h);exact Prod.ext h1 h2
theorem ez(p:Q2):Hl (rp p)=true↔SzP 8 p:=by
 rw[Si];constructor
 ·rintro⟨q,hq,e⟩;rw[ik e];exact hq
 ·intro h;exact⟨p,h,rfl⟩
theorem I9{m:List Q2}:IL (m.map rp)=true↔SzR m:=by
 unfold IL SzR;rw[za2,decide_eq_true_eq,zc5,za5];constructor
 ·rintro⟨h1,h2⟩;exact⟨h1,fun p hp=>(ez p).1 (h2 _ (List.mem_map_of_mem hp))⟩
 ·rintro⟨h1,h2⟩;refine⟨h1,fun x hx=> ?_⟩;obtain⟨p,hp,rfl⟩:=zd3.1 hx;exact(ez p).2 (h2 p hp)
theorem ZI{p:Q2}{k:Nat}(hk:k<=1000000)(h:SzP k p:=by omega):BrP (rp p):=⟨lX hk h.1,lX hk h.2⟩
theorem R4{m:List Q2}{k:Nat}(hk:k<=1000000)(h:∀p∈m,SzP k p:=by omega):∀x∈m.map rp,BrP x:=by
 intro x hx;obtain⟨p,hp,rfl⟩:=zd3.1 hx;exact ZI hk (h p hp)
theorem eH{q:Rat}{k:Nat}(hk:k<=1000000)(h:Sz k q):K9 (rqF q)=some (rqF q):=by
 unfold K9;rw[show(rqF q).1=(big q.num).1 from rfl,show(rqF q).2.1=(big q.num).2 from rfl,show(rqF q).2.2.2=(big (q.den:Int)).2 from rfl,pZ hk h.1,YC hk h.2];rfl
theorem vL{p:Q2}(h:SzP 8 p):NG (fl (rp p))=some (fl (rp p)):=by
 unfold NG;simp only[A2,AR,Sc,Sd,Kd,Ke];rw[eH (by omega) h.1,obs,eH (by omega) h.2,obs];rfl
theorem sJ{m:List Q2}(h:SzR m):Mk (m.map rp)=some (m.map rp):=by
 have h40:=h.1;obtain⟨h1,h2⟩:=KR (l:=m) (body:=fun(s:List RPt×List RPt×Int×Int)=>Eb s.1 s.2.1 s.2.2.1 s.2.2.2)
  (st:=fun k (b:List Q2)=>(b.map rp,m.map rp,(m.length:Int),(k:Int))) (step:=fun b p=>b++[p]) (fin:=fun b=>b.map rp) (I:=fun k b=>b.length=k)
  (by
   rintro k b p hk hI;have hkl:=Dd hk;have hp:=h.2 p (za3 hk);refine⟨?_,by simp[hI]⟩;show Eb (b.map rp) (m.map rp) (m.length:Int) (k:Int)=_;unfold Eb;rw[zp,cT,Js hk,obs];simp only[AR,sg];rw[vL hp,obs,oW,bL,ci (by simp;omega),obs,Aw];simp)
  (by
   rintro b _;show Eb (b.map rp) (m.map rp) (m.length:Int) (m.length:Int)=_;unfold Eb;rw[zq];rfl) [] rfl
 have e:m.foldl (fun b p=>b++[p]) []=m:=by
  have:∀(l acc:List Q2),l.foldl (fun b p=>b++[p]) acc=acc++l:=by
   intro l
   induction l with
   |nil=>intro acc;simp
   |cons x l ih=>intro acc;rw[List.foldl_cons,ih];simp
  rw[this];rfl
 rw[e]at h1;have h1':Ad (fun(s:List RPt×List RPt×Int×Int)=>Eb s.1 s.2.1 s.2.2.1 s.2.2.2) ((List.nil:List RPt),m.map rp,(m.length:Int),(0:Int))=some (m.map rp):=h1;unfold Mk;rw[zc5,h1',obs]
theorem tI{p:Q2}(h:SzP 8 p):Mn (fl (rp p))=some (fl (rp p),true):=by
 unfold Mn;simp only[A2,AR,Sc,Sd,Kd,Ke];rw[UL (k:=8) (by omega) h.1,obs,UL (k:=8) (by omega) h.2,obs,KQ (h.1.mono (by omega)),KQ (h.2.mono (by omega))];rfl
theorem xx{m:List Q2}(h:SzR m):NJ (m.map rp)=some (m.map rp,true):=by
 have h40:=h.1;obtain⟨h1,h2⟩:=KR (l:=m) (body:=fun(s:List RPt×List RPt×Int×Int)=>ES s.1 s.2.1 s.2.2.1 s.2.2.2)
  (st:=fun k (b:List Q2)=>(b.map rp,m.map rp,(m.length:Int),(k:Int))) (step:=fun b p=>b++[p]) (fin:=fun b=>.inl (b.map rp)) (I:=fun k b=>b.length=k)
  (by
   rintro k b p hk hI;have hkl:=Dd hk;have hp:=h.2 p (za3 hk);refine⟨?_,by simp[hI]⟩;show ES (b.map rp) (m.map rp) (m.length:Int) (k:Int)=_;unfold ES;rw[zp,cT,Js hk,obs];simp only[AR,sg];rw[tI hp,obs];simp only;rw[nT,cF,oW,bL,ci (by simp;omega),obs,Aw];simp)
  (by
   rintro b _;show ES (b.map rp) (m.map rp) (m.length:Int) (m.length:Int)=_;unfold ES;rw[zq];rfl) [] rfl
 have e:m.foldl (fun b p=>b++[p]) []=m:=by
  have:∀(l acc:List Q2),l.foldl (fun b p=>b++[p]) acc=acc++l:=by
   intro l
   induction l with
   |nil=>intro acc;simp
   |cons x l ih=>intro acc;rw[List.foldl_cons,ih];simp
  rw[this];rfl
 rw[e]at h1;have h1':Ad (fun(s:List RPt×List RPt×Int×Int)=>ES s.1 s.2.1 s.2.2.1 s.2.2.2) ((List.nil:List RPt),m.map rp,(m.length:Int),(0:Int))=some (.inl (m.map rp)):=h1;unfold NJ;rw[zc5,h1',obs,sEl]
def Yi(m:List Q2):List RPt×Bool:=if IL (m.map rp)=true then(m.map rp,true)else([],false)
theorem cr{m:List Q2}{k:Nat}(hk:k<=1000000)(hl:m.length<=100000)(h:∀p∈m,SzP k p):G9 (m.map rp)=some (Yi m):=by
 unfold G9 Yi;rw[DE (by simp;omega) (R4 hk h),obs];by_cases hg:IL (m.map rp)=true
 ·rw[zr hg,hg,nT,cF,sJ (I9.1 hg),obs]
 ·rw[zw hg,Bool.eq_false_iff.2 hg,nF,cT]
theorem tK{m:List Q2}{k:Nat}(hk:k<=1000000)(hl:m.length<=100000)(h:∀p∈m,SzP k p):Mo (m.map rp)=some (Yi m):=by
 unfold Mo Yi;rw[Hn (by simp;omega) (R4 hk h),obs];by_cases hg:IL (m.map rp)=true
 ·rw[zr hg,hg,nT,cF,xx (I9.1 hg)];rfl
 ·rw[zw hg,Bool.eq_false_iff.2 hg,nF,cT]
section
variable {ps:List Q2} {s:Rat} (hps:SzR ps) (hs:Sz 2 s) (b:Bool)
include hps hs
end
section
variable {l:List RPt} {a:RF} (hl:l.length<=1000) (hb:∀x∈l,BrP x) (ha:BrF a) (h:(IL l&&(CE (toQ a)&&shQ 2 a))=false) (b:Bool)
include hl hb ha h
end
def Ao4(ps:List Q2):Rat:=match ps with|[]=>0|a::m=>chn crs a (m++[a])
theorem a7(ps:List Q2):Ao4 ps=J8 ps:=by
 cases ps with
 |nil=>rfl
 |cons a m=>
  have hl2:Iz (a::m)=j6 a m:=by rw[<-ed a (a::m) (by simp)];rfl
  show chn crs a (m++[a])=chn crs (Iz (a::m)) (a::m);rw[uQ,hl2,chn];grind
theorem uX{p q:Q2}(hp:SzP 8 p)(hq:SzP 8 q):Sz 33 (crs p q):=(LY (LX hp.1 hq.2) (LX hq.1 hp.2)).mono (by omega)
section
variable {ps:List Q2} {f:Q2} (hps:SzR ps) (hf:ps[0]? =some f)
include hps hf
theorem mz{k:Nat}(hk:k<ps.length):∃d,AA (ps.map rp) (Int.tmod (zi zj ((k:Int)+1)) (ps.length:Int))=some (rp d)/\SzP 8 d/\∃r,ps.drop (k+1)++[f]=d::r/\(k+1<ps.length->r=ps.drop (k+2)++[f])/\(k+1=ps.length->r=[]):=by
 have h40:=hps.1;rw[Aw,zc6 (by omega)];by_cases h:k+1<ps.length
 ·have e:((k+1:Nat):Int)%(ps.length:Int)=((k+1:Nat):Int):=Int.emod_eq_of_lt (by omega) (by omega);rw[e];have hg:ps[k+1]? =some ps[k+1]:=za1 h;exact⟨ps[k+1],Js hg,hps.2 _ (za3 hg),ps.drop (k+2)++[f],by rw[za9 h,ze8],fun _=>rfl,fun h'=>by omega⟩
 ·have e:((k+1:Nat):Int)%(ps.length:Int)=((0:Nat):Int):=by rw[show k+1=ps.length by omega];exact Int.emod_self
  rw[e];refine⟨f,Js hf,hps.2 _ (za3 hf),[],?_,fun h'=>absurd h' h,fun _=>rfl⟩;rw[zd2 (by omega)];rfl
theorem kx:∀(m k:Nat)(acc:Rat),k+m=ps.length->Sz (34*k+1) acc->
  ∃r,Ad (fun(s:RF×RF×List RPt×List RPt×Int×Int)=>BA s.1 s.2.1 s.2.2.1 s.2.2.2.1 s.2.2.2.2.1 s.2.2.2.2.2) (zF,rqF acc,ps.map rp,ps.map rp,(ps.length:Int),(k:Int))=some (zF,rqF r)/\Sz 1361 r/\
   r=acc+(match ps.drop k with|[]=>0|c::_=>chn crs c (ps.drop (k+1)++[f])):=by
 have h40:=hps.1;intro m
 induction m with
 |zero=>
  intro k acc hk hacc;refine⟨acc,Ak ?_,hacc.mono (by omega),?_⟩
  ·show BA zF (rqF acc) (ps.map rp) (ps.map rp) (ps.length:Int) (k:Int)=_;unfold BA;rw[zq];rfl
  ·rw[zd2 (show ps.length<=k by omega)];simp only;grind
 |succ m ih=>
  intro k acc hk hacc;have hlt:k<ps.length:=by omega
  have hd:ps.drop k=ps[k]::ps.drop (k+1):=za9 hlt;have hg:ps[k]? =some ps[k]:=za1 hlt;generalize ps[k]=c at hd hg;have sc:=hps.2 c (za3 hg);obtain⟨d,hdg,sd,r,hr,hr1,hr2⟩:=mz hps hf hlt;have hx:=uX sc sd;have hsum:Sz (34*(k+1)+1) (acc+crs c d):=(S3 hacc hx).mono (by omega);have hgo:BA zF (rqF acc) (ps.map rp) (ps.map rp) (ps.length:Int) (k:Int)=some (.inl (zF,rqF (acc+crs c d),ps.map rp,ps.map rp,(ps.length:Int),((k+1:Nat):Int))):=by
   unfold BA;have hz:(((ps.length:Nat):Int)==0)=false:=beq_eq_false_iff_ne.2 (by omega);rw[zp,cT,Js hg,obs,zc5,hz,cF,hdg,obs];simp only[A2,AR,yK,yL,Kd,Ke];rw[Ja (k:=8) (by omega) sc.1 sd.2,obs,Ja (k:=8) (by omega) sd.1 sc.2,obs]
   try simp only[A2]
   rw[Q4 (k:=16) (by omega) ((LX sc.1 sd.2).mono (by omega)) ((LX sd.1 sc.2).mono (by omega)),obs]
   try simp only[A2]
   rw[show c.1*d.2-d.1*c.2=crs c d from rfl,KX (k:=1400) (by omega) (hacc.mono (by omega)) (hx.mono (by omega)),obs,Aw]
  obtain⟨q,g1,g2,g3⟩:=ih (k+1) (acc+crs c d) (by omega) hsum;refine⟨q,(AP (f:=fun(s:RF×RF×List RPt×List RPt×Int×Int)=>BA s.1 s.2.1 s.2.2.1 s.2.2.2.1 s.2.2.2.2.1 s.2.2.2.2.2) (s:=(zF,rqF acc,ps.map rp,ps.map rp,(ps.length:Int),(k:Int))) hgo).trans g1,g2,?_⟩;rw[g3,hd];simp only;rw[hr,chn];by_cases h:k+1<ps.length
  ·rw[hr1 h];have hd2:ps.drop (k+1)=ps[k+1]::ps.drop (k+2):=za9 h;rw[hd2]at hr⊢
   have:d=ps[k+1]:=by rw[ze8]at hr;exact(List.cons.inj hr).1.symm
   rw[this];simp only;grind
  ·rw[hr2 (by omega),zd2 (show ps.length<=k+1 by omega)];simp only[chn];grind
theorem lF:∀(m k:Nat)(acc:Rat),k+m=ps.length->Sz (34*k+1) acc->
  ∃r,Ad (fun(s:RF×RF×List RPt×List RPt×Int×Int)=>BR s.1 s.2.1 s.2.2.1 s.2.2.2.1 s.2.2.2.2.1 s.2.2.2.2.2) (zF,rqF acc,ps.map rp,ps.map rp,(ps.length:Int),(k:Int))=some (zF,rqF r)/\Sz 1361 r/\
   r=acc+(match ps.drop k with|[]=>0|c::_=>chn crs c (ps.drop (k+1)++[f])):=by
 have h40:=hps.1;intro m
 induction m with
 |zero=>
  intro k acc hk hacc;refine⟨acc,Ak ?_,hacc.mono (by omega),?_⟩
  ·show BR zF (rqF acc) (ps.map rp) (ps.map rp) (ps.length:Int) (k:Int)=_;unfold BR;rw[zq];rfl
  ·rw[zd2 (show ps.length<=k by omega)];simp only;grind
 |succ m ih=>
  intro k acc hk hacc;have hlt:k<ps.length:=by omega
  have hd:ps.drop k=ps[k]::ps.drop (k+1):=za9 hlt;have hg:ps[k]? =some ps[k]:=za1 hlt;generalize ps[k]=c at hd hg;have sc:=hps.2 c (za3 hg);obtain⟨d,hdg,sd,r,hr,hr1,hr2⟩:=mz hps hf hlt;have hx:=uX sc sd;have hsum:Sz (34*(k+1)+1) (acc+crs c d):=(S3 hacc hx).mono (by omega);have hgo:BR zF (rqF acc) (ps.map rp) (ps.map rp) (ps.length:Int) (k:Int)=some (.inl (zF,rqF (acc+crs c d),ps.map rp,ps.map rp,(ps.length:Int),((k+1:Nat):Int))):=by
   unfold BR;have hz:(((ps.length:Nat):Int)==0)=false:=beq_eq_false_iff_ne.2 (by omega);rw[zp,cT,Js hg,obs,zc5,hz,cF,hdg,obs];simp only[A2,AR,yK,yL,Kd,Ke];rw[YH (k:=8) (by omega) sc.1 sd.2,obs,YH (k:=8) (by omega) sd.1 sc.2,obs]
   try simp only[A2]
   rw[YI (k:=16) (by omega) ((LX sc.1 sd.2).mono (by omega)) ((LX sd.1 sc.2).mono (by omega)),obs]
   try simp only[A2]
   rw[show c.1*d.2-d.1*c.2=crs c d from rfl,UK (k:=1400) (by omega) (hacc.mono (by omega)) (hx.mono (by omega)),obs,Aw]
  obtain⟨q,g1,g2,g3⟩:=ih (k+1) (acc+crs c d) (by omega) hsum;refine⟨q,(AP (f:=fun(s:RF×RF×List RPt×List RPt×Int×Int)=>BR s.1 s.2.1 s.2.2.1 s.2.2.2.1 s.2.2.2.2.1 s.2.2.2.2.2) (s:=(zF,rqF acc,ps.map rp,ps.map rp,(ps.length:Int),(k:Int))) hgo).trans g1,g2,?_⟩;rw[g3,hd];simp only;rw[hr,chn];by_cases h:k+1<ps.length
  ·rw[hr1 h];have hd2:ps.drop (k+1)=ps[k+1]::ps.drop (k+2):=za9 h;rw[hd2]at hr⊢
   have:d=ps[k+1]:=by rw[ze8]at hr;exact(List.cons.inj hr).1.symm
   rw[this];simp only;grind
  ·rw[hr2 (by omega),zd2 (show ps.length<=k+1 by omega)];simp only[chn];grind
end
theorem eI:Be (0:Int)=some (rqF 0):=by rw[Jp];rfl
theorem eK:Be (2:Int)=some (rqF 2):=by rw[Jp];rfl
theorem fB:C4 (0:Int)=some (rqF 0):=by rw[Ri];rfl
theorem tR:C4 (2:Int)=some (rqF 2):=by rw[Ri];rfl
theorem S2:Sz 1361 (2:Rat):=by
 have h:(((2:Int)).natAbs:Int)<B 1361:=Int.lt_of_lt_of_le (by rw[B1];decide:(((2:Int)).natAbs:Int)<B 1) (K2 (by omega));have:=iJ (z:=2) h (by omega);exact this
theorem S0r:Sz 1 (0:Rat):=by
 have h:(((0:Int)).natAbs:Int)<B 1:=by rw[B1];decide
 have:=iJ (z:=0) h (by omega);exact this
theorem Wj:(2:Rat)≠0:=by decide
theorem kA{ps:List Q2}(hps:SzR ps):Kq (ps.map rp)=some (rqF (J8 ps/2))/\Sz 2722 (J8 ps/2):=by
 have h40:=hps.1;have key:∃r,Ad (fun(s:RF×RF×List RPt×List RPt×Int×Int)=>BA s.1 s.2.1 s.2.2.1 s.2.2.2.1 s.2.2.2.2.1 s.2.2.2.2.2) (zF,rqF 0,ps.map rp,ps.map rp,(ps.length:Int),(0:Int))=some (zF,rqF r)/\Sz 1361 r/\r=J8 ps:=by
  cases ps with
  |nil=>
   refine⟨0,Ak ?_,S0r.mono (by omega),rfl⟩;show BA zF (rqF 0) [] [] 0 0=_;unfold BA;rfl
  |cons f m=>
   obtain⟨r,h1,h2,h3⟩:=kx hps (f:=f) rfl (f::m).length 0 0 (by omega) S0r;refine⟨r,h1,h2,?_⟩;rw[h3,<-a7];show(0:Rat)+chn crs f (m++[f])=chn crs f (m++[f]);grind
 obtain⟨r,h1,h2,h3⟩:=key;rw[h3]at h1 h2;refine⟨?_,(iI h2 S2 Wj).mono (by omega)⟩;have g1:Ad (fun(s:RF×RF×List RPt×List RPt×Int×Int)=>BA s.1 s.2.1 s.2.2.1 s.2.2.2.1 s.2.2.2.2.1 s.2.2.2.2.2) ((false,[],false,[]),rqF 0,ps.map rp,ps.map rp,(ps.length:Int),(0:Int))=some (zF,rqF (J8 ps)):=h1;have hh:DX (rqF (J8 ps))=some (rqF (J8 ps/2)):=by
  unfold DX;simp only[A2];rw[eK,obs]
  try simp only[A2]
  rw[VJ (k:=1361) (by omega) h2 S2 Wj,obs]
 unfold Kq;rw[eI,obs]
 try simp only[A2]
 rw[zc5,g1,obs]
 try simp only[A2]
 rw[hh,obs]
theorem X2{ps:List Q2}(hps:SzR ps):JD (ps.map rp)=some (rqF (J8 ps/2))/\Sz 2722 (J8 ps/2):=by
 have h40:=hps.1;have key2:∃r,Ad (fun(s:RF×RF×List RPt×List RPt×Int×Int)=>BR s.1 s.2.1 s.2.2.1 s.2.2.2.1 s.2.2.2.2.1 s.2.2.2.2.2) (zF,rqF 0,ps.map rp,ps.map rp,(ps.length:Int),(0:Int))=some (zF,rqF r)/\Sz 1361 r/\r=J8 ps:=by
  cases ps with
  |nil=>
   refine⟨0,Ak ?_,S0r.mono (by omega),rfl⟩;show BR zF (rqF 0) [] [] 0 0=_;unfold BR;rfl
  |cons f m=>
   obtain⟨r,h1,h2,h3⟩:=lF hps (f:=f) rfl (f::m).length 0 0 (by omega) S0r;refine⟨r,h1,h2,?_⟩;rw[h3,<-a7];show(0:Rat)+chn crs f (m++[f])=chn crs f (m++[f]);grind
 obtain⟨r,h1,h2,h3⟩:=key2;rw[h3]at h1 h2;refine⟨?_,(iI h2 S2 Wj).mono (by omega)⟩;have g1:Ad (fun(s:RF×RF×List RPt×List RPt×Int×Int)=>BR s.1 s.2.1 s.2.2.1 s.2.2.2.1 s.2.2.2.2.1 s.2.2.2.2.2) ((false,[],false,[]),rqF 0,ps.map rp,ps.map rp,(ps.length:Int),(0:Int))=some (zF,rqF (J8 ps)):=h1;unfold JD;rw[fB,obs]
 try simp only[A2]
 rw[zc5,g1,obs]
 try simp only[A2]
 rw[tR,obs]
 try simp only[A2]
 rw[qQ (k:=1361) (by omega) h2 S2 Wj,obs]
theorem nH{ps:List Q2}(hps:SzR ps):HV (ps.map rp)=some (RU (J8 ps/2)):=by
 have hp:=hps.1;unfold HV;rw[DE (by simp;omega) (R4 (k:=8) (by omega) hps.2),obs,I9.2 hps,nT,cF,(kA hps).1,obs];simp only[A2,AR];rw[Uq,obs]
def ShP(x:RPt):Prop:=ShF (fx x)/\ShF (fy x)
theorem ShP.br{x:RPt}(h:ShP x):BrP x:=⟨h.1.br,h.2.br⟩
structure Val (E:Q2->Q2->Rat):Prop where
 anti:∀p q,E p q= -(E q p)
 split:∀p q t,0<=t->t<=1->E p (VX p q t)+E (VX p q t) q=E p q
theorem Val.self{E:Q2->Q2->Rat}(h:Val E)(p:Q2):E p p=0:=by
 have:=h.anti p p;grind
section
variable (E:Q2->Q2->Rat) (b high:Bool) (s:Rat)
end
section
variable {E:Q2->Q2->Rat} (h:Val E) {b high:Bool} {s:Rat}
include h
end
section
variable {E:Q2->Q2->Rat} (h:Val E) {b high:Bool} {s:Rat}
include h
end
def Pe(lo hi:Q2)(l:List Q2):List Q2:=Fy true false hi.2 (Fy true true lo.2 (Fy false false hi.1 (Fy false true lo.1 l)))
theorem S1K:Sz 1 (1:Rat):=by have:=iJ (z:=1) (kY (k:=1) (by omega)) (by omega);exact this
def SzN(K:Nat)(ps:List Q2):Prop:=ps.length<=1000/\∀p∈ps,SzP K p
theorem Q5{K:Nat}(hK:K<=2972){p:Q2}{s:Rat}(hp:SzP K p)(hs:Sz K s)(b high:Bool):IT high b (rqF s) (fl (rp p))=some (high,b,rqF s,ins b high s p):=by
 have hc:=F9 hp b;unfold IT;simp only[A2,AR];cases high with
 |true=>
  simp only[cT];rw[Yx,obs,Gc (k:=K) (by omega) hc hs,obs,vT];have:(!decide (crd b p<s))=decide (s<=crd b p):=by
   rw[Bool.eq_iff_iff];simp[Rat.not_lt]
  rw[this]
 |false=>
  simp only[cF];rw[Yx,obs,Gc (k:=K) (by omega) hs hc,obs,vU];have:(!decide (s<crd b p))=decide (crd b p<=s):=by
   rw[Bool.eq_iff_iff];simp[Rat.not_lt]
  rw[this]
section
variable {K:Nat} (hK:K<=2972) {a c:Q2} {t:Rat} (ha:SzP K a) (hc:SzP K c) (ht:Sz (4*K+2) t)
include hK ha hc ht
theorem Ag7:Yl (fl (rp a)) (fl (rp c)) (rqF t)=some (fl (rp (VX a c t))):=by
 have h1:Sz (4*K+4) (1-t):=(LY S1K ht).mono (by omega);have m1:∀x:Rat,Sz K x->Sz (5*K+4) ((1-t)*x):=fun x hx=>(LX h1 hx).mono (by omega)
 have m2:∀x:Rat,Sz K x->Sz (5*K+4) (t*x):=fun x hx=>(LX ht hx).mono (by omega)
 unfold Yl;simp only[A2,AR,Sc,Sd,Kd,Ke];rw[eJ,obs]
 try simp only[A2]
 rw[Q4 (k:=4*K+2) (by omega) (S1K.mono (by omega)) ht,obs]
 try simp only[A2]
 rw[Ja (k:=4*K+4) (by omega) h1 (ha.1.mono (by omega)),obs,Ja (k:=4*K+4) (by omega) (ht.mono (by omega)) (hc.1.mono (by omega)),obs]
 try simp only[A2]
 rw[KX (k:=5*K+4) (by omega) (m1 _ ha.1) (m2 _ hc.1),obs,Ja (k:=4*K+4) (by omega) h1 (ha.2.mono (by omega)),obs,Ja (k:=4*K+4) (by omega) (ht.mono (by omega)) (hc.2.mono (by omega)),obs]
 try simp only[A2]
 rw[KX (k:=5*K+4) (by omega) (m1 _ ha.2) (m2 _ hc.2),obs];unfold VX;rw[show a.1+t*(c.1-a.1)=(1-t)*a.1+t*c.1 by grind,show a.2+t*(c.2-a.2)=(1-t)*a.2+t*c.2 by grind];rfl
theorem Aj5:NK (fl (rp a)) (fl (rp c)) (rqF t)=some (fl (rp (VX a c t))):=by
 have key:∀x y:Rat,Sz K x->Sz K y->JC (rqF x) (rqF y) (rqF t)=some (rqF (x+t*(y-x))):=by
  intro x y hx hy;unfold JC;simp only[A2];rw[YI (k:=K) (by omega) hy hx,obs]
  try simp only[A2]
  have h1:Sz (4*K+2) (y-x):=(LY hy hx).mono (by omega);rw[YH (k:=4*K+2) (by omega) ht h1,obs]
  try simp only[A2]
  rw[UK (k:=6*K+3) (by omega) (hx.mono (by omega)) ((LX ht (LY hy hx)).mono (by omega)),obs]
 unfold NK;simp only[A2,AR,Sc,Sd,Kd,Ke];rw[key _ _ ha.1 hc.1,obs,key _ _ ha.2 hc.2,obs];rfl
theorem y5:SzP (7*K+4) (VX a c t):=by
 have key:∀x y:Rat,Sz K x->Sz K y->Sz (7*K+4) (x+t*(y-x)):=fun x y hx hy=>(S3 hx (LX ht (LY hy hx))).mono (by omega)
 exact⟨key _ _ ha.1 hc.1,key _ _ ha.2 hc.2⟩
end
section
variable {K:Nat} (hK:K<=2972) {a c:Q2} {s:Rat} {b:Bool} (ha:SzP K a) (hc:SzP K c) (hs:Sz K s) (hne:crd b c≠crd b a)
include hK ha hc hs hne
theorem xL:Sz (4*K+2) ((s-crd b a)/(crd b c-crd b a)):=
 (iI (LY hs (F9 ha b)) (LY (F9 hc b) (F9 ha b)) (fun e=>hne (by grind))).mono (by omega)
theorem yz:SzP (7*K+4) (ZU b s a c):=y5 hK ha hc (xL hK ha hc hs hne)
theorem vJ:Hv (rqF (s-crd b a)) (rqF (crd b c-crd b a))=some (rqF ((s-crd b a)/(crd b c-crd b a))):=
 VJ (k:=2*K+1) (by omega) ((LY hs (F9 ha b)).mono (by omega)) ((LY (F9 hc b) (F9 ha b)).mono (by omega)) (fun e=>hne (by grind))
theorem tJ:NM (fl (rp a)) (fl (rp c)) b (rqF s)=some (fl (rp (ZU b s a c))):=by
 have hon:=Af7 (s:=s) hne;unfold NM;simp only[A2,AR];rw[iz,obs]
 try simp only[A2]
 rw[YI (k:=K) (by omega) hs (F9 ha b),obs,iz,obs]
 try simp only[A2]
 rw[YI (k:=K) (by omega) (F9 hc b) (F9 ha b),obs]
 try simp only[A2]
 rw[qQ (k:=2*K+1) (by omega) ((LY hs (F9 ha b)).mono (by omega)) ((LY (F9 hc b) (F9 ha b)).mono (by omega)) (fun e=>hne (by grind)),obs]
 try simp only[A2]
 rw[Aj5 hK ha hc (xL hK ha hc hs hne),obs,show VX a c ((s-crd b a)/(crd b c-crd b a))=ZU b s a c from rfl];generalize ZU b s a c=m at hon;cases b with
 |true=>
  rw[cT];have:m.2=s:=hon;rw[<-this];rfl
 |false=>
  rw[cF];have:m.1=s:=hon;rw[<-this];rfl
end
theorem qR{K:Nat}(hK:K<=2972){p:Q2}{s:Rat}(hp:SzP K p)(hs:Sz K s)(b high:Bool):∃v,JF (fl (rp p)) b (rqF s) high=some v/\decide (v<=0)=ins b high s p:=by
 have hc:=F9 hp b;unfold JF;simp only[A2,AR];rw[iz,obs]
 try simp only[A2]
 rw[OP (k:=K) (by omega) hc hs,obs];have h1:= @pt (crd b p) s;have h2:= @MA (crd b p) s;have hb: -1<=T9 (crd b p) s/\T9 (crd b p) s<=1:=by unfold T9;split<;>(try split)<;>omega
 cases high with
 |true=>
  refine⟨_,rfl,?_⟩;rw[Ae,vT];refine decide_eq_decide.2 ?_;rw[<-Rat.not_lt,<-h1];omega
 |false=>
  refine⟨_,rfl,?_⟩;rw[vU];refine decide_eq_decide.2 ?_;rw[<-Rat.not_lt,<-h2];omega
section
variable {K:Nat} (hK:K<=2972) {ps:List Q2} {s:Rat} (hps:SzN K ps) (hs:Sz K s) (b high:Bool)
include hK hps hs
theorem gK:∀(m k:Nat)(a:Q2)(out:List Q2),k+m=ps.length->(k<ps.length->ps[(k+ps.length-1)%ps.length]? =some a)->out.length<=2*k->
  Ad (fun(s:Bool×RF×Bool×(List (RQ×RQ))×(List (RQ×RQ))×(List (RQ×RQ))×Int×Int)=>FJ s.1 s.2.1 s.2.2.1 s.2.2.2.1 s.2.2.2.2.1 s.2.2.2.2.2.1 s.2.2.2.2.2.2.1 s.2.2.2.2.2.2.2)
   (b,rqF s,high,out.map rp,ps.map rp,ps.map rp,(ps.length:Int),(k:Int))=some ((out++Cn b high s a (ps.drop k)).map rp):=by
 intro m
 induction m with
 |zero=>
  intro k a out hk _ _;refine Ak ?_;show FJ b (rqF s) high (out.map rp) (ps.map rp) (ps.map rp) (ps.length:Int) (k:Int)=_;unfold FJ;rw[zq,zd2 (by omega),Cn,zf1];rfl
 |succ m ih=>
  intro k a out hk ha hout;have h40:=hps.1;have hlt:k<ps.length:=by omega
  have ha:=ha hlt;have hd:ps.drop k=ps[k]::ps.drop (k+1):=za9 hlt;have hg:ps[k]? =some ps[k]:=za1 hlt;generalize ps[k]=c at hd hg;have sa:=hps.2 a (za3 ha);have sc:=hps.2 c (za3 hg);have hgo:FJ b (rqF s) high (out.map rp) (ps.map rp) (ps.map rp) (ps.length:Int) (k:Int)=some (.inl (b,rqF s,high,(out++LV b high s a c).map rp,ps.map rp,ps.map rp,(ps.length:Int),((k+1:Nat):Int))):=by
   unfold FJ;have hz:(((ps.length:Nat):Int)==0)=false:=beq_eq_false_iff_ne.2 (by omega);rw[zp,cT,Js hg,obs,zc5,hz,cF,qD hlt (by omega),Js ha,obs];simp only[A2,AR,sg];rw[Q5 hK sa hs,obs];simp only;rw[Q5 hK sc hs,obs];simp only;unfold LV;have ol:(out.map rp).length<=100000:=by rw[zc5];omega
   by_cases hne:ins b high s a=ins b high s c
   ·rw[show(ins b high s a==ins b high s c)=true from beq_iff_eq.2 hne,nT,cF,obs,sEr,zr hne];simp only[A2,AR];rw[Q5 hK sc hs,obs];simp only;cases hi:ins b high s c with
    |true=>
     rw[cT,oW,bL,ci ol,obs,Aw];simp
    |false=>
     rw[cF,Aw];simp
   ·have hcut:=nP hne;rw[show(ins b high s a==ins b high s c)=false from beq_eq_false_iff_ne.2 hne,nF,cT,Yx,obs]
    try simp only[A2]
    rw[Q4 (k:=K) (by omega) hs (F9 sa b),obs,Yx,obs,obs]
    try simp only[A2]
    rw[Q4 (k:=K) (by omega) (F9 sc b) (F9 sa b),obs]
    try simp only[A2]
    rw[vJ hK sa sc hs hcut,obs]
    try simp only[A2]
    rw[Ag7 hK sa sc (xL hK sa sc hs hcut),obs,show VX a c ((s-crd b a)/(crd b c-crd b a))=ZU b s a c from rfl,oW,bL,ci ol,obs,obs,sEr,zw hne];simp only[A2,AR];rw[Q5 hK sc hs,obs];simp only;cases hi:ins b high s c with
    |true=>
     rw[cT,oW,bL,ci (by simp;omega),obs,Aw];simp
    |false=>
     rw[cF,Aw];simp
  refine(AP (f:=fun(s:Bool×RF×Bool×(List (RQ×RQ))×(List (RQ×RQ))×(List (RQ×RQ))×Int×Int)=>FJ s.1 s.2.1 s.2.2.1 s.2.2.2.1 s.2.2.2.2.1 s.2.2.2.2.2.1 s.2.2.2.2.2.2.1 s.2.2.2.2.2.2.2)
   (s:=(b,rqF s,high,out.map rp,ps.map rp,ps.map rp,(ps.length:Int),(k:Int))) hgo).trans ?_
  have hst:=bA b high s a c;rw[ih (k+1) c (out++LV b high s a c) (by omega) (fun h=>by rw[eW hlt];exact hg) (by rw[zb5];omega),hd,Cn,ze6]
theorem iy:∀(m k:Nat)(a:Q2)(out:List Q2),k+m=ps.length->(k<ps.length->ps[(k+ps.length-1)%ps.length]? =some a)->out.length<=2*k->
  Ad (fun(s:RF×(List (RQ×RQ))×(List (RQ×RQ))×Bool×Bool×(List (RQ×RQ))×Int×Int)=>Di s.1 s.2.1 s.2.2.1 s.2.2.2.1 s.2.2.2.2.1 s.2.2.2.2.2.1 s.2.2.2.2.2.2.1 s.2.2.2.2.2.2.2)
   (rqF s,out.map rp,ps.map rp,b,high,ps.map rp,(ps.length:Int),(k:Int))=some ((out++Cn b high s a (ps.drop k)).map rp):=by
 intro m
 induction m with
 |zero=>
  intro k a out hk _ _;refine Ak ?_;show Di (rqF s) (out.map rp) (ps.map rp) b high (ps.map rp) (ps.length:Int) (k:Int)=_;unfold Di;rw[zq,zd2 (by omega),Cn,zf1];rfl
 |succ m ih=>
  intro k a out hk ha hout;have h40:=hps.1;have hlt:k<ps.length:=by omega
  have ha:=ha hlt;have hd:ps.drop k=ps[k]::ps.drop (k+1):=za9 hlt;have hg:ps[k]? =some ps[k]:=za1 hlt;generalize ps[k]=c at hd hg;have sa:=hps.2 a (za3 ha);have sc:=hps.2 c (za3 hg);have hgo:Di (rqF s) (out.map rp) (ps.map rp) b high (ps.map rp) (ps.length:Int) (k:Int)=some (.inl (rqF s,(out++LV b high s a c).map rp,ps.map rp,b,high,ps.map rp,(ps.length:Int),((k+1:Nat):Int))):=by
   unfold Di;have hz:(((ps.length:Nat):Int)==0)=false:=beq_eq_false_iff_ne.2 (by omega);obtain⟨v,v1,v2⟩:=qR hK sa hs b high;obtain⟨w,w1,w2⟩:=qR hK sc hs b high;rw[zp,cT,Js hg,obs,zc5,hz,cF,qD hlt (by omega),Js ha,obs];simp only[A2,AR,sg];rw[v1,obs,w1,obs,v2,w2];unfold LV;have ol:(out.map rp).length<=100000:=by rw[zc5];omega
   by_cases hne:ins b high s a=ins b high s c
   ·rw[show(ins b high s a==ins b high s c)=true from beq_iff_eq.2 hne,nT,cF,zr hne];cases hi:ins b high s c with
    |true=>
     rw[cT,ci ol,obs,Aw];simp
    |false=>
     rw[cF,Aw];simp
   ·have hcut:=nP hne;rw[show(ins b high s a==ins b high s c)=false from beq_eq_false_iff_ne.2 hne,nF,cT,tJ hK sa sc hs hcut,obs,oW,bL,ci ol,obs,zw hne];cases hi:ins b high s c with
    |true=>
     rw[cT,ci (by simp;omega),obs,Aw];simp
    |false=>
     rw[cF,Aw];simp
  refine(AP (f:=fun(s:RF×(List (RQ×RQ))×(List (RQ×RQ))×Bool×Bool×(List (RQ×RQ))×Int×Int)=>Di s.1 s.2.1 s.2.2.1 s.2.2.2.1 s.2.2.2.2.1 s.2.2.2.2.2.1 s.2.2.2.2.2.2.1 s.2.2.2.2.2.2.2)
   (s:=(rqF s,out.map rp,ps.map rp,b,high,ps.map rp,(ps.length:Int),(k:Int))) hgo).trans ?_
  have hst:=bA b high s a c;rw[ih (k+1) c (out++LV b high s a c) (by omega) (fun h=>by rw[eW hlt];exact hg) (by rw[zb5];omega),hd,Cn,ze6]
theorem kL(h:0<ps.length):ps[(0+ps.length-1)%ps.length]? =some (Iz ps):=by
 rw[zf3,Nat.mod_eq_of_lt (by omega),<-List.getLast?_eq_getElem?];unfold Iz;cases hl:ps.getLast? with
 |none=>rw[List.getLast?_eq_none_iff.1 hl]at h;simp at h
 |some x=>rfl
theorem Yw:K8 (ps.map rp) b high (rqF s)=some ((Fy b high s ps).map rp):=by
 have h:=gK hK hps hs b high ps.length 0 (Iz ps) [] (by omega) (fun h=>kL hK hps hs h) (by simp);rw[ze5,List.nil_append]at h;have h':Ad (fun(s:Bool×RF×Bool×(List (RQ×RQ))×(List (RQ×RQ))×(List (RQ×RQ))×Int×Int)=>FJ s.1 s.2.1 s.2.2.1 s.2.2.2.1 s.2.2.2.2.1 s.2.2.2.2.2.1 s.2.2.2.2.2.2.1 s.2.2.2.2.2.2.2)
   (b,rqF s,high,(List.nil:List RPt),ps.map rp,ps.map rp,(ps.length:Int),(0:Int))=_:=h
 unfold K8;simp only[A2,AR];rw[zc5,h',obs];rfl
theorem OO:FX (ps.map rp) b (rqF s) high=some ((Fy b high s ps).map rp):=by
 have h:=iy hK hps hs b high ps.length 0 (Iz ps) [] (by omega) (fun h=>kL hK hps hs h) (by simp);rw[ze5,List.nil_append]at h;have h':Ad (fun(s:RF×(List (RQ×RQ))×(List (RQ×RQ))×Bool×Bool×(List (RQ×RQ))×Int×Int)=>Di s.1 s.2.1 s.2.2.1 s.2.2.2.1 s.2.2.2.2.1 s.2.2.2.2.2.1 s.2.2.2.2.2.2.1 s.2.2.2.2.2.2.2)
   (rqF s,(List.nil:List RPt),ps.map rp,b,high,ps.map rp,(ps.length:Int),(0:Int))=_:=h
 unfold FX;simp only[A2,AR];rw[zc5,h',obs];rfl
theorem T7:(Fy b high s ps).length<=2*ps.length/\∀p∈Fy b high s ps,SzP (7*K+4) p:=by
 have h40:=hps.1;have h2:=hps.2;have key:∀(l:List Q2)(a:Q2),SzP K a->(∀p∈l,SzP K p)->(Cn b high s a l).length<=2*l.length/\∀p∈Cn b high s a l,SzP (7*K+4) p:=by
  intro l
  induction l with
  |nil=>intro a _ _;exact⟨by simp[Cn],fun p hp=>by simp[Cn]at hp⟩
  |cons c l ih=>
   intro a ha hl;have hc:=hl c (by simp);obtain⟨i1,i2⟩:=ih c hc (fun p hp=>hl p (ze4 _ hp));have hst:=bA b high s a c;rw[Cn];refine⟨by rw[zb5,zb7];omega,fun p hp=> ?_⟩;rcases zb0.1 hp with hp|hp
   ·unfold LV at hp;rcases zb0.1 hp with hp|hp
    ·by_cases e:ins b high s a=ins b high s c
     ·rw[zr e]at hp;cases hp
     ·rw[zw e]at hp;rw[zd0.1 hp];exact yz hK ha hc hs (nP e)
    ·by_cases e:ins b high s c=true
     ·rw[zr e]at hp;rw[zd0.1 hp];exact hc.mono (by omega)
     ·rw[zw e]at hp;cases hp
   ·exact i2 p hp
 by_cases hn:ps=[]
 ·unfold Fy;rw[hn];exact⟨by simp[Cn],fun p hp=>by simp[Cn]at hp⟩
 ·obtain⟨k1,k2⟩:=key ps (Iz ps) (h2 _ (sO hn)) h2;exact⟨k1,k2⟩
end
end Go.Proofs.YtiijheppiboglaaGreatDoor.Ev
