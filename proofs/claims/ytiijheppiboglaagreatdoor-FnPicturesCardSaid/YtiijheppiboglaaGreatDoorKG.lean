/- Whatever comes in, the law of this claim answers true, and nothing that was handed in changes. -/
import Derived.Test.YtiijheppiboglaaGreatDoorKF
import Derived.Test.YtiijheppiboglaaGreatDoorRows
import Derived.Test.YtiijheppiboglaaGreatDoorCards
import Derived.Test.YtiijheppiboglaaGreatDoorTie
import Derived.WalkKit
import Derived.ProofKit
import Derived.OpenShut
import Derived.ShutString
import Derived.ChangeOld
import Derived.Below
import Derived.SizedLaws
import Derived.SevenTiedAt
import Derived.LaidMore
import Derived.Lay
import Derived.Stop.Joined
import Derived.Test.YtiijheppiboglaaGreatDoorChecked
set_option maxHeartbeats 2000000
open Option renaming bind_some → za0, map_eq_some_iff → zb6, map_some → zd4
open List renaming getElem?_eq_getElem → za1, mem_of_getElem? → za3, getElem?_eq_some_iff → za4, all_eq_true → za5, drop_eq_getElem_cons → zb1, mem_append → zb2, mem_flatMap → zb3, getD_eq_getElem?_getD → zb4, flatMap_cons → zb5, length_cons → zb8, map_cons → zb9, eq_nil_of_length_eq_zero → zc0, getElem?_take → zc2, length_append → zc3, take_of_length_le → zc4, mem_cons → zc6, getElem?_map → zc9, length_map → zd0, mem_singleton → zd1, mem_map → zd2, all_cons → zd3, length_pos_iff → zd5, getElem?_drop → zd6, drop_eq_nil_of_le → zd7, cons_append → zd8, getElem?_append_left → zd9, append_nil → ze2, mem_cons_of_mem → ze6, getElem?_eq_none → ze8, length_take → zf2, not_mem_nil → zf3, length_nil → zf4, drop_zero → zf5
open Bool renaming and_eq_true → za2, false_eq_true → zc1, true_and → ze5
open Nat renaming eq_of_beq_eq_true → za6, le_refl → za8, mul_le_mul_right → ze0, lt_of_lt_of_le → ze1, lt_or_ge → ze4, le_trans → ze7, zero_add → zf0, add_mul → zf7
open Int renaming mul_le_mul_of_nonneg_right → za7, mul_le_mul_of_nonneg_left → zb0, tmod_eq_emod_of_nonneg → zb7, tdiv_eq_ediv_of_nonneg → zc5, toNat_natCast → zc8, mul_add → ze3, le_of_lt → ze9, natAbs_natCast → zf1, mul_nonneg → zf6
open Sum renaming elim_inr → za9
open Array renaming getD_eq_getD_getElem? → zc7
open Go.IntKind renaming wrap → zi, i64 → zj, u64 → zk
open Option.some renaming inj → zv, injEq → zx
noncomputable section
set_option linter.unusedVariables false
set_option linter.unusedSimpArgs false
set_option linter.unusedSectionVars false
namespace Go.Proofs.YtiijheppiboglaaGreatDoor.Ev
section
open Go
def HY:Option (List Rat)->List RQ×Bool
 |none=>([],false)
 |some qs=>(qs.map rq,true)
def nW(w:Bp):Nat:=w.2.2.1.toNat*w.2.2.2.toNat
theorem QU{w:Bp}(h:CR w=true):w.2.2.1*w.2.2.2=(nW w:Int)/\1<=nW w/\nW w<=64:=by
 obtain⟨_,_,h3,h4⟩:=CC.1 h;refine⟨?_,?_,?_⟩
 ·unfold nW;rw[Int.natCast_mul,Int.toNat_of_nonneg (by omega),Int.toNat_of_nonneg (by omega)]
 ·unfold nW;exact Nat.mul_pos (by omega) (by omega)
 ·unfold nW;exact Nat.mul_le_mul (show w.2.2.1.toNat<=8 by omega) (show w.2.2.2.toNat<=8 by omega)
def shW (w:Bp) (x:List P2):Option (List Rat):=if((BR ((x.map ptQ).map rp) w).getD ([],false)).2=true then some ((Oj (x.map ptQ) w.2.2.1.toNat w.1 w.2.2.2.toNat w.2.1).map fun a=>a/2)else none
theorem ZE{x:List P2}(hx:FD x=true){w:Bp}(hw:CR w=true):BR ((x.map ptQ).map rp) w=some (HY (shW w x))/\DH ((x.map ptQ).map rp) w=some (HY (shW w x))/\∀qs,shW w x=some qs->qs.length=nW w/\∀q∈qs,Sz 40 q:=by
 have hz:=As6 hx;have h40:=hz.1;obtain⟨g1,g2,g3,g4⟩:=CC.1 hw;obtain⟨f,f1,f2,f3,f4⟩:=AR0 (l:=(x.map ptQ).map rp) (by rw[zd0];omega) (OX (k:=8) (by omega) hz.2) w;cases hf:f.2 with
 |false=>
  have e:shW w x=none:=by
   unfold shW;rw[f1];exact zw (by rw[Option.getD_some,hf];simp)
  have ef:f=HY none:=Prod.ext (f3 hf) hf;rw[e,f1,f2,ef];exact⟨rfl,rfl,fun qs h=>by cases h⟩
 |true=>
  obtain⟨_,_,hwin⟩:=f4 hf;obtain⟨j1,j2,_⟩:=AY7 hz rfl (w:=w.2.2.1.toNat) (x:=w.1) (by omega) w.2.2.2.toNat w.2.1 f.1 (by omega) (by omega) hwin;have e:shW w x=some ((Oj (x.map ptQ) w.2.2.1.toNat w.1 w.2.2.2.toNat w.2.1).map fun a=>a/2):=by
   unfold shW;rw[f1];exact zr hf
  have ef:f=HY (some ((Oj (x.map ptQ) w.2.2.1.toNat w.1 w.2.2.2.toNat w.2.1).map fun a=>a/2)):=Prod.ext (by rw[j1];show _=List.map rq _;rw[List.map_map];rfl) hf;rw[e,f1,f2,<-ef];refine⟨rfl,rfl,fun qs h=> ?_⟩
  cases h
  refine⟨by rw[zd0,Y9];rfl,fun q hq=> ?_⟩
  obtain⟨a,ha,rfl⟩:=zd2.1 hq;exact j2 a ha
def EG:List Rat->List Rat->Option (List Rat)
 |a::us,q::qs=>if Sz 40 (a+q)then(EG us qs).map ((a+q):: ·)else none
 |_,_=>some []
theorem AM5(l:List Rat):EG [] l=some []:=by cases l<;>rfl
theorem JT(a q:Rat)(us qs:List Rat):EG (a::us) (q::qs)=if Sz 40 (a+q)then(EG us qs).map ((a+q):: ·)else none:=(rfl)
theorem Kl:∀(us qs r:List Rat),us.length=qs.length->EG us qs=some r->r.length=us.length/\∀q∈r,Sz 40 q:=by
 intro us
 induction us with
 |nil=>
  intro qs r _ h;rw[AM5]at h;rw[<-zv h];exact⟨rfl,fun q hq=>absurd hq zf3⟩
 |cons a us ih=>
  intro qs r hl h;cases qs with
  |nil=>exact absurd hl (by simp)
  |cons q qs=>
   rw[JT]at h;by_cases hz:Sz 40 (a+q)
   ·rw[zr hz]at h;cases hr:EG us qs with
    |none=>rw[hr]at h;exact absurd h (by simp)
    |some r'=>
     rw[hr,zd4]at h;obtain⟨i1,i2⟩:=ih qs r' (by simpa using hl) hr;rw[<-zv h];refine⟨by simp[i1],fun x hx=> ?_⟩
     rcases zc6.1 hx with e|hx
     ·rw[e];exact hz
     ·exact i2 x hx
   ·rw[zw hz]at h;exact absurd h (by simp)
def adR(w:Bp)(ws:Bn)(c d:Int)(dn:List Rat):Option (List Rat)->(Bp×(List RQ×(Bn×(Int×Int))))⊕(List RQ×Bool)
 |some r=>.inl (w,((dn++r).map rq,(ws,(c,d))))
 |none=>.inr ([],false)
theorem Al9(dn us:List Rat)(a b:Rat){k:Nat}(h:dn.length=k):((dn++a::us).map rq).set k (rq b)=(dn++[b]++us).map rq:=by
 subst h;simp[List.map_append,List.set_append]
theorem WN(pre qs:List Rat)(q:Rat):(pre++q::qs)[pre.length]? =some q:=by simp
theorem A3p(w:Bp)(ws:Bn)(c d:Int):∀(us qs dn pre:List Rat),(∀q∈us,Sz 40 q)->(∀q∈qs,Sz 40 q)->us.length=qs.length->dn.length=pre.length->pre.length+qs.length<=1000->
  Ad (fun(s:(Bp×((List RQ)×(Bn×(Int×(Int×((List RQ)×(Int×Int))))))))=>BS s.1 s.2.1 s.2.2.1 s.2.2.2.1 s.2.2.2.2.1 s.2.2.2.2.2.1 s.2.2.2.2.2.2.1 s.2.2.2.2.2.2.2) (w,((dn++us).map rq,(ws,(c,(d,((pre++qs).map rq,(((pre++qs).length:Int),(pre.length:Int))))))))=some (adR w ws c d dn (EG us qs))
 |[],[],dn,pre,_,_,_,hd,hp=>by
  refine Ak ?_
  show BS w ((dn++[]).map rq) ws c d ((pre++[]).map rq) ((pre++[]).length:Int) (pre.length:Int)=_;unfold BS;rw[zq (by simp),cF];rfl
 |[],q::qs,dn,pre,_,_,hl,_,_=>by cases hl
 |a::us,[],dn,pre,_,_,hl,_,_=>by cases hl
 |a::us,q::qs,dn,pre,ha,hq,hl,hd,hp=>by
  have ka:=ha a (by simp);have kq:=hq q (by simp);have h81:Sz 81 (a+q):=(Ph ka kq).mono (by omega);rw[zb8]at hp;have hlen:((pre++q::qs).length:Int)=(pre.length:Int)+qs.length+1:=by simp;omega
  have hg:AY ((dn++a::us).map rq) pre.length=some (rq a):=by
   show((dn++a::us).map rq)[pre.length]? =_;rw[zc9,<-hd,WN];rfl
  have hi:A2 (pre.length:Int) ((dn++a::us).map rq).length=some pre.length:=AW (by simp[hd]);have key:BS w ((dn++a::us).map rq) ws c d ((pre++q::qs).map rq) ((pre++q::qs).length:Int) (pre.length:Int)=if Sz 40 (a+q)then some (.inl (w,((dn++[a+q]++us).map rq,(ws,(c,(d,((pre++q::qs).map rq,(((pre++q::qs).length:Int),((pre.length+1:Nat):Int)))))))))else some (.inr (.inr ([],false))):=by
   unfold BS;rw[zp (by omega),cT,A6s (WN pre qs q),obs,hi,obs,hg,obs];simp only[AO,AI,U8,OA];rw[GY (k:=40) (by omega) ka kq,obs]
   try simp only[AO,AI,U8,OA]
   rw[JN,obs,obs,hg,obs];by_cases hz:Sz 40 (a+q)
   ·rw[zr hz,GQ hz,nT,cF,AA (by omega)];rw[<-Al9 dn us a (a+q) hd];rfl
   ·rw[zw hz,Qg hz,nF,cT]
  rw[JT];by_cases hz:Sz 40 (a+q)
  ·rw[zr hz]at key⊢
   refine(AP (f:=fun(s:(Bp×((List RQ)×(Bn×(Int×(Int×((List RQ)×(Int×Int))))))))=>BS s.1 s.2.1 s.2.2.1 s.2.2.2.1 s.2.2.2.2.1 s.2.2.2.2.2.1 s.2.2.2.2.2.2.1 s.2.2.2.2.2.2.2) (s:=(w,((dn++a::us).map rq,(ws,(c,(d,((pre++q::qs).map rq,(((pre++q::qs).length:Int),(pre.length:Int))))))))) key).trans ?_
   have ih:=A3p w ws c d us qs (dn++[a+q]) (pre++[q]) (fun x hx=>ha x (by simp[hx])) (fun x hx=>hq x (by simp[hx])) (by simpa using hl) (by simp[hd]) (by simp;omega);rw[show(pre++[q])++qs=pre++q::qs by simp,show(pre++[q]).length=pre.length+1 by simp]at ih;rw[ih];cases EG us qs with
   |none=>rfl
   |some r=>simp[adR]
  ·rw[zw hz]at key⊢
   exact Ak key
theorem A5T(w:Bp)(ws:Bn)(c d:Int):∀(us qs dn pre:List Rat),(∀q∈us,Sz 40 q)->(∀q∈qs,Sz 40 q)->us.length=qs.length->dn.length=pre.length->pre.length+qs.length<=1000->
  Ad (fun(s:(Bp×((List RQ)×(Bn×(Int×(Int×((List RQ)×(Int×Int))))))))=>BU s.1 s.2.1 s.2.2.1 s.2.2.2.1 s.2.2.2.2.1 s.2.2.2.2.2.1 s.2.2.2.2.2.2.1 s.2.2.2.2.2.2.2) (w,((dn++us).map rq,(ws,(c,(d,((pre++qs).map rq,(((pre++qs).length:Int),(pre.length:Int))))))))=some (adR w ws c d dn (EG us qs))
 |[],[],dn,pre,_,_,_,hd,hp=>by
  refine Ak ?_
  show BU w ((dn++[]).map rq) ws c d ((pre++[]).map rq) ((pre++[]).length:Int) (pre.length:Int)=_;unfold BU;rw[zq (by simp),cF];rfl
 |[],q::qs,dn,pre,_,_,hl,_,_=>by cases hl
 |a::us,[],dn,pre,_,_,hl,_,_=>by cases hl
 |a::us,q::qs,dn,pre,ha,hq,hl,hd,hp=>by
  have ka:=ha a (by simp);have kq:=hq q (by simp);have h81:Sz 81 (a+q):=(Ph ka kq).mono (by omega);rw[zb8]at hp;have hlen:((pre++q::qs).length:Int)=(pre.length:Int)+qs.length+1:=by simp;omega
  have hg:AY ((dn++a::us).map rq) pre.length=some (rq a):=by
   show((dn++a::us).map rq)[pre.length]? =_;rw[zc9,<-hd,WN];rfl
  have hi:A2 (pre.length:Int) ((dn++a::us).map rq).length=some pre.length:=AW (by simp[hd]);have key:BU w ((dn++a::us).map rq) ws c d ((pre++q::qs).map rq) ((pre++q::qs).length:Int) (pre.length:Int)=if Sz 40 (a+q)then some (.inl (w,((dn++[a+q]++us).map rq,(ws,(c,(d,((pre++q::qs).map rq,(((pre++q::qs).length:Int),((pre.length+1:Nat):Int)))))))))else some (.inr (.inr ([],false))):=by
   unfold BU;rw[zp (by omega),cT,A6s (WN pre qs q),obs,hi,obs,hg,obs];simp only[AO,AI,U8,OA];rw[S6 (k:=40) (by omega) ka kq,obs]
   try simp only[AO,AI,U8,OA]
   rw[O6 (k:=81) (by omega) h81,obs];by_cases hz:Sz 40 (a+q)
   ·rw[zr hz,GQ hz,nT,cF,obs,hg,obs,AA (by omega)];rw[<-Al9 dn us a (a+q) hd];rfl
   ·rw[zw hz,Qg hz,nF,cT]
  rw[JT];by_cases hz:Sz 40 (a+q)
  ·rw[zr hz]at key⊢
   refine(AP (f:=fun(s:(Bp×((List RQ)×(Bn×(Int×(Int×((List RQ)×(Int×Int))))))))=>BU s.1 s.2.1 s.2.2.1 s.2.2.2.1 s.2.2.2.2.1 s.2.2.2.2.2.1 s.2.2.2.2.2.2.1 s.2.2.2.2.2.2.2) (s:=(w,((dn++a::us).map rq,(ws,(c,(d,((pre++q::qs).map rq,(((pre++q::qs).length:Int),(pre.length:Int))))))))) key).trans ?_
   have ih:=A5T w ws c d us qs (dn++[a+q]) (pre++[q]) (fun x hx=>ha x (by simp[hx])) (fun x hx=>hq x (by simp[hx])) (by simpa using hl) (by simp[hd]) (by simp;omega);rw[show(pre++[q])++qs=pre++q::qs by simp,show(pre++[q]).length=pre.length+1 by simp]at ih;rw[ih];cases EG us qs with
   |none=>rfl
   |some r=>simp[adR]
  ·rw[zw hz]at key⊢
   exact Ak key
theorem Az7{x:List P2}(hx:FD x=true):NU x=some ((x.map ptQ).map rp,true):=by
 have h12:=(F0.1 hx).1.2;unfold NU;rw[Au8 (by unfold Ly;omega),obs,hx,nT,cF,Aa6 (by omega) (Aw0 hx),obs]
def S4 (w:Bp):Bn->List Rat->Option (List Rat)
 |[],acc=>some acc
 |x::l,acc=>(shW w x).bind fun qs=>(EG acc qs).bind fun r=>S4 w l r
def A8t:Option (List Rat)->List RQ⊕(List RQ×Bool)
 |some r=>.inl (r.map rq)
 |none=>.inr ([],false)
section
variable {w:Bp} {l:Bn} (hw:CR w=true) (hg:∀x∈l,FD x=true) (hl:l.length<=4)
include hw hg
theorem Ac2:∀(m:Bn)(acc r:List Rat),(∀x∈m,FD x=true)->acc.length=nW w->(∀q∈acc,Sz 40 q)->S4 w m acc=some r->r.length=nW w/\∀q∈r,Sz 40 q
 |[],acc,r,_,h1,h2,h=>by
  cases h
  exact⟨h1,h2⟩
 |x::m,acc,r,hm,h1,h2,h=>by
  obtain⟨_,_,k⟩:=ZE (hm x (by simp)) hw;rw[S4]at h;cases hs:shW w x with
  |none=>rw[hs]at h;cases h
  |some qs=>
   obtain⟨k1,k2⟩:=k qs hs;rw[hs,obs]at h;cases ha:EG acc qs with
   |none=>rw[ha]at h;cases h
   |some r'=>
    obtain⟨a1,a2⟩:=Kl acc qs r' (by omega) ha;rw[ha,obs]at h;exact Ac2 m r' r (fun y hy=>hm y (by simp[hy])) (by omega) a2 h
include hl
theorem A7m:∀(m k:Nat)(acc:List Rat),k+m=l.length->acc.length=nW w->(∀q∈acc,Sz 40 q)->
  Ad (fun(s:(Bp×((List RQ)×(Bn×(Int×Int)))))=>Bj s.1 s.2.1 s.2.2.1 s.2.2.2.1 s.2.2.2.2) (w,(acc.map rq,(l,((l.length:Int),(k:Int)))))=some (A8t (S4 w (l.drop k) acc))
 |0,k,acc,hk,h1,h2=>by
  refine Ak ?_
  show Bj w (acc.map rq) l (l.length:Int) (k:Int)=_;unfold Bj;rw[zq (by omega),cF,List.drop_of_length_le (by omega)];rfl
 |m+1,k,acc,hk,h1,h2=>by
  have hkl:k<l.length:=by omega
  have he:l[k]? =some l[k]:=za1 hkl;have hx:=hg _ (za3 he);rw[zb1 hkl];generalize l[k]=x at he hx;obtain⟨s1,s2,s3⟩:=ZE hx hw;have hn:=QU hw;have h12:=(F0.1 hx).1.2;rw[S4];have top:Bj w (acc.map rq) l (l.length:Int) (k:Int)=(some (HY (shW w x))).bind fun x2=>
    bif(!x2.2)then some (Sum.inr (Sum.inr (([]:List RQ),false)))else
    (Ad (fun(s:(Bp×((List RQ)×(Bn×(Int×(Int×((List RQ)×(Int×Int))))))))=>BS s.1 s.2.1 s.2.2.1 s.2.2.2.1 s.2.2.2.2.1 s.2.2.2.2.2.1 s.2.2.2.2.2.2.1 s.2.2.2.2.2.2.2) (w,(acc.map rq,(l,((l.length:Int),((k:Int),(x2.1,((x2.1.length:Int),(0:Int))))))))).bind fun x3=>
    Sum.elim (fun x4=>some (Sum.inl (x4.1,(x4.2.1,(x4.2.2.1,(x4.2.2.2.1,zi zj (x4.2.2.2.2+(1:Int)))))))) (fun x5=>some (Sum.inr (Sum.inr (x5.1,x5.2)))) x3:=by
   unfold Bj;rw[zp (by omega),cT,Af,he,obs,AI5 (by omega) (Aw0 hx),obs];rw[show BR ((x.map ptQ).map rp) (w.1,(w.2.1,(w.2.2.1,w.2.2.2)))=some (HY (shW w x))from s1]
  cases hs:shW w x with
  |none=>
   refine Ak ?_
   show Bj w (acc.map rq) l (l.length:Int) (k:Int)=_;rw[top,hs,obs];rfl
  |some qs=>
   obtain⟨q1,q2⟩:=s3 qs hs;have ad:=A3p w l (l.length:Int) (k:Int) acc qs [] [] h2 q2 (by omega) rfl (by simp;omega);rw[hs,obs]at top;have ad':Ad (fun(s:(Bp×((List RQ)×(Bn×(Int×(Int×((List RQ)×(Int×Int))))))))=>BS s.1 s.2.1 s.2.2.1 s.2.2.2.1 s.2.2.2.2.1 s.2.2.2.2.2.1 s.2.2.2.2.2.2.1 s.2.2.2.2.2.2.2) (w,(acc.map rq,(l,((l.length:Int),((k:Int),((HY (some qs)).1,(((HY (some qs)).1.length:Int),(0:Int))))))))=some (adR w l (l.length:Int) (k:Int) [] (EG acc qs)):=by
    have el:(HY (some qs)).1.length=([]++qs:List Rat).length:=by show(qs.map rq).length=_;simp
    rw[el];exact ad
   rw[ad',obs,show(HY (some qs)).2=true from rfl,nT,cF]at top;rw[obs];cases ha:EG acc qs with
   |none=>
    refine Ak ?_
    show Bj w (acc.map rq) l (l.length:Int) (k:Int)=_;rw[top,ha];rfl
   |some r=>
    obtain⟨a1,a2⟩:=Kl acc qs r (by omega) ha;have go:Bj w (acc.map rq) l (l.length:Int) (k:Int)=some (.inl (w,(r.map rq,(l,((l.length:Int),((k+1:Nat):Int)))))):=by
     rw[top,ha,<-AA (k:=k) (by omega)];rfl
    refine(AP (f:=fun(s:(Bp×((List RQ)×(Bn×(Int×Int)))))=>Bj s.1 s.2.1 s.2.2.1 s.2.2.2.1 s.2.2.2.2) (s:=(w,(acc.map rq,(l,((l.length:Int),(k:Int)))))) go).trans ?_
    rw[obs];exact A7m m (k+1) r (by omega) (by omega) a2
theorem A7L:∀(m k:Nat)(acc:List Rat),k+m=l.length->acc.length=nW w->(∀q∈acc,Sz 40 q)->
  Ad (fun(s:(Bp×((List RQ)×(Bn×(Int×Int)))))=>Bk s.1 s.2.1 s.2.2.1 s.2.2.2.1 s.2.2.2.2) (w,(acc.map rq,(l,((l.length:Int),(k:Int)))))=some (A8t (S4 w (l.drop k) acc))
 |0,k,acc,hk,h1,h2=>by
  refine Ak ?_
  show Bk w (acc.map rq) l (l.length:Int) (k:Int)=_;unfold Bk;rw[zq (by omega),cF,List.drop_of_length_le (by omega)];rfl
 |m+1,k,acc,hk,h1,h2=>by
  have hkl:k<l.length:=by omega
  have he:l[k]? =some l[k]:=za1 hkl;have hx:=hg _ (za3 he);rw[zb1 hkl];generalize l[k]=x at he hx;obtain⟨s1,s2,s3⟩:=ZE hx hw;have hn:=QU hw;have h12:=(F0.1 hx).1.2;have r2:=Az7 hx;rw[S4];have top:Bk w (acc.map rq) l (l.length:Int) (k:Int)=(some (HY (shW w x))).bind fun x2=>
    bif(!x2.2)then some (Sum.inr (Sum.inr (([]:List RQ),false)))else
    (Ad (fun(s:(Bp×((List RQ)×(Bn×(Int×(Int×((List RQ)×(Int×Int))))))))=>BU s.1 s.2.1 s.2.2.1 s.2.2.2.1 s.2.2.2.2.1 s.2.2.2.2.2.1 s.2.2.2.2.2.2.1 s.2.2.2.2.2.2.2) (w,(acc.map rq,(l,((l.length:Int),((k:Int),(x2.1,((x2.1.length:Int),(0:Int))))))))).bind fun x3=>
    Sum.elim (fun x4=>some (Sum.inl (x4.1,(x4.2.1,(x4.2.2.1,(x4.2.2.2.1,zi zj (x4.2.2.2.2+(1:Int)))))))) (fun x5=>some (Sum.inr (Sum.inr (x5.1,x5.2)))) x3:=by
   unfold Bk;rw[zp (by omega),cT,AW hkl,obs,show AY l k=some x from he,obs,r2,obs];rw[show DH ((x.map ptQ).map rp) (w.1,(w.2.1,(w.2.2.1,w.2.2.2)))=some (HY (shW w x))from s2]
  cases hs:shW w x with
  |none=>
   refine Ak ?_
   show Bk w (acc.map rq) l (l.length:Int) (k:Int)=_;rw[top,hs,obs];rfl
  |some qs=>
   obtain⟨q1,q2⟩:=s3 qs hs;have ad:=A5T w l (l.length:Int) (k:Int) acc qs [] [] h2 q2 (by omega) rfl (by simp;omega);rw[hs,obs]at top;have ad':Ad (fun(s:(Bp×((List RQ)×(Bn×(Int×(Int×((List RQ)×(Int×Int))))))))=>BU s.1 s.2.1 s.2.2.1 s.2.2.2.1 s.2.2.2.2.1 s.2.2.2.2.2.1 s.2.2.2.2.2.2.1 s.2.2.2.2.2.2.2) (w,(acc.map rq,(l,((l.length:Int),((k:Int),((HY (some qs)).1,(((HY (some qs)).1.length:Int),(0:Int))))))))=some (adR w l (l.length:Int) (k:Int) [] (EG acc qs)):=by
    have el:(HY (some qs)).1.length=([]++qs:List Rat).length:=by show(qs.map rq).length=_;simp
    rw[el];exact ad
   rw[ad',obs,show(HY (some qs)).2=true from rfl,nT,cF]at top;rw[obs];cases ha:EG acc qs with
   |none=>
    refine Ak ?_
    show Bk w (acc.map rq) l (l.length:Int) (k:Int)=_;rw[top,ha];rfl
   |some r=>
    obtain⟨a1,a2⟩:=Kl acc qs r (by omega) ha;have go:Bk w (acc.map rq) l (l.length:Int) (k:Int)=some (.inl (w,(r.map rq,(l,((l.length:Int),((k+1:Nat):Int)))))):=by
     rw[top,ha,<-AA (k:=k) (by omega)];rfl
    refine(AP (f:=fun(s:(Bp×((List RQ)×(Bn×(Int×Int)))))=>Bk s.1 s.2.1 s.2.2.1 s.2.2.2.1 s.2.2.2.2) (s:=(w,(acc.map rq,(l,((l.length:Int),(k:Int)))))) go).trans ?_
    rw[obs];exact A7L m (k+1) r (by omega) (by omega) a2
end
def zer(n:Nat):List Rat:=List.replicate n 0
theorem AC5(n:Nat):zer (n+1)=zer n++[0]:=List.replicate_succ'
theorem AS0{n:Nat}:∀q∈zer n,Sz 40 q:=fun q hq=>by
 rw[List.eq_of_mem_replicate hq];exact S0r.mono (by omega)
theorem A9k{n:Nat}(h:n<=1000):CZ 64 4 ((zer n).map rq) [rq 0]=some ((zer (n+1)).map rq):=by
 rw[A8b (by simp[zer];omega),AC5,List.map_append];rfl
theorem A9A(w:Bp)(l:Bn){n:Nat}(hn:n<=1000):Ad (fun(s:(Bp×((List RQ)×(Bn×(Int×Int)))))=>Cr s.1 s.2.1 s.2.2.1 s.2.2.2.1 s.2.2.2.2) (w,((List.nil:List RQ),(l,((n:Int),(0:Int)))))=some (w,((zer n).map rq,l)):=by
 obtain⟨_,h1,_⟩:=CK (body:=fun(s:(Bp×((List RQ)×(Bn×(Int×Int)))))=>Cr s.1 s.2.1 s.2.2.1 s.2.2.2.1 s.2.2.2.2) (fun k (_:Unit)=>(w,((zer k).map rq,(l,((n:Int),(k:Int)))))) (fun _=>(w,((zer n).map rq,l))) (fun _ _=>True) n (by
  intro k _ hk _;refine⟨(),?_,trivial⟩
  show Cr w ((zer k).map rq) l (n:Int) (k:Int)=_;unfold Cr;rw[zp (by omega),cT,PX,obs];rw[show CZ 64 4 ((zer k).map rq) (List.cons (((rqF 0).1,(rqF 0).2.1),((rqF 0).2.2.1,(rqF 0).2.2.2)) (List.nil:List RQ))=some ((zer (k+1)).map rq)from A9k (by omega),obs,AA (by omega)]) (by
  intro _ _;show Cr w ((zer n).map rq) l (n:Int) (n:Int)=_;unfold Cr;rw[zq (by omega),cF]) 0 () (by omega) trivial
 exact h1
theorem A7J(w:Bp)(l:Bn):∀(m n:Nat),m+n<=1000->Ad (fun(s:(Bp×(Bn×((List RQ)×Int))))=>Ck s.1 s.2.1 s.2.2.1 s.2.2.2) (w,(l,((zer n).map rq,(m:Int))))=some (w,(l,(zer (n+m)).map rq))
 |0,n,h=>by
  refine Ak ?_
  show Ck w l ((zer n).map rq) (0:Int)=_;unfold Ck;rw[zq (by omega),cF];rfl
 |m+1,n,h=>by
  have go:Ck w l ((zer n).map rq) ((m+1:Nat):Int)=some (.inl (w,(l,((zer (n+1)).map rq,(m:Int))))):=by
   unfold Ck;rw[zp (by omega),cT,Aj9,obs];rw[show CZ 64 4 ((zer n).map rq) (List.cons (((rqF 0).1,(rqF 0).2.1),((rqF 0).2.2.1,(rqF 0).2.2.2)) (List.nil:List RQ))=some ((zer (n+1)).map rq)from A9k (by omega),obs,Ab (by omega) (by omega),show((m+1:Nat):Int)-1=(m:Int) by omega]
  refine(AP (f:=fun(s:(Bp×(Bn×((List RQ)×Int))))=>Ck s.1 s.2.1 s.2.2.1 s.2.2.2) (s:=(w,(l,((zer n).map rq,((m+1:Nat):Int))))) go).trans ?_
  rw[A7J w l m (n+1) (by omega),show n+1+m=n+(m+1) by omega]
def LF (s:Str) (w:Bp):Option (List Rat):=if(DN s).2.2.2=true/\CR w=true then S4 w (DN s).1 (zer (nW w))else none
theorem A32(o:Option (List Rat)):(Sum.elim (fun x4=>some (x4,true)) (fun x5=>some (x5.1,x5.2)) (A8t o):Option (List RQ×Bool))=some (HY o):=by
 cases o<;>rfl
theorem MH{l:Bn}(h:BM l=true):∀w∈l,FD w=true:=by
 unfold BM at h;simp only[za2]at h;exact za5.1 h.1
theorem Ir{s:Str}{w:Bp}{r:List Rat}(h:LF s w=some r):CR w=true/\r.length=nW w/\∀q∈r,Sz 40 q:=by
 unfold LF at h
 split at h
 ·rename_i hc;rcases Iq s with⟨l,e,hg⟩|⟨c,a,e,hc'⟩
  ·rw[e]at h;exact⟨hc.2,Ac2 (l:=l) hc.2 (MH hg) l _ _ (MH hg) (by simp[zer]) AS0 h⟩
  ·rw[e]at hc;cases hc.1
 ·cases h
theorem VF{s:Str}(hs:s.length<=1048576)(w:Bp):EY s w=some (HY (LF s w)):=by
 unfold EY LF;rw[IY (by omega),obs];rcases Iq s with⟨l,e,hg⟩|⟨c,a,e,hc⟩
 ·rw[e];simp only;rw[nT,cF,show AQ (w.1,(w.2.1,(w.2.2.1,w.2.2.2)))=some (CR w)from Ce w,obs];cases hw:CR w with
  |false=>rw[nF,cT,zw (by simp)];rfl
  |true=>
   obtain⟨n1,n2,n3⟩:=QU hw;have hn:=PS hg;have z:=A9A w l (n:=nW w) (by omega);have p:=A7m hw (MH hg) (l:=l) (by omega) l.length 0 (zer (nW w)) (by omega) (by simp[zer]) AS0;rw[nT,cF,n1,Ab (by omega) (by omega)];rw[show Ad (fun(s:(Bp×((List RQ)×(Bn×(Int×Int)))))=>Cr s.1 s.2.1 s.2.2.1 s.2.2.2.1 s.2.2.2.2) ((w.1,(w.2.1,(w.2.2.1,w.2.2.2))),((List.nil:List RQ),(l,((nW w:Int),(0:Int)))))=_ from z,obs]
   rw[show Ad (fun(s:(Bp×((List RQ)×(Bn×(Int×Int)))))=>Bj s.1 s.2.1 s.2.2.1 s.2.2.2.1 s.2.2.2.2) ((w.1,(w.2.1,(w.2.2.1,w.2.2.2))),((zer (nW w)).map rq,(l,((l.length:Int),(0:Int)))))=_ from p,obs,A32,zr ⟨trivial,rfl⟩];rfl
 ·rw[e];simp only;rw[nF,cT,zw (by simp)];rfl
theorem V1{s:Str}(hs:s.length<=1048576)(w:Bp):EU s w=some (HY (LF s w)):=by
 unfold EU LF;rw[Lc (by omega),obs];rcases Iq s with⟨l,e,hg⟩|⟨c,a,e,hc⟩
 ·rw[e];simp only;rw[nT,cF,show BP (w.1,(w.2.1,(w.2.2.1,w.2.2.2)))=some (CR w)from NW w,obs];cases hw:CR w with
  |false=>rw[nF,cT,zw (by simp)];rfl
  |true=>
   obtain⟨n1,n2,n3⟩:=QU hw;have hn:=PS hg;have z:=A7J w l (nW w) 0 (by omega);rw[zf0]at z;have p:=A7L hw (MH hg) (l:=l) (by omega) l.length 0 (zer (nW w)) (by omega) (by simp[zer]) AS0;rw[nT,cF,n1,Ab (by omega) (by omega)];rw[show Ad (fun(s:(Bp×(Bn×((List RQ)×Int))))=>Ck s.1 s.2.1 s.2.2.1 s.2.2.2) ((w.1,(w.2.1,(w.2.2.1,w.2.2.2))),(l,((List.nil:List RQ),(nW w:Int))))=_ from z,obs];rw[show Ad (fun(s:(Bp×((List RQ)×(Bn×(Int×Int)))))=>Bk s.1 s.2.1 s.2.2.1 s.2.2.2.1 s.2.2.2.2) ((w.1,(w.2.1,(w.2.2.1,w.2.2.2))),((zer (nW w)).map rq,(l,((l.length:Int),(0:Int)))))=_ from p,obs,A32,zr ⟨trivial,rfl⟩]
   rfl
 ·rw[e];simp only;rw[nF,cT,zw (by simp)];rfl
def AP3:Option (List Rat)->List Int×Bool
 |none=>([],false)
 |some r=>(r.map byQ,true)
theorem A3v{s:Str}{w:Bp}:(AP3 (LF s w)).1.length<=64:=by
 cases h:LF s w with
 |none=>simp[AP3]
 |some r=>
  obtain⟨h1,h2,h3⟩:=Ir h;have:=(QU h1).2.2;simp[AP3];omega
theorem Ng{s:Str}(hs:s.length<=1048576)(w:Bp):D3 s w=some (AP3 (LF s w)):=by
 unfold D3;rw[show EY s (w.1,(w.2.1,(w.2.2.1,w.2.2.2)))=_ from VF hs w,obs];cases h:LF s w with
 |none=>rfl
 |some r=>
  obtain⟨h1,h2,h3⟩:=Ir h;have:=(QU h1).2.2;show(bif !true then _ else(I9 (r.map rq)).bind fun x1=>some (x1,true))=_;rw[nT,cF,A2Z h3 (by omega),obs];rfl
theorem Aw5{s:Str}(hs:s.length<=1048576)(w:Bp):Hy s w=some (AP3 (LF s w)):=by
 unfold Hy;rw[show EU s (w.1,(w.2.1,(w.2.2.1,w.2.2.2)))=_ from V1 hs w,obs];cases h:LF s w with
 |none=>rfl
 |some r=>
  obtain⟨h1,h2,h3⟩:=Ir h;have:=(QU h1).2.2;have lp:=Ax2 h3 (by omega);have lp':Ad (fun(s:((List Int)×((List RQ)×(Int×Int))))=>B6 s.1 s.2.1 s.2.2.1 s.2.2.2) ((List.nil:List Int),((HY (some r)).1,(((HY (some r)).1.length:Int),(0:Int))))=some (r.map byQ):=by
   rw[show(HY (some r)).1.length=r.length by show(r.map rq).length=_;simp];exact lp
  rw[show(HY (some r)).2=true from rfl,nT,cF,lp',obs];rfl
end
section
open Go
theorem A5y{l:List P2}{k:Nat}{q:P2}(h:k<l.length)(hs:l.length<=1000)(hq:l[(k+1)%l.length]? =some q):MK l (k:Int)=some q:=by
 unfold MK;have hz:(((l.length:Nat):Int)==0)=false:=beq_eq_false_iff_ne.2 (by omega);rw[hz,cF,AA (by omega),zb7 (by omega)];have e:((k+1:Nat):Int)%(l.length:Int)=(((k+1)%l.length:Nat):Int):=by omega
 rw[e,Af,hq,obs]
theorem A5E{l:List P2}(hg:∀p∈l,Dl p=true)(hl:l.length<=1000):NI l=some (Mp l)/\ -2000000000<=Mp l/\Mp l<=2000000000:=by
 unfold NI;have hlen:(Me l).length=l.length:=Zj l;have hall:(Me l).take (Me l).length=Me l:=List.take_length;obtain⟨h1,h2⟩:=J2 (l:=Me l) (body:=fun(s:((List (Int×Int))×(Int×((List (Int×Int))×(Int×Int)))))=>JI s.1 s.2.1 s.2.2.1 s.2.2.2.1 s.2.2.2.2)
  (st:=fun k (b:Int)=>(l,(b,(l,((l.length:Int),(k:Int)))))) (step:=fun b p=>b+(p.1.1*p.2.2-p.2.1*p.1.2)) (fin:=fun b=>b) (I:=fun k b=>b=tot (fun p:P2×P2=>p.1.1*p.2.2-p.2.1*p.1.2) ((Me l).take k))
  (by
   rintro k b p hk rfl;have hb:=XB (hg _ (Yk (za3 hk)).1) (hg _ (Yk (za3 hk)).2);have ht:=TW hg hl k;obtain⟨g1,g2,g3⟩:=A3V hk;unfold JI;simp only[Ye g2,cond_true,Af,g2,A5y g1 hl g3,za0,AA (show k<4611686018427387904 by omega)];rw[Ab (n:=p.1.1*p.2.2) (by omega) (by omega),Ab (n:=p.2.1*p.1.2) (by omega) (by omega),Ab (n:=p.1.1*p.2.2-p.2.1*p.1.2) (by omega) (by omega),Ab (by omega) (by omega)];exact⟨rfl,(Aa8 _ hk).symm⟩)
  (by
   rintro b rfl;unfold JI;rw[hlen];simp only[AO4,cond_false]) 0 rfl
 have h0:((0:Nat):Int)=0:=rfl;rw[h0]at h1;rw[h2,hall]at h1;refine⟨?_,?_⟩
 ·rw[h1];rfl
 ·have:=TW hg hl (Me l).length;rw[hall]at this;exact this
def D1:Bn->Int
 |[]=>0
 |w::l=>Mp w+D1 l
theorem Al0(l:Bn)(w:List P2):D1 (l++[w])=D1 l+Mp w:=by
 induction l with
 |nil=>simp[D1]
 |cons a l ih=>rw[zd8,D1,ih,D1];omega
theorem Qe:∀(l:Bn),(∀w∈l,FD w=true)-> -(2000000000*(l.length:Int))<=D1 l/\D1 l<=2000000000*(l.length:Int)
 |[],_=>by simp[D1]
 |w::l,h=>by
  have h1:=Qe l (fun x hx=>h x (ze6 _ hx));obtain⟨⟨_,w1⟩,w2⟩:=F0.1 (h w (by simp));have h2:=TW w2 (by omega) (Me w).length;rw[List.take_length]at h2;have h2: -2000000000<=Mp w/\Mp w<=2000000000:=h2;rw[D1,zb8];omega
theorem Ts{l:Bn}(h:BM l=true):∀w∈l,FD w=true:=by
 unfold BM at h;simp only[za2]at h;exact za5.1 h.1
theorem AU0{l:Bn}(hg:BM l=true):Ad (fun(s:(RF×(Bn×(Int×(Int×Int)))))=>Ek s.1 s.2.1 s.2.2.1 s.2.2.2.1 s.2.2.2.2) (zF,(l,((0:Int),((l.length:Int),(0:Int)))))=some (zF,D1 l):=by
 have hn:=PS hg;have hw:=Ts hg;obtain⟨_,h1,_⟩:=CK (body:=fun(s:(RF×(Bn×(Int×(Int×Int)))))=>Ek s.1 s.2.1 s.2.2.1 s.2.2.2.1 s.2.2.2.2) (fun k (_:Unit)=>(zF,(l,(D1 (l.take k),((l.length:Int),(k:Int)))))) (fun _=>(zF,D1 l)) (fun _ _=>True) l.length (by
  intro k _ hk _;have he:l[k]? =some l[k]:=za1 hk;generalize l[k]=w at he;obtain⟨⟨_,w1⟩,w2⟩:=F0.1 (hw w (za3 he));obtain⟨a1,a2,a3⟩:=A5E w2 (by omega);have hb:=Qe (l.take k) (fun x hx=>hw x (List.mem_of_mem_take hx));rw[zf2]at hb;have hmin:((min k l.length:Nat):Int)<=4:=by omega
  refine⟨(),?_,trivial⟩
  show Ek zF l (D1 (l.take k)) (l.length:Int) (k:Int)=_;unfold Ek;rw[zp (by omega),cT,AW hk,obs,show AY l k=some w from he,obs,a1,obs,Ab (by omega) (by omega),AA (by omega),List.take_add_one,he];show _=some (Sum.inl (zF,(l,(D1 (l.take k++[w]),_))));rw[Al0]) (by
  intro _ _;show Ek zF l (D1 (l.take l.length)) (l.length:Int) (l.length:Int)=_;unfold Ek;rw[zq (by omega),cF,List.take_length]) 0 () (by omega) trivial
 exact h1
theorem A6l{s:Str}(hs:s.length<=1048576){l:Bn}(e:DN s=(l,0,0,true))(hg:BM l=true):Ip s=some (LW (Rat.divInt (D1 l) 2))/\Sz 4 (Rat.divInt (D1 l) 2):=by
 have hn:=PS hg;have hb:=Qe l (Ts hg);have hlp:=AU0 hg;have hB:((D1 l).natAbs:Int)<B 4:=by rw[B4];omega
 have h2:((2:Int).natAbs:Int)<B 4:=by rw[B4];decide
 have hz:Sz 4 (Rat.divInt (D1 l) 2):=Mk hB h2 (by omega);refine⟨?_,hz⟩
 unfold Ip;rw[Lc (by omega),obs,e];simp only;have hlp':Ad (fun(s:(RF×(Bn×(Int×(Int×Int)))))=>Ek s.1 s.2.1 s.2.2.1 s.2.2.2.1 s.2.2.2.2) ((false,([],(false,[]))),(l,((0:Int),((l.length:Int),(0:Int)))))=some (zF,D1 l):=hlp;rw[nT,cF,hlp',obs];simp only[AO,AI];rw[Nr (by omega) (by omega),obs,Nr (by omega) (by omega),obs]
 try simp only[AO,AI]
 rw[Pi (k:=4) (by omega) hB h2 (by omega),obs]
 try simp only[AO,AI]
 rw[O6 (k:=4) (by omega) hz,obs]
theorem A1t{s:Str}(hs:s.length<=1048576){c a:Int}(e:DN s=([],c,a,false)):Ip s=some (zF,false):=by
 unfold Ip;rw[Lc (by omega),obs,e];simp only;rw[nF,cT];rfl
end
section
open Go
theorem Vh(n:Int):Rat.divInt n 2=(n:Rat)/2:=by rw[Rat.divInt_eq_div];rfl
theorem AQ8{l:Bn}(h:∀w∈l,FD w=true)(hl:l.length<=4):Sz 4 ((D1 l:Rat)/2):=by
 have hb:=Qe l h;rw[<-Vh];exact Mk (k:=4) (by rw[B4];omega) (by rw[B4];decide) (by omega)
theorem AN7{l:Bn}(hg:BM l=true):Ad (fun(s:(RF×(RF×(Bn×(Int×Int)))))=>Eo s.1 s.2.1 s.2.2.1 s.2.2.2.1 s.2.2.2.2) (zF,(rqF 0,(l,((l.length:Int),(0:Int)))))=some (zF,rqF ((D1 l:Rat)/2)):=by
 have hn:=PS hg;have hw:=Ts hg;obtain⟨_,h1,_⟩:=CK (body:=fun(s:(RF×(RF×(Bn×(Int×Int)))))=>Eo s.1 s.2.1 s.2.2.1 s.2.2.2.1 s.2.2.2.2) (fun k (_:Unit)=>(zF,(rqF ((D1 (l.take k):Rat)/2),(l,((l.length:Int),(k:Int)))))) (fun _=>(zF,rqF ((D1 l:Rat)/2))) (fun _ _=>True) l.length (by
  intro k _ hk _;have he:l[k]? =some l[k]:=za1 hk;generalize l[k]=w at he;have hx:=hw w (za3 he);have h12:=(F0.1 hx).1.2;have hz:=As6 hx;have s1:Sz 4 ((D1 (l.take k):Rat)/2):=AQ8 (fun x hx=>hw x (List.mem_of_mem_take hx)) (by rw[zf2];omega);have s2:Sz 4 (((D1 [w]:Int):Rat)/2):=AQ8 (fun x h=>by rw[zd1.1 h];exact hx) (by simp);have e2:D1 [w]=Mp w:=by simp[D1]
  rw[e2]at s2;refine⟨(),?_,trivial⟩
  show Eo zF (rqF ((D1 (l.take k):Rat)/2)) l (l.length:Int) (k:Int)=_;unfold Eo;rw[zp (by omega),cT,Af,he,obs,AI5 (by omega) (Aw0 hx),obs,(Vm hz).1,obs,AE5];simp only[AO,AI];rw[GY (k:=4) (by omega) s1 s2,obs,AA (by omega),List.take_add_one,he];show _=some (Sum.inl (zF,(rqF ((D1 (l.take k++[w]):Rat)/2),_)));rw[Al0,Rat.intCast_add,show((D1 (l.take k):Rat)+(Mp w:Rat))/2=(D1 (l.take k):Rat)/2+(Mp w:Rat)/2 by grind]) (by
  intro _ _;show Eo zF (rqF ((D1 (l.take l.length):Rat)/2)) l (l.length:Int) (l.length:Int)=_;unfold Eo;rw[zq (by omega),cF,List.take_length]) 0 () (by omega) trivial
 have e0:((D1 (l.take 0):Int):Rat)/2=0:=by
  rw[List.take_zero];show((0:Int):Rat)/2=0
  grind
 simp only[e0]at h1;exact h1
theorem A0l{s:Str}(hs:s.length<=1048576){l:Bn}(e:DN s=(l,0,0,true))(hg:BM l=true):Ig s=some (LW ((D1 l:Rat)/2))/\Sz 4 ((D1 l:Rat)/2):=by
 have hn:=PS hg;have hz:Sz 4 ((D1 l:Rat)/2):=AQ8 (Ts hg) (by omega);refine⟨?_,hz⟩
 unfold Ig;rw[IY (by omega),obs,e];simp only;have lp:=AN7 hg;rw[nT,cF,PX,obs];simp only[AO,AI];rw[show Ad (fun(s:(RF×(RF×(Bn×(Int×Int)))))=>Eo s.1 s.2.1 s.2.2.1 s.2.2.2.1 s.2.2.2.2) ((false,([],(false,[]))),(rqF 0,(l,((l.length:Int),(0:Int)))))=_ from lp,obs]
 try simp only[AO,AI]
 rw[JN,obs]
theorem AD8{s:Str}(hs:s.length<=1048576){c a:Int}(e:DN s=([],c,a,false)):Ig s=some (zF,false):=by
 unfold Ig;rw[IY (by omega),obs,e];simp only;rw[nF,cT];rfl
end
section
open Go
theorem A5U:∀(us qs r:List Rat),us.length=qs.length->EG us qs=some r->Eg r=Eg us+Eg qs:=by
 intro us
 induction us with
 |nil=>
  intro qs r hl h;cases qs with
  |nil=>rw[AM5]at h;rw[<-zv h];show(0:Rat)=0+0;grind
  |cons q qs=>exact absurd hl (by simp)
 |cons a us ih=>
  intro qs r hl h;cases qs with
  |nil=>exact absurd hl (by simp)
  |cons q qs=>
   rw[JT]at h;by_cases hz:Sz 40 (a+q)
   ·rw[zr hz]at h;cases hr:EG us qs with
    |none=>rw[hr]at h;exact absurd h (by simp)
    |some r'=>
     rw[hr,zd4]at h;have:=ih qs r' (by simpa using hl) hr;rw[<-zv h];show(a+q)+Eg r'=(a+Eg us)+(q+Eg qs);rw[this]
     grind
   ·rw[zw hz]at h;exact absurd h (by simp)
theorem A06:∀n:Nat,Eg (zer n)=0
 |0=>rfl
 |n+1=>by
  rw[AC5,Lo,A06 n];show(0:Rat)+(0+0)=0
  grind
def inW(w:Bp)(x:List P2):Prop:=∀p∈x,w.1<=p.1/\p.1<=w.1+w.2.2.1/\w.2.1<=p.2/\p.2<=w.2.1+w.2.2.2
theorem A8U{x y x' y':Int}{l:List P2}(h:∀p∈l,x<=p.1/\p.1<=x'/\y<=p.2/\p.2<=y'):Ik (Bw x y) (Bw x' y') (l.map ptQ)=l.map ptQ:=by
 have all:∀(b high:Bool)(s:Int),(∀p∈l,if high then s<=(if b then p.2 else p.1)else(if b then p.2 else p.1)<=s)->Bi b high (s:Rat) (l.map ptQ)=l.map ptQ:=by
  intro b high s hs;refine Ar8 fun q hq=> ?_
  obtain⟨p,hp,rfl⟩:=zd2.1 hq;have:=hs p hp;unfold ins;cases b<;>cases high<;>simp[crd,ptQ]at this⊢ <;>exact Rat.intCast_le_intCast.2 this
 unfold Ik;rw[show(Bw x y).1=(x:Rat)from rfl,show(Bw x' y').1=(x':Rat)from rfl,show(Bw x y).2=(y:Rat)from rfl,show(Bw x' y').2=(y':Rat)from rfl];rw[all false true x (fun p hp=>by have:=h p hp;simp;omega),all false false x' (fun p hp=>by have:=h p hp;simp;omega),all true true y (fun p hp=>by have:=h p hp;simp;omega),all true false y' (fun p hp=>by have:=h p hp;simp;omega)]
theorem A7f{x:List P2}{w:Bp}(hw:CR w=true)(hin:inW w x){qs:List Rat}(h:shW w x=some qs):Eg qs=((Mp x:Int):Rat)/2:=by
 obtain⟨_,_,g3,g4⟩:=CC.1 hw;unfold shW at h
 split at h
 ·obtain⟨m,hm⟩:∃m,w.2.2.1.toNat=m+1:=⟨w.2.2.1.toNat-1,by omega⟩;obtain⟨n,hn⟩:∃n,w.2.2.2.toNat=n+1:=⟨w.2.2.2.toNat-1,by omega⟩;have e:=zv h;rw[hm,hn]at e;rw[<-e,Ak8,Ai6,A8U,AE5];intro p hp;have:=hin p hp;omega
 ·exact absurd h (by simp)
theorem A0C{w:Bp}(hw:CR w=true):∀(l:Bn)(acc r:List Rat),(∀x∈l,FD x=true)->(∀x∈l,inW w x)->acc.length=nW w->S4 w l acc=some r->Eg r=Eg acc+((D1 l:Int):Rat)/2
 |[],acc,r,_,_,_,h=>by
  rw[<-zv h];show Eg acc=Eg acc+((0:Int):Rat)/2
  grind
 |x::l,acc,r,hg,hin,hl,h=>by
  obtain⟨_,_,k⟩:=ZE (hg x (by simp)) hw;rw[S4]at h;cases hs:shW w x with
  |none=>rw[hs]at h;exact absurd h (by simp)
  |some qs=>
   obtain⟨k1,k2⟩:=k qs hs;rw[hs,obs]at h;cases ha:EG acc qs with
   |none=>rw[ha]at h;exact absurd h (by simp)
   |some r'=>
    obtain⟨a1,a2⟩:=Kl acc qs r' (by omega) ha;rw[ha,obs]at h;have ih:=A0C hw l r' r (fun y hy=>hg y (by simp[hy])) (fun y hy=>hin y (by simp[hy])) (by omega) h;rw[ih,A5U acc qs r' (by omega) ha,A7f hw (hin x (by simp)) hs,D1,Rat.intCast_add]
    grind
end
section
open Go
def Ei{α:Type}(d:α)(W dx dy W' n:Nat)(l:List α):List α:=(List.range (W'*n)).map fun k=>l.getD ((k/W'+dy)*W+(k%W'+dx)) d
theorem W9{α:Type}(d:α)(W dx dy W' n:Nat)(l:List α):(Ei d W dx dy W' n l).length=W'*n:=by simp[Ei]
theorem AI3{α β:Type}(f:α->β)(d:α)(W dx dy W' n:Nat)(l:List α):(Ei d W dx dy W' n l).map f=Ei (f d) W dx dy W' n (l.map f):=by
 unfold Ei;rw[List.map_map];refine List.map_congr_left fun k _=> ?_
 show f (l.getD _ d)=(l.map f).getD _ (f d);rw[zb4,zb4,zc9];cases l[(k/W'+dy)*W+(k%W'+dx)]? <;>rfl
theorem AU9{W H W' H' dx dy k:Nat}(hW:W=dx+W')(hH:H=dy+H')(hk:k<W'*H'):(k/W'+dy)*W+(k%W'+dx)<W*H/\((k/W'+dy)*W+(k%W'+dx))/W=k/W'+dy/\((k/W'+dy)*W+(k%W'+dx))%W=k%W'+dx:=by
 have h0:0<W':=by
  rcases Nat.eq_zero_or_pos W' with h|h
  ·rw[h,Nat.zero_mul]at hk;omega
  ·exact h
 have h1:k/W'<H':=(Nat.div_lt_iff_lt_mul h0).2 (by rw[Nat.mul_comm];exact hk);have h2:k%W'<W':=Nat.mod_lt _ h0;have h3:(k/W'+dy+1)*W<=H*W:=Nat.mul_le_mul (by omega) (za8 _);refine⟨?_,?_,?_⟩
 ·rw[Nat.succ_mul]at h3;rw[Nat.mul_comm W H];omega
 ·rw[Nat.mul_comm,Nat.mul_add_div (by omega),Nat.div_eq_of_lt (show k%W'+dx<W by omega),Nat.add_zero]
 ·rw[Nat.mul_comm,Nat.mul_add_mod,Nat.mod_eq_of_lt (show k%W'+dx<W by omega)]
theorem Ax9(ps:List Q2)(y:Int):∀(n:Nat)(x:Int)(k:Nat),k<n->(RY ps y n x)[k]? =some (sqA ps (x+(k:Int)) y)
 |0,_,k,h=>by omega
 |n+1,x,0,h=>by
  rw[RY,show x+((0:Nat):Int)=x by omega];rfl
 |n+1,x,k+1,h=>by
  rw[RY,List.getElem?_cons_succ,Ax9 ps y n (x+1) k (by omega),show x+1+(k:Int)=x+((k+1:Nat):Int) by omega]
theorem Zb(ps:List Q2){w:Nat}(hw:0<w)(x:Int):∀(n:Nat)(y:Int)(k:Nat),k<w*n->(Oj ps w x n y)[k]? =some (sqA ps (x+((k%w:Nat):Int)) (y+((k/w:Nat):Int)))
 |0,y,k,h=>by rw[Nat.mul_zero]at h;omega
 |n+1,y,k,h=>by
  rw[Oj];by_cases hk:k<w
  ·rw[zd9 (by rw[Mz];exact hk),Ax9 ps y w x k hk,Nat.mod_eq_of_lt hk,Nat.div_eq_of_lt hk,show y+((0:Nat):Int)=y by omega]
  ·rw[List.getElem?_append_right (by rw[Mz];omega),Mz];have e1:k%w=(k-w)%w:=Nat.mod_eq_sub_mod (by omega);have e2:k/w=(k-w)/w+1:=Nat.div_eq_sub_div hw (by omega);rw[Nat.mul_succ]at h;rw[Zb ps hw x n (y+1) (k-w) (by omega),e1,e2,show y+1+(((k-w)/w:Nat):Int)=y+(((k-w)/w+1:Nat):Int) by omega]
theorem A3x(ps:List Q2){W H W' H' dx dy:Nat}(hW:W=dx+W')(hH:H=dy+H')(h0:0<W')(x y:Int):Ei 0 W dx dy W' H' (Oj ps W x H y)=Oj ps W' (x+(dx:Int)) H' (y+(dy:Int)):=by
 refine List.ext_getElem? fun k=> ?_
 by_cases hk:k<W'*H'
 ·obtain⟨i1,i2,i3⟩:=AU9 hW hH hk;rw[Zb ps h0 _ H' _ k hk];unfold Ei;rw[zc9,List.getElem?_range hk];show some ((Oj ps W x H y).getD ((k/W'+dy)*W+(k%W'+dx)) 0)=_;rw[zb4,Zb ps (by omega) x H y _ i1,i2,i3];show some (sqA ps _ _)=some (sqA ps _ _);rw[show x+((k%W'+dx:Nat):Int)=x+(dx:Int)+((k%W':Nat):Int) by omega,show y+((k/W'+dy:Nat):Int)=y+(dy:Int)+((k/W':Nat):Int) by omega]
 ·rw[ze8 (by rw[W9];omega),ze8 (by rw[Y9];omega)]
theorem A4w:∀(us qs r:List Rat),us.length=qs.length->EG us qs=some r->∀m,m<us.length->r.getD m 0=us.getD m 0+qs.getD m 0/\Sz 40 (us.getD m 0+qs.getD m 0):=by
 intro us
 induction us with
 |nil=>intro qs r _ _ m hm;exact absurd hm (by simp)
 |cons a us ih=>
  intro qs r hl h m hm;cases qs with
  |nil=>exact absurd hl (by simp)
  |cons q qs=>
   rw[JT]at h;by_cases hz:Sz 40 (a+q)
   ·rw[zr hz]at h;cases hr:EG us qs with
    |none=>rw[hr]at h;exact absurd h (by simp)
    |some r'=>
     rw[hr,zd4]at h;rw[<-zv h];cases m with
     |zero=>exact⟨rfl,hz⟩
     |succ m=>
      have:=ih qs r' (by simpa using hl) hr m (by simpa using hm);simpa using this
   ·rw[zw hz]at h;exact absurd h (by simp)
theorem AL9(f g:Nat->Rat):∀(L:List Nat),(∀k∈L,Sz 40 (f k+g k))->EG (L.map f) (L.map g)=some (L.map fun k=>f k+g k)
 |[],_=>rfl
 |k::L,h=>by
  rw[zb9,zb9,JT,zr (h k (by simp)),AL9 f g L (fun j hj=>h j (by simp[hj]))];rfl
theorem A2w{W H W' H' dx dy:Nat}(hW:W=dx+W')(hH:H=dy+H'){us qs r:List Rat}(h1:us.length=W*H)(h2:qs.length=W*H)(h:EG us qs=some r):EG (Ei 0 W dx dy W' H' us) (Ei 0 W dx dy W' H' qs)=some (Ei 0 W dx dy W' H' r):=by
 have g:=A4w us qs r (by omega) h;unfold Ei;rw[AL9]
 ·congr 1
  refine List.map_congr_left fun k hk=> ?_
  have hk:=List.mem_range.1 hk;exact(g _ (by rw[h1];exact(AU9 hW hH hk).1)).1.symm
 ·intro k hk;have hk:=List.mem_range.1 hk;exact(g _ (by rw[h1];exact(AU9 hW hH hk).1)).2
theorem A5i{W H W' H' dx dy:Nat}:Ei 0 W dx dy W' H' (zer (W*H))=zer (W'*H'):=by
 unfold Ei zer;rw[List.eq_replicate_iff];refine⟨by simp,fun x hx=> ?_⟩
 obtain⟨k,_,rfl⟩:=zd2.1 hx;rw[zb4,List.getElem?_replicate]
 split<;>rfl
theorem Ai3{l:List RPt}{y:Int}:∀(n:Nat)(x:Int),(∀i:Nat,i<n->(shV l (x+(i:Int)) y).2=true)->∃r,JG l y n x=some r
 |0,x,_=>⟨[],rfl⟩
 |n+1,x,h=>by
  have h0:=h 0 (by omega);rw[show x+((0:Nat):Int)=x by omega]at h0;obtain⟨r,hr⟩:=Ai3 n (x+1) (fun i hi=>by
   have:=h (i+1) (by omega)
   rwa[show x+((i+1:Nat):Int)=x+1+(i:Int) by omega]at this)
  exact⟨_,by rw[JG,zr h0,hr];rfl⟩
theorem Ab6{l:List RPt}{w:Nat}{x:Int}:∀(n:Nat)(y:Int),(∀j i:Nat,j<n->i<w->(shV l (x+(i:Int)) (y+(j:Int))).2=true)->∃r,Ha l w x n y=some r
 |0,y,_=>⟨[],rfl⟩
 |n+1,y,h=>by
  obtain⟨r1,h1⟩:=Ai3 (l:=l) (y:=y) w x (fun i hi=>by
   have:=h 0 i (by omega) hi
   rwa[show y+((0:Nat):Int)=y by omega]at this)
  obtain⟨r2,h2⟩:=Ab6 n (y+1) (fun j i hj hi=>by
   have:=h (j+1) i (by omega) hi
   rwa[show y+((j+1:Nat):Int)=y+1+(j:Int) by omega]at this)
  exact⟨r1++r2,by rw[Ha,h1,obs,h2];rfl⟩
theorem Ag9{l:List RPt}(hl:l.length<=1000)(hb:∀x∈l,BrP x){w:Bp}(hg:G8 l=true)(hw:CR w=true):BR l w=some (match Ha l w.2.2.1.toNat w.1 w.2.2.2.toNat w.2.1 with|some r=>(r,true)|none=>(([]:List RQ),false)):=by
 obtain⟨w1,w2,w3,w4⟩:=CC.1 hw;have il:=Ry hl hb (w:=w) (by omega) (by omega) (by omega) (by omega) w.2.2.2.toNat w.2.1 [] (by omega) (by omega) (by simp;omega);unfold BR;simp only[AO,AI];have il':Ad (fun(s:(Bp×((List RQ)×((List RPt)×Int))))=>Bz s.1 s.2.1 s.2.2.1 s.2.2.2) (w,((List.nil:List RQ),(l,w.2.1)))=_:=il;rw[C0 (by omega) hb,obs,hg,nT,cF,Ce,obs,hw,nT,cF,il',obs];cases Ha l w.2.2.1.toNat w.1 w.2.2.2.toNat w.2.1 with
 |none=>rfl
 |some r=>rfl
def A9(w:Bp)(dx dy:Nat):Bp:=(w.1+(dx:Int),w.2.1+(dy:Int),w.2.2.1-(dx:Int),w.2.2.2-(dy:Int))
section
variable {w:Bp} {dx dy:Nat} (hw:CR w=true) (hp:CR (A9 w dx dy)=true)
include hw hp
theorem UT:w.2.2.1.toNat=dx+(A9 w dx dy).2.2.1.toNat/\w.2.2.2.toNat=dy+(A9 w dx dy).2.2.2.toNat/\0<(A9 w dx dy).2.2.1.toNat:=by
 obtain⟨_,_,g3,g4⟩:=CC.1 hw;obtain⟨_,_,p3,p4⟩:=CC.1 hp;unfold A9 at*
 simp only at*
 omega
theorem A5F{x:List P2}(hx:FD x=true){qs:List Rat}(h:shW w x=some qs):shW (A9 w dx dy) x=some (Ei 0 w.2.2.1.toNat dx dy (A9 w dx dy).2.2.1.toNat (A9 w dx dy).2.2.2.toNat qs):=by
 have hz:=As6 hx;have h40:=hz.1;obtain⟨g1,g2,g3,g4⟩:=CC.1 hw;obtain⟨p1,p2,p3,p4⟩:=CC.1 hp;obtain⟨e1,e2,e3⟩:=UT hw hp;have hlen:((x.map ptQ).map rp).length<=1000:=by rw[zd0];omega
 have hbr:∀y∈(x.map ptQ).map rp,BrP y:=OX (k:=8) (by omega) hz.2;have hgr:G8 ((x.map ptQ).map rp)=true:=GT.2 hz;have i1:=Ag9 hlen hbr hgr hw;have i2:=Ag9 hlen hbr hgr hp;unfold shW at h;rw[i1]at h;cases hv:Ha ((x.map ptQ).map rp) w.2.2.1.toNat w.1 w.2.2.2.toNat w.2.1 with
 |none=>
  rw[hv,zw (by simp)]at h;exact absurd h (by simp)
 |some r=>
  rw[hv,zr (by rfl)]at h;obtain⟨_,_,j3⟩:=AY7 hz rfl (w:=w.2.2.1.toNat) (x:=w.1) (by omega) w.2.2.2.toNat w.2.1 r (by omega) (by omega) hv;obtain⟨r',hr'⟩:=Ab6 (l:=(x.map ptQ).map rp) (w:=(A9 w dx dy).2.2.1.toNat) (x:=(A9 w dx dy).1) (A9 w dx dy).2.2.2.toNat (A9 w dx dy).2.1 (fun j i hj hi=>by
   have:=(j3 (j+dy) (i+dx) (by omega) (by omega)).1;rw[show w.1+((i+dx:Nat):Int)=(A9 w dx dy).1+(i:Int) by unfold A9;simp only;omega,show w.2.1+((j+dy:Nat):Int)=(A9 w dx dy).2.1+(j:Int) by unfold A9;simp only;omega]at this;exact this)
  unfold shW;rw[i2,hr',zr (by rfl),<-zv h]
  congr 1
  have cm:=AI3 (fun a:Rat=>a/2) 0 w.2.2.1.toNat dx dy (A9 w dx dy).2.2.1.toNat (A9 w dx dy).2.2.2.toNat (Oj (x.map ptQ) w.2.2.1.toNat w.1 w.2.2.2.toNat w.2.1);rw[show((0:Rat)/2)=0 by grind,A3x (x.map ptQ) e1 e2 e3]at cm;exact cm
theorem AF4:∀(l:Bn)(acc r:List Rat),(∀x∈l,FD x=true)->acc.length=nW w->S4 w l acc=some r->S4 (A9 w dx dy) l (Ei 0 w.2.2.1.toNat dx dy (A9 w dx dy).2.2.1.toNat (A9 w dx dy).2.2.2.toNat acc)=some (Ei 0 w.2.2.1.toNat dx dy (A9 w dx dy).2.2.1.toNat (A9 w dx dy).2.2.2.toNat r)
 |[],acc,r,_,_,h=>by
  rw[<-zv h];rfl
 |x::l,acc,r,hg,hl,h=>by
  obtain⟨e1,e2,e3⟩:=UT hw hp;obtain⟨_,_,k⟩:=ZE (hg x (by simp)) hw;rw[S4]at h;cases hs:shW w x with
  |none=>rw[hs]at h;exact absurd h (by simp)
  |some qs=>
   obtain⟨k1,k2⟩:=k qs hs;rw[hs,obs]at h;cases ha:EG acc qs with
   |none=>rw[ha]at h;exact absurd h (by simp)
   |some r'=>
    obtain⟨a1,a2⟩:=Kl acc qs r' (by omega) ha;rw[ha,obs]at h;rw[S4,A5F hw hp (hg x (by simp)) hs,obs,A2w e1 e2 hl k1 ha,obs];exact AF4 l r' r (fun y hy=>hg y (by simp[hy])) (by omega) h
theorem A1X{s:Str}{r:List Rat}(h:LF s w=some r):LF s (A9 w dx dy)=some (Ei 0 w.2.2.1.toNat dx dy (A9 w dx dy).2.2.1.toNat (A9 w dx dy).2.2.2.toNat r):=by
 unfold LF at h⊢
 split at h
 ·rename_i hc;rw[zr ⟨hc.1,hp⟩];rcases Iq s with⟨l,e,hg⟩|⟨c,a,e,hc'⟩
  ·rw[e]at h⊢
   have:=AF4 hw hp l _ r (MH hg) (by simp[zer]) h;rw[show zer (nW w)=zer (w.2.2.1.toNat*w.2.2.2.toNat)from rfl,A5i]at this;exact this
  ·rw[e]at hc;exact absurd hc.1 (by simp)
 ·exact absurd h (by simp)
end
end
section
open Go
theorem AI0{l:List Int}(hl:l.length<4611686018427387904)(hb:∀x∈l,0<=x/\x<=255):JE l=some true:=by
 obtain⟨h1,_⟩:=EM (l:=l) (st:=fun k=>(l,((l.length:Int),(k:Int)))) (p:=fun x=>CN x 0 255) (body:=fun(s:((List Int)×(Int×Int)))=>Aw s.1 s.2.1 s.2.2) (fin:=.inl ()) (bad:=fun k=>.inr (k:Int))
  (by
   intro k a hk ha;have:=Dt hk;show Aw l (l.length:Int) (k:Int)=_;unfold Aw HK;rw[zp (by omega),cT,Af,hk,obs,LV,obs,ha,nT,obs,cF,AA (by omega)])
  (by
   intro k a hk ha;have:=Dt hk;show Aw l (l.length:Int) (k:Int)=_;unfold Aw HK;rw[zp (by omega),cT,Af,hk,obs,LV,obs,ha,nF,obs,cT])
  (by
   show Aw l (l.length:Int) (l.length:Int)=_;unfold Aw;rw[zq (by omega)];rfl)
 have ha:l.all (fun x=>CN x 0 255)=true:=za5.2 fun x hx=>Iv.2 (hb x hx)
 unfold JE Br BI;have h1':Ad (fun(s:((List Int)×(Int×Int)))=>Aw s.1 s.2.1 s.2.2) (l,((l.length:Int),(0:Int)))=_:=h1 ha;rw[h1'];rfl
theorem AL5{l:List Int}{a b:Nat}(h:a+b<=l.length):List.drop a (List.take (a+b) l)=(List.range b).map fun i=>l.getD (a+i) 0:=by
 refine List.ext_getElem? fun k=> ?_
 by_cases hk:k<b
 ·rw[zd6,zc2,zr (by omega),zc9,List.getElem?_range hk];show _=some (l.getD (a+k) 0);rw[zb4,za1 (by omega)];rfl
 ·rw[ze8 (by rw[List.length_drop,zf2];omega),ze8 (by simp;omega)]
theorem A2Q{W dx dy W' n:Nat}(h0:0<W')(l:List Int):Ei 0 W dx dy W' (n+1) l=Ei 0 W dx dy W' n l++(List.range W').map fun i=>l.getD ((dy+n)*W+dx+i) 0:=by
 unfold Ei;rw[Nat.mul_succ,List.range_add,List.map_append,List.map_map]
 congr 1
 refine List.map_congr_left fun i hi=> ?_
 have hi:=List.mem_range.1 hi;show l.getD (((W'*n+i)/W'+dy)*W+((W'*n+i)%W'+dx)) 0=_;rw[Nat.mul_add_div h0,Nat.div_eq_of_lt hi,Nat.mul_add_mod,Nat.mod_eq_of_lt hi,Nat.add_zero,Nat.add_comm n dy,show(dy+n)*W+(i+dx)=(dy+n)*W+dx+i by omega]
theorem A3Q{w:Bp}{dx dy:Nat}(hw:CR w=true)(hp:CR (A9 w dx dy)=true){bs:List Int}(hl:bs.length=nW w)(hb:∀x∈bs,0<=x/\x<=255):
  Gy w bs (A9 w dx dy)=some (Ei 0 w.2.2.1.toNat dx dy (A9 w dx dy).2.2.1.toNat (A9 w dx dy).2.2.2.toNat bs,true):=by
 obtain⟨n1,n2,n3⟩:=QU hw;obtain⟨g1,g2,g3,g4⟩:=CC.1 hw;obtain⟨p1,p2,p3,p4⟩:=CC.1 hp;obtain⟨e1,e2,e3⟩:=UT hw hp;have q1:(A9 w dx dy).1=w.1+(dx:Int):=rfl;have q2:(A9 w dx dy).2.1=w.2.1+(dy:Int):=rfl;have q3:(A9 w dx dy).2.2.1=w.2.2.1-(dx:Int):=rfl;have q4:(A9 w dx dy).2.2.2=w.2.2.2-(dy:Int):=rfl;generalize A9 w dx dy=v at hp p1 p2 p3 p4 e1 e2 e3 q1 q2 q3 q4⊢
 have hWW:w.2.2.1=(w.2.2.1.toNat:Int):=by omega
 have nn:w.2.2.1.toNat*w.2.2.2.toNat=nW w:=rfl;obtain⟨_,lp,_⟩:=CK (body:=fun(s:(Bp×(Bp×((List Int)×((List Int)×(Int×(Int×(Int×Int))))))))=>EF s.1 s.2.1 s.2.2.1 s.2.2.2.1 s.2.2.2.2.1 s.2.2.2.2.2.1 s.2.2.2.2.2.2.1 s.2.2.2.2.2.2.2)
  (fun k (_:Unit)=>(w,(v,(Ei 0 w.2.2.1.toNat dx dy v.2.2.1.toNat k bs,(bs,((dx:Int),((dy:Int),(v.2.2.2,(k:Int))))))))) (fun _=>Ei 0 w.2.2.1.toNat dx dy v.2.2.1.toNat v.2.2.2.toNat bs) (fun _ _=>True) v.2.2.2.toNat (by
  intro k _ hk _;refine⟨(),?_,trivial⟩
  have a1:(dy+k)*w.2.2.1.toNat<=8*8:=Nat.mul_le_mul (by omega) (by omega);have a2:(dy+k+1)*w.2.2.1.toNat<=w.2.2.2.toNat*w.2.2.1.toNat:=Nat.mul_le_mul (by omega) (za8 _);have a3:(dy+k)*w.2.2.1.toNat+dx+v.2.2.1.toNat<=bs.length:=by
   rw[Nat.succ_mul,Nat.mul_comm w.2.2.2.toNat]at a2;omega
  have m1:((dy:Int)+(k:Int))*w.2.2.1=(((dy+k)*w.2.2.1.toNat:Nat):Int):=by rw[hWW,Int.natCast_mul,Int.natCast_add];rfl
  have c1:=W9 (0:Int) w.2.2.1.toNat dx dy v.2.2.1.toNat k bs;have c2:v.2.2.1.toNat*k<=8*8:=Nat.mul_le_mul (by omega) (by omega);show EF w v (Ei 0 w.2.2.1.toNat dx dy v.2.2.1.toNat k bs) bs (dx:Int) (dy:Int) v.2.2.2 (k:Int)=_;unfold EF;rw[zp (by omega),cT,Ab (n:=(dy:Int)+(k:Int)) (by omega) (by omega),m1,Ab (n:=(((dy+k)*w.2.2.1.toNat:Nat):Int)) (by omega) (by omega),Ab (n:=(((dy+k)*w.2.2.1.toNat:Nat):Int)+(dx:Int)) (by omega) (by omega),Ab (by omega) (by omega)];rw[Af9 (a:=(dy+k)*w.2.2.1.toNat+dx) (b:=(dy+k)*w.2.2.1.toNat+dx+v.2.2.1.toNat) (by omega) (by omega) (by omega) a3,obs];simp only
  rw[AL5 a3,D2 (by simp[Ae];omega) (by simp[Ae];omega),obs,<-A2Q e3,AA (by omega)]) (by
  intro _ _;show EF w v (Ei 0 w.2.2.1.toNat dx dy v.2.2.1.toNat v.2.2.2.toNat bs) bs (dx:Int) (dy:Int) v.2.2.2 (v.2.2.2.toNat:Int)=_;unfold EF;rw[zq (by omega),cF]) 0 () (by omega) trivial
 have lp':Ad (fun(s:(Bp×(Bp×((List Int)×((List Int)×(Int×(Int×(Int×Int))))))))=>EF s.1 s.2.1 s.2.2.1 s.2.2.2.1 s.2.2.2.2.1 s.2.2.2.2.2.1 s.2.2.2.2.2.2.1 s.2.2.2.2.2.2.2) (w,(v,((List.nil:List Int),(bs,((dx:Int),((dy:Int),(v.2.2.2,(0:Int))))))))=_:=lp;unfold Gy;simp only[AI];rw[Ce,obs,hw,nT,cF,Ce,obs,hp,nT,cF,n1,Ab (n:=(nW w:Int)) (by omega) (by omega),hl,bne_self_eq_false,cF,AI0 (by omega) hb,obs,nT,cF];rw[Ab (n:=v.1-w.1) (by omega) (by omega),Ab (n:=v.2.1-w.2.1) (by omega) (by omega),Ab (n:=v.1-w.1+v.2.2.1) (by omega) (by omega),Ab (n:=v.2.1-w.2.1+v.2.2.2) (by omega) (by omega)]
 rw[zq (by omega),cF,zq (by omega),cF,zq (by omega),cF,zq (by omega),cF,show v.1-w.1=(dx:Int) by omega,show v.2.1-w.2.1=(dy:Int) by omega,lp',obs]
end
section
open Go
def GWf(ways:List Wy):Prop:=∀w∈ways,3<=w.length/\w.length<=1000
def WF(ways:List Wy)(way:Wy):CV->Prop
 |.inl _=>True
 |.inr (_,ways',_)=>ways'=ways\/(ways'=ways++[way]/\3<=way.length)
theorem A8W(j:Nat)(ways:List Wy)(way:Wy)(p:Pn):WF ways way (ptV GN j ways way p):=by
 unfold ptV
 split
 ·exact .inl rfl
 ·exact trivial
theorem A3P(W:List Str)(j:Nat)(ways:List Wy)(way:Wy)(f:Int->Pn):WF ways way (one W j ways way f):=by
 unfold one
 split
 ·exact trivial
 ·exact A8W _ _ _ _
theorem A8d(W:List Str)(j:Nat)(ways:List Wy)(way:Wy)(f:Int->Int->Pn):WF ways way (two W j ways way f):=by
 unfold two
 split
 ·exact trivial
 ·exact A3P _ _ _ _ _
theorem A8r(W:List Str)(i:Nat)(w:Str)(ways:List Wy)(way:Wy):WF ways way (Cj W i ways way w):=by
 unfold Cj
 repeat' split
 all_goals first
  |exact trivial
  |exact A8d _ _ _ _ _
  |exact A3P _ _ _ _ _
  |exact .inr ⟨rfl,by omega⟩
theorem A5K{W:List Str}(hW:W.length<=1000)(hs:∀w∈W,w.length<=1000):∀(n i:Nat)(ways:List Wy)(way:Wy)(v:List Wy×Wy),i<=W.length->way.length<=i->GWf ways->Fa W n i ways way=.inr v->GWf v.1:=by
 intro n
 induction n with
 |zero=>intro i ways way v hi h1 hg h;unfold Fa at h;cases h;exact hg
 |succ n ih=>
  intro i ways way v hi h1 hg h;unfold Fa at h;cases he:W[i]? with
  |none=>rw[he]at h;cases h;exact hg
  |some w=>
   rw[he]at h;simp only at h;have hf:=As7 hW hs he ways way;have hw:=A8r W i w ways way;cases hz:Cj W i ways way w with
   |inl e=>rw[hz]at h;cases h
   |inr u=>
    obtain⟨j,ways',way'⟩:=u;rw[hz]at h hf hw;obtain⟨f1,f2,f3,f4⟩:=hf;refine ih j ways' way' v f2 (by omega) ?_ h
    rcases hw with rfl|⟨rfl,h3⟩
    ·exact hg
    ·intro x hx;rcases zb2.1 hx with hx|hx
     ·exact hg x hx
     ·cases zd1.1 hx
      exact⟨h3,by omega⟩
theorem AK5(s:Str):GWf (DN s).1/\(DN s).1.length<=1000:=by
 unfold DN
 split
 ·rename_i hb;have hc:=Pe (c:=32) s.length s (za8 _);have hl:∀w∈Aj 32 s,w.length<=1000:=fun w hw=>by have:=Ua s.length s (za8 _) w hw;omega
  split
  ·exact⟨fun w hw=>absurd hw zf3,by simp⟩
  ·rename_i ways way hz;have h1:=A5K (W:=Aj 32 s) (by omega) hl _ _ _ _ _ (by omega) (by simp) (fun w hw=>absurd hw zf3) hz;have h2:ways.length<=(Aj 32 s).length:=by
    have key:∀(n i:Nat)(ways:List Wy)(way:Wy)(v:List Wy×Wy),i<=(Aj 32 s).length->ways.length<=i->Fa (Aj 32 s) n i ways way=.inr v->v.1.length<=(Aj 32 s).length:=by
     intro n
     induction n with
     |zero=>intro i ways way v hi h1 h;unfold Fa at h;cases h;simp only;omega
     |succ n ih=>
      intro i ways way v hi h1 h;unfold Fa at h;cases he:(Aj 32 s)[i]? with
      |none=>rw[he]at h;cases h;simp only;omega
      |some w=>
       rw[he]at h;simp only at h;have hf:=As7 (W:=Aj 32 s) (by omega) hl he ways way;cases hz:Cj (Aj 32 s) i ways way w with
       |inl e=>rw[hz]at h;cases h
       |inr u=>
        obtain⟨j,ways',way'⟩:=u;rw[hz]at h hf;obtain⟨f1,f2,f3,f4⟩:=hf;exact ih j ways' way' v f2 (by omega) h
    exact key _ _ _ _ _ (by omega) (by simp) hz
   split
   ·exact⟨fun w hw=>absurd hw zf3,by simp⟩
   ·exact⟨h1,by simp only;omega⟩
 ·exact⟨fun w hw=>absurd hw zf3,by simp⟩
abbrev Win:=Int×(Int×(Int×Int))
def okP(x y xw yh:Int)(p:Pn):Bool:=decide (x<=p.1/\p.1<=xw)&&decide (y<=p.2/\p.2<=yh)
structure BoxOf (w:Wy) (lo hi:Pn):Prop where
 a:∃p∈w,p.1=lo.1
 b:∃p∈w,p.2=lo.2
 c:∃p∈w,p.1=hi.1
 d:∃p∈w,p.2=hi.2
def Ue(lo hi p:Pn):Prop:=lo.1<=p.1/\lo.2<=p.2/\p.1<=hi.1/\p.2<=hi.2
theorem A00{w:Wy}{lo hi:Pn}(h:BoxOf w lo hi)(hall:∀p∈w,Ue lo hi p)(x y xw yh:Int):
  w.all (okP x y xw yh)=true↔¬lo.1<x/\¬lo.2<y/\¬hi.1>xw/\¬hi.2>yh:=by
 rw[za5];have e:∀p,okP x y xw yh p=true↔(x<=p.1/\p.1<=xw)/\(y<=p.2/\p.2<=yh):=fun p=>by simp[okP]
 constructor
 ·intro hk;obtain⟨p1,m1,e1⟩:=h.a;obtain⟨p2,m2,e2⟩:=h.b;obtain⟨p3,m3,e3⟩:=h.c;obtain⟨p4,m4,e4⟩:=h.d;have k1:=(e p1).1 (hk p1 m1);have k2:=(e p2).1 (hk p2 m2);have k3:=(e p3).1 (hk p3 m3);have k4:=(e p4).1 (hk p4 m4);omega
 ·intro hk p hp;have:=hall p hp;unfold Ue at this;exact(e p).2 (by omega)
def AE8(a b:Int):Int:=if a<b then a else b
def AJ4(a b:Int):Int:=if a>b then a else b
theorem A0G{w:Wy}(h0:1<=w.length)(hl:w.length<=1000):∃lo hi:Pn,Qj w=some (lo,hi)/\BoxOf w lo hi/\∀p∈w,Ue lo hi p:=by
 unfold Qj;have he0:w[0]? =some (w[0]'(by omega)):=za1 (by omega);generalize (w[0]'(by omega))=q at he0;have hq:q∈w:=za3 he0;have hg:AD w 0=some q:=he0;rw[hg,obs,obs];obtain⟨b,h1,h2,h3⟩:=CK (body:=fun(s:(Pn×(Pn×(Pn×(Pn×(Wy×(Int×Int)))))))=>I3 s.1 s.2.1 s.2.2.1 s.2.2.2.1 s.2.2.2.2.1 s.2.2.2.2.2.1 s.2.2.2.2.2.2)
  (fun k (b:Pn×Pn)=>((0,0),((0,0),(b.1,(b.2,(w,((w.length:Int),(k:Int)))))))) (fun b=>((0,0),((0,0),(b.1,b.2)))) (fun k b=>BoxOf w b.1 b.2/\∀j p,j<k->w[j]? =some p->Ue b.1 b.2 p) w.length (by
   rintro k ⟨lo,hi⟩ hk ⟨hb,hw⟩;have he:w[k]? =some w[k]:=za1 hk;generalize w[k]=p at he;have hp:p∈w:=za3 he;refine⟨((AE8 p.1 lo.1,AE8 p.2 lo.2),(AJ4 p.1 hi.1,AJ4 p.2 hi.2)),?_,⟨?_,?_,?_,?_⟩,?_⟩
   ·unfold I3;simp only;rw[zp (show(k:Int)<(w.length:Int) by omega),cT,Af,he,obs];have hw1:=AA (show k<4611686018427387904 by omega);unfold AE8 AJ4;by_cases c1:p.1<lo.1<;>by_cases c2:p.2<lo.2<;>by_cases c3:p.1>hi.1<;>by_cases c4:p.2>hi.2<;>
     simp only[c1,c2,c3,c4,hw1,decide_true,decide_false,cT,cF,obs,za9,if_true,if_false,ite_true,ite_false]
   ·simp only[AE8];split
    ·exact⟨p,hp,rfl⟩
    ·exact hb.a
   ·simp only[AE8];split
    ·exact⟨p,hp,rfl⟩
    ·exact hb.b
   ·simp only[AJ4];split
    ·exact⟨p,hp,rfl⟩
    ·exact hb.c
   ·simp only[AJ4];split
    ·exact⟨p,hp,rfl⟩
    ·exact hb.d
   ·intro j r hj hr;have mn:∀a b:Int,AE8 a b<=a/\AE8 a b<=b:=fun a b=>by unfold AE8;split<;>omega
    have mx:∀a b:Int,a<=AJ4 a b/\b<=AJ4 a b:=fun a b=>by unfold AJ4;split<;>omega
    have m1:=mn p.1 lo.1;have m2:=mn p.2 lo.2;have m3:=mx p.1 hi.1;have m4:=mx p.2 hi.2;unfold Ue;simp only;by_cases hjk:j=k
    ·subst hjk;rw[he]at hr;cases hr
     omega
    ·have:=hw j r (by omega) hr;unfold Ue at this;simp only at this;omega) (by
   rintro⟨lo,hi⟩ _;unfold I3;simp only;rw[zq (show ¬(w.length:Int)<(w.length:Int) by omega),cF]) 0 (q,q) (by omega) ⟨⟨⟨q,hq,rfl⟩,⟨q,hq,rfl⟩,⟨q,hq,rfl⟩,⟨q,hq,rfl⟩⟩,fun j p hj=>by omega⟩
 have h1':Ad (fun(s:(Pn×(Pn×(Pn×(Pn×(Wy×(Int×Int)))))))=>I3 s.1 s.2.1 s.2.2.1 s.2.2.2.1 s.2.2.2.2.1 s.2.2.2.2.2.1 s.2.2.2.2.2.2) (((0:Int),(0:Int)),(((0:Int),(0:Int)),((q.1,q.2),((q.1,q.2),(w,((w.length:Int),(0:Int)))))))=_:=h1;rw[h1',obs];refine⟨b.1,b.2,rfl,h2,fun p hp=> ?_⟩
 obtain⟨j,hj,rfl⟩:=List.getElem_of_mem hp;exact h3 j _ hj (za1 hj)
def QC(l:List Wy)(v:Win):Bool:=l.all fun w=>w.all (okP v.1 v.2.1 (zi zj (v.1+v.2.2.1)) (zi zj (v.2.1+v.2.2.2)))
theorem A8q{l:List Wy}(hl:l.length<=1000)(hg:GWf l)(v:Win):Ad (fun(s:(Win×((List Wy)×(Int×Int))))=>Df s.1 s.2.1 s.2.2.1 s.2.2.2) ((v.1,(v.2.1,(v.2.2.1,v.2.2.2))),(l,((l.length:Int),(0:Int))))=some (if QC l v then .inl ()else .inr (false,true)):=by
 have key:=EM (body:=fun(s:(Win×((List Wy)×(Int×Int))))=>Df s.1 s.2.1 s.2.2.1 s.2.2.2) (l:=l) (st:=fun k=>((v.1,(v.2.1,(v.2.2.1,v.2.2.2))),(l,((l.length:Int),(k:Int)))))
  (p:=fun w=>w.all (okP v.1 v.2.1 (zi zj (v.1+v.2.2.1)) (zi zj (v.2.1+v.2.2.2)))) (fin:=.inl ()) (bad:=fun k=>.inr (false,true))
  (fun k w hk hp=>by
   have hlt:=Dt hk;have hgw:=hg w (za3 hk);obtain⟨lo,hi,hb,hB,hA⟩:=A0G (w:=w) (by omega) hgw.2;obtain⟨c1,c2,c3,c4⟩:=(A00 hB hA _ _ _ _).1 hp;unfold Df;simp only;rw[zp (show(k:Int)<(l.length:Int) by omega),cT,AW hlt,obs,show AY l k=some w from hk,obs,hb,obs];simp only;rw[zq c1,cF,zq c2,cF,zq c3,cF,zq c4,cF,AA (by omega)])
  (fun k w hk hp=>by
   have hlt:=Dt hk;have hgw:=hg w (za3 hk);obtain⟨lo,hi,hb,hB,hA⟩:=A0G (w:=w) (by omega) hgw.2;have hn:¬(¬lo.1<v.1/\¬lo.2<v.2.1/\¬hi.1>zi zj (v.1+v.2.2.1)/\¬hi.2>zi zj (v.2.1+v.2.2.2)):=fun h=>by rw[(A00 hB hA _ _ _ _).2 h]at hp;cases hp
   unfold Df;simp only;rw[zp (show(k:Int)<(l.length:Int) by omega),cT,AW hlt,obs,show AY l k=some w from hk,obs,hb,obs];simp only;by_cases c1:lo.1<v.1
   ·rw[zp c1,cT]
   rw[zq c1,cF];by_cases c2:lo.2<v.2.1
   ·rw[zp c2,cT]
   rw[zq c2,cF];by_cases c3:hi.1>zi zj (v.1+v.2.2.1)
   ·rw[zp c3,cT]
   rw[zq c3,cF];by_cases c4:hi.2>zi zj (v.2.1+v.2.2.2)
   ·rw[zp c4,cT]
   exact absurd ⟨c1,c2,c3,c4⟩ hn)
  (by
   unfold Df;simp only;rw[zq (show ¬(l.length:Int)<(l.length:Int) by omega),cF])
 unfold QC;cases hall:l.all (fun w=>w.all (okP v.1 v.2.1 (zi zj (v.1+v.2.2.1)) (zi zj (v.2.1+v.2.2.2))))with
 |true=>rw[zr rfl];exact key.1 hall
 |false=>
  obtain⟨k,_,h⟩:=key.2 hall;rw[zw (by simp)];exact h
theorem AM1(a b c:Int):AV a b c=some (decide (b<=a/\a<=c)):=by
 unfold AV;by_cases h:a>=b
 ·rw[zp h,cT];congr 1;rw[decide_eq_decide];omega
 ·rw[zq h,cF];congr 1;symm;rw[zq];omega
theorem A3D{w:Wy}(hw:w.length<=1000)(l:List Wy)(a b:Int)(v:Win):Ad (fun(s:(Win×((List Wy)×(Int×(Int×(Wy×(Int×Int)))))))=>Dg s.1 s.2.1 s.2.2.1 s.2.2.2.1 s.2.2.2.2.1 s.2.2.2.2.2.1 s.2.2.2.2.2.2) ((v.1,(v.2.1,(v.2.2.1,v.2.2.2))),(l,(a,(b,(w,((w.length:Int),(0:Int)))))))=
  some (if w.all (okP v.1 v.2.1 (zi zj (v.1+v.2.2.1)) (zi zj (v.2.1+v.2.2.2)))then .inl ((v.1,(v.2.1,(v.2.2.1,v.2.2.2))),(l,(a,b)))else .inr (false,true)):=by
 have key:=EM (body:=fun(s:(Win×((List Wy)×(Int×(Int×(Wy×(Int×Int)))))))=>Dg s.1 s.2.1 s.2.2.1 s.2.2.2.1 s.2.2.2.2.1 s.2.2.2.2.2.1 s.2.2.2.2.2.2) (l:=w) (st:=fun k=>((v.1,(v.2.1,(v.2.2.1,v.2.2.2))),(l,(a,(b,(w,((w.length:Int),(k:Int)))))))) (p:=okP v.1 v.2.1 (zi zj (v.1+v.2.2.1)) (zi zj (v.2.1+v.2.2.2)))
  (fin:=.inl ((v.1,(v.2.1,(v.2.2.1,v.2.2.2))),(l,(a,b)))) (bad:=fun k=>.inr (false,true))
  (fun k p hk hp=>by
   have hlt:=Dt hk;unfold okP at hp;rw[za2]at hp;unfold Dg;simp only;rw[zp (show(k:Int)<(w.length:Int) by omega),cT,Af,hk,obs,AM1,obs,hp.1,nT,cF,AM1,obs,hp.2,nT,cF,AA (by omega)])
  (fun k p hk hp=>by
   have hlt:=Dt hk;unfold okP at hp;rw[Bool.and_eq_false_iff]at hp;unfold Dg;simp only;rw[zp (show(k:Int)<(w.length:Int) by omega),cT,Af,hk,obs,AM1,obs];cases h1:decide (v.1<=p.1/\p.1<=zi zj (v.1+v.2.2.1))with
   |false=>rw[nF,cT]
   |true=>
    rw[h1]at hp;have hp:=hp.resolve_left (by simp);rw[nT,cF,AM1,obs,hp,nF,cT])
  (by
   unfold Dg;simp only;rw[zq (show ¬(w.length:Int)<(w.length:Int) by omega),cF])
 cases hall:w.all (okP v.1 v.2.1 (zi zj (v.1+v.2.2.1)) (zi zj (v.2.1+v.2.2.2)))with
 |true=>rw[zr rfl];exact key.1 hall
 |false=>
  obtain⟨k,_,h⟩:=key.2 hall;rw[zw (by simp)];exact h
theorem A5t{l:List Wy}(hl:l.length<=1000)(hg:GWf l)(v:Win):Ad (fun(s:(Win×((List Wy)×(Int×Int))))=>Di s.1 s.2.1 s.2.2.1 s.2.2.2) ((v.1,(v.2.1,(v.2.2.1,v.2.2.2))),(l,((l.length:Int),(0:Int))))=some (if QC l v then .inl ()else .inr (false,true)):=by
 have key:=EM (body:=fun(s:(Win×((List Wy)×(Int×Int))))=>Di s.1 s.2.1 s.2.2.1 s.2.2.2) (l:=l) (st:=fun k=>((v.1,(v.2.1,(v.2.2.1,v.2.2.2))),(l,((l.length:Int),(k:Int)))))
  (p:=fun w=>w.all (okP v.1 v.2.1 (zi zj (v.1+v.2.2.1)) (zi zj (v.2.1+v.2.2.2)))) (fin:=.inl ()) (bad:=fun k=>.inr (false,true))
  (fun k w hk hp=>by
   have hlt:=Dt hk;have hgw:=hg w (za3 hk);unfold Di;simp only;rw[zp (show(k:Int)<(l.length:Int) by omega),cT,Af,hk,obs,A3D hgw.2,obs,zr hp];simp only[Sum.elim_inl];rw[AA (by omega)])
  (fun k w hk hp=>by
   have hlt:=Dt hk;have hgw:=hg w (za3 hk);unfold Di;simp only;rw[zp (show(k:Int)<(l.length:Int) by omega),cT,Af,hk,obs,A3D hgw.2,obs,zw (by rw[hp];simp)];rfl)
  (by
   unfold Di;simp only;rw[zq (show ¬(l.length:Int)<(l.length:Int) by omega),cF])
 unfold QC;cases hall:l.all (fun w=>w.all (okP v.1 v.2.1 (zi zj (v.1+v.2.2.1)) (zi zj (v.2.1+v.2.2.2))))with
 |true=>rw[zr rfl];exact key.1 hall
 |false=>
  obtain⟨k,_,h⟩:=key.2 hall;rw[zw (by simp)];exact h
theorem A7i(v:Win):∃t:Bool,BP v=some t/\AQ v=some t:=by
 have e:BP v=AQ v:=rfl;rw[e];unfold AQ;simp only[AM1,obs];cases decide (-20<=v.1/\v.1<=20)<;>cases decide (-20<=v.2.1/\v.2.1<=20)<;>cases decide (1<=v.2.2.1/\v.2.2.1<=8)<;>exact⟨_,rfl,rfl⟩
theorem A2f{s:Str}(hs:s.length<=1048576)(v:Win):∃r:Bool×Bool,HT s v=some r/\Eb s v=some r:=by
 unfold HT Eb;rw[Lc (by omega),IY (by omega),obs,obs];obtain⟨hg,hl⟩:=AK5 s;cases(DN s).2.2.2 with
 |false=>exact⟨_,rfl,rfl⟩
 |true=>
  rw[nT,cF,cF];obtain⟨t,h1,h2⟩:=A7i v;have h1:BP (v.1,(v.2.1,(v.2.2.1,v.2.2.2)))=some t:=h1;have h2:AQ (v.1,(v.2.1,(v.2.2.1,v.2.2.2)))=some t:=h2;rw[h1,h2,obs,obs];cases t with
  |false=>exact⟨_,rfl,rfl⟩
  |true=>
   rw[nT,cF,cF,A8q hl hg v,A5t hl hg v,obs]
   split<;>exact⟨_,rfl,rfl⟩
end
section
open Go
theorem A1k(l:List Int):(KX l).length=l.length:=by unfold KX;simp
theorem A1U{B':Nat}{c:List Int×Int×Int}(h:Cur B' c)(hB:B'<=90000000)(t w:Str)(ht:t.length<=100000)(hw:1<=w.length)(hw2:w.length<=1000):∃c' r,Dj c t w=some (c',r)/\Cur (B'+100) c'/\r.length<=t.length+3:=by
 unfold Dj;obtain⟨c0,v0,e0,q0,a0,b0⟩:=Be h (by omega) 3;have b0:=b0 (by omega);obtain⟨r,e1,q1,n1⟩:=Gi (f:=fun(s:((List Int×Int×Int)×((List UInt8)×((List UInt8)×Int))))=>Ey s.1 s.2.1 s.2.2.1 s.2.2.2) (I:=fun s=>s.2.2.1=w/\0<=s.2.2.2/\s.2.2.2<=3/\Cur (B'+50-6*s.2.2.2.toNat) s.1/\s.2.1.length+s.2.2.2.toNat<=t.length+3)
  (R:=fun s=>Cur (B'+100) s.1/\s.2.length<=t.length+3) (fun s=>s.2.2.2.toNat)
  (by
   rintro⟨c,s,w',n⟩ ⟨i1,i2,i3,i4,i5⟩;simp only at i1 i2 i3 i4 i5;subst i1;simp only;unfold Ey;by_cases hn:0<n
   ·rw[zp (show n>0 from hn),cT];by_cases hs:0<s.length
    ·rw[zp (show((s.length:Nat):Int)>0 by omega),cT];obtain⟨c1,v1,e1,q1,a1,b1⟩:=Be i4 (by omega) (s.length:Int);obtain⟨c2,v2,e2,q2,a2,b2⟩:=Be q1 (by omega) (w'.length:Int);obtain⟨c3,v3,e3,q3,a3,b3⟩:=Be q2 (by omega) 3;have b1:=b1 (by omega);have b2:=b2 (by omega);have b3:=b3 (by omega);obtain⟨x,hx,_⟩:=WJ a2 b2;have s1:FT (0:Int) v1 s.length=some (0,v1.toNat):=by unfold FT;rw[zr (by omega)];rfl
     have s2:FT v1 (s.length:Int) s.length=some (v1.toNat,s.length):=by unfold FT;rw[zr (by omega)];rfl
     have s3:FT (v1+1) (s.length:Int) s.length=some ((v1+1).toNat,s.length):=by unfold FT;rw[zr (by omega)];rfl
     simp only[AI,e1,e2,e3,hx,obs,s1,s2,Ab (n:=v1+1) (by omega) (by omega),s3,Ab (n:=n-1) (by omega) (by omega)];have len1:(KX [((UInt8.toNat x:Nat):Int)]).length=1:=by rw[A1k];rfl
     have fin:∀(y:Str),y.length<=s.length+1->(∃s',(some (Sum.inl (c3,(y,(w',n-1)))):Option (((List Int×Int×Int)×(Str×(Str×Int)))⊕((List Int×Int×Int)×Str)))=some (Sum.inl s')/\(s'.2.2.1=w'/\0<=s'.2.2.2/\s'.2.2.2<=3/\Cur (B'+50-6*s'.2.2.2.toNat) s'.1/\s'.2.1.length+s'.2.2.2.toNat<=t.length+3)/\s'.2.2.2.toNat<n.toNat):=by
      intro y hy;exact⟨_,rfl,⟨rfl,by simp only;omega,by simp only;omega,q3.mono (by simp only;omega),by simp only;omega⟩,by simp only;omega⟩
     by_cases h0:v3=0
     ·rw[show(v3==0)=true by simp[h0],cT,BE (by simp[len1];omega),obs,BE (by simp[len1];omega),obs];exact .inl (fin _ (by simp[len1];omega))
     ·rw[show(v3==0)=false from beq_eq_false_iff_ne.2 h0,cF];by_cases h1:v3=1
      ·rw[show(v3==1)=true by simp[h1],cT,BE (by simp[len1];omega),obs,BE (by simp[len1];omega),obs];exact .inl (fin _ (by simp[len1];omega))
      ·rw[show(v3==1)=false from beq_eq_false_iff_ne.2 h1,cF,BE (by simp;omega),obs];exact .inl (fin _ (by simp;omega))
    ·rw[zq (show ¬((s.length:Nat):Int)>0 by omega),cF];exact .inr ⟨_,rfl,i4.mono (by omega),by simp only;omega⟩
   ·rw[zq (show ¬n>0 by omega),cF];exact .inr ⟨_,rfl,i4.mono (by omega),by simp only;omega⟩) (c0,t,w,v0) ⟨rfl,by simp only;omega,by simp only;omega,q0.mono (by simp only;omega),by simp only;omega⟩
 simp only[e0,obs,AI];have e1':Ad (fun(s:((List Int×Int×Int)×((List UInt8)×((List UInt8)×Int))))=>Ey s.1 s.2.1 s.2.2.1 s.2.2.2) (c0,(t,(w,v0)))=some r:=e1;rw[e1',obs];exact⟨r.1,r.2,by rw[AI],q1,n1⟩
end
section
open Go
abbrev CuP:=List Int×Int×Int
theorem A6p{B':Nat}{c:CuP}(h:Cur B' c)(hB:B'<=90000000):∃c' l,HO c=some (c',l)/\Cur (B'+10000) c'/\l.length<=10/\∀w∈l,w.length<=13:=by
 unfold HO;obtain⟨c0,v0,e0,q0,a0,b0⟩:=Be h (by omega) 2;obtain⟨c1,v1,e1,q1⟩:=MY q0 (by omega) 20;have b0:=b0 (by omega);simp only[AI];rw[e0,obs,e1,obs];have loop:∀(n:Nat)(B1:Nat)(c:CuP)(l:Bn),Cur B1 c->B1+500*n<=100000000->l.length+n<=10->(∀w∈l,w.length<=13)->
   ∃c' l',Ad (fun(s:(CuP×(Bn×Int)))=>B2 s.1 s.2.1 s.2.2) (c,(l,(n:Int)))=some (c',l')/\Cur (B1+500*n) c'/\l'.length<=10/\∀w∈l',w.length<=13:=by
  intro n
  induction n with
  |zero=>
   intro B1 c l hc _ hl hw;refine⟨c,l,Ak ?_,hc.mono (by omega),by omega,hw⟩
   show B2 c l ((0:Nat):Int)=_;unfold B2;rfl
  |succ n ih=>
   intro B1 c l hc hB1 hl hw;obtain⟨c1,w,e1,q1,g1⟩:=A8T hc (by omega);obtain⟨c',l',i1,i2,i3,i4⟩:=ih (B1+500) c1 (l++[w]) q1 (by omega) (by simp;omega) (by
    intro x hx;rcases zb2.1 hx with hx|hx
    ·exact hw x hx
    ·rw[zd1.1 hx];exact g1.hi)
   refine⟨c',l',?_,i2.mono (by omega),i3,i4⟩
   have hgo:B2 c l ((n+1:Nat):Int)=some (.inl (c1,(l++[w],(n:Int)))):=by
    unfold B2;rw[zp (by omega)];simp only[cT,AI];rw[e1,obs,D2 (by simp[Ae];omega) (by simp[Ae];omega),obs,Ab (by omega) (by omega),show((n+1:Nat):Int)-1=(n:Int) by omega]
   exact(AP (f:=fun(s:(CuP×(Bn×Int)))=>B2 s.1 s.2.1 s.2.2) (s:=(c,(l,((n+1:Nat):Int)))) hgo).trans i1
 have fin:∀(c3:CuP)(v:Int),Cur (B'+100) c3->0<=v->v<=8->∃c' l,((Ad (fun(s:(CuP×(Bn×Int)))=>B2 s.1 s.2.1 s.2.2) (c3,(([]:Bn),v))).bind fun x6=>some x6)=some (c',l)/\Cur (B'+10000) c'/\l.length<=10/\∀w∈l,w.length<=13:=by
  intro c3 v q3 hv0 hv1;obtain⟨n,rfl⟩:∃n:Nat,v=(n:Int):=⟨v.toNat,by omega⟩;obtain⟨c',l,h1,h2,h3,h4⟩:=loop n (B'+100) c3 [] q3 (by omega) (by simp;omega) (by simp);rw[h1,obs];exact⟨c',l,rfl,h2.mono (by omega),h3,h4⟩
 cases v1 with
 |true=>
  obtain⟨c2,v2,e2,q2,a2,b2⟩:=Be q1 (by omega) 6;have b2:=b2 (by omega);simp only[cT];rw[e2,obs,obs,sEr];exact fin c2 v2 (q2.mono (by omega)) (by omega) (by omega)
 |false=>
  simp only[cF];rw[obs,sEr,Ab (by omega) (by omega)];exact fin c1 (1+v0) (q1.mono (by omega)) (by omega) (by omega)
theorem A7O{B':Nat}{c:CuP}(h:Cur B' c)(hB:B'<=800000000)(l:List Str)(h1:1<=l.length)(h2:l.length<1000000):∃c' v,F4 c l=some (c',v)/\Cur (B'+2) c'/\v∈l:=by
 unfold F4;obtain⟨c1,v1,e1,q1,b1,b2⟩:=Be h (by omega) (l.length:Int);have:=b2 (by omega);obtain⟨a,ha,hm⟩:=WJ b1 this;simp only[AI];rw[e1,obs];simp only;rw[ha,obs];exact⟨c1,a,rfl,q1,za3 hm⟩
theorem Az6{v:Str}{l:List Str}{n:Nat}(hl:l.all (fun x=>decide (x.length<=n))=true)(h:v∈l):v.length<=n:=of_decide_eq_true (za5.1 hl v h)
theorem Al4:∀(n:Nat)(B':Nat)(c:CuP)(t:Str),Cur B' c->B'+2*n<=100000000->t.length+7*n<=100000->∃c' t',Ad (fun(s:(CuP×(Str×Int)))=>BZ s.1 s.2.1 s.2.2) (c,(t,(n:Int)))=some (c',t')/\Cur (B'+2*n) c'/\t'.length<=t.length+7*n
 |0,B',c,t,hc,_,_=>by
  refine⟨c,t,Ak ?_,hc.mono (by omega),by omega⟩
  show BZ c t ((0:Nat):Int)=_;unfold BZ;rfl
 |n+1,B',c,t,hc,hB,ht=>by
  obtain⟨c1,v,e1,q1,hv⟩:=A7O hc (by omega) [[32,76,32,52,32,49],[32,108,32,50,32,51],[32,108,32,45,49,32,50],[32,72,32,53],[32,104,32,45,50],[32,86,32,51],[32,118,32,50],[32,76,32,48,32,48],[32,104,32,49]] (by simp) (by simp);have hv7:v.length<=7:=Az6 (by decide) hv;obtain⟨c',t',h1,h2,h3⟩:=Al4 n (B'+2) c1 (t++v) q1 (by omega) (by rw[zc3];omega);refine⟨c',t',?_,h2.mono (by omega),by rw[zc3]at h3;omega⟩
  have hgo:BZ c t ((n+1:Nat):Int)=some (.inl (c1,(t++v,(n:Int)))):=by
   unfold BZ;rw[zp (by omega)];simp only[cT,AI];rw[e1,obs];simp only;rw[BE (by omega),obs,Ab (by omega) (by omega),show((n+1:Nat):Int)-1=(n:Int) by omega]
  exact(AP (f:=fun(s:(CuP×(Str×Int)))=>BZ s.1 s.2.1 s.2.2) (s:=(c,(t,((n+1:Nat):Int)))) hgo).trans h1
theorem AW7(l:Bn):(XP l).1.length<=400:=by
 unfold XP
 split
 ·split
  ·assumption
  ·simp
 ·simp
theorem A71{l:Bn}(h1:l.length<=1000)(h2:∀w∈l,w.length<=1000):Ly l/\∀w∈l,Ly w:=⟨by unfold Ly;omega,fun w hw=>by have:=h2 w hw;unfold Ly;omega⟩
theorem A67{B':Nat}{c:CuP}(h:Cur B' c)(hB:B'<=10000000):∃c' t,FG c=some (c',t)/\Cur (B'+30000) c'/\t.length<=1000:=by
 unfold FG;obtain⟨c0,v0,e0,q0⟩:=MY h (by omega) 3;simp only[AI];rw[e0,obs];have main:∀c1:CuP,Cur (B'+20000) c1->∃c' t,(((Ah c1 (5:Int))).bind fun x6=>
  ((Es x6.2)).bind fun x7=>
  ((F7 (List.cons 77 (List.cons 32 (List.nil:List UInt8))) x7)).bind fun x8=>
  ((F7 x8 (List.cons 32 (List.nil:List UInt8)))).bind fun x9=>
  ((Ah x6.1 (5:Int))).bind fun x10=>
  ((Es x10.2)).bind fun x11=>
  ((F7 x9 x11)).bind fun x12=>
  ((Ah x10.1 (4:Int))).bind fun x13=>
  (Ad (fun(s:(((List Int)×(Int×Int))×((List UInt8)×Int)))=>BZ s.1 s.2.1 s.2.2) (x13.1,(x12,(zi zj ((2:Int)+x13.2))))).bind fun x14=>
  ((F7 x14.2 (List.cons 32 (List.cons 90 (List.nil:List UInt8))))).bind fun x15=>
  (((AR x14.1 (4:Int))).bind fun x16=>
   bif x16.2 then
    ((F7 x15 (List.cons 32 (List.cons 77 (List.cons 32 (List.cons 48 (List.cons 32 (List.cons 48 (List.cons 32 (List.cons 72 (List.cons 32 (List.cons 51 (List.cons 32 (List.cons 118 (List.cons 32 (List.cons 50 (List.cons 32 (List.cons 90 (List.nil:List UInt8))))))))))))))))))).bind fun x17=>
    some (Sum.inr (x16.1,x17))
   else
   some (Sum.inr (x16.1,x15))).bind fun x18=>
  Sum.elim
   (fun(x19:CuP×Str)=>
   some x19)
   (fun x20=>
   (((AR x20.1 (8:Int))).bind fun x21=>
    bif x21.2 then
     ((Dj x21.1 x20.2 (List.cons 77 (List.cons 76 (List.cons 90 (List.cons 32 (List.cons 48 (List.cons 45 (List.cons 57 (List.nil:List UInt8)))))))))).bind fun x22=>
     some (Sum.inr x22)
    else
    some (Sum.inr (x21.1,x20.2))).bind fun x23=>
   Sum.elim
    (fun(x24:CuP×Str)=>
    some x24)
    (fun x25=>
    ((AR x25.1 (12:Int))).bind fun x26=>
    bif x26.2 then
     ((F4 x26.1 (List.cons (List.cons 32 (List.cons 77 (List.cons 32 (List.cons 49 (List.cons 32 (List.cons 49 (List.nil:List UInt8))))))) (List.cons (List.cons 32 (List.cons 76 (List.cons 32 (List.cons 49 (List.cons 32 (List.cons 49 (List.nil:List UInt8))))))) (List.cons (List.cons 32 (List.cons 81 (List.nil:List UInt8))) (List.cons (List.cons 32 (List.cons 77 (List.cons 32 (List.cons 49 (List.nil:List UInt8))))) (List.cons (List.cons 32 (List.cons 77 (List.cons 32 (List.cons 57 (List.cons 57 (List.cons 57 (List.cons 57 (List.cons 32 (List.cons 48 (List.nil:List UInt8)))))))))) (List.cons (List.nil:List UInt8) (List.nil:List (List UInt8)))))))))).bind fun x27=>
     ((F7 x25.2 x27.2)).bind fun x28=>
     some (x27.1,x28)
    else
    some (x26.1,x25.2))
    x23)
   x18)=some (c',t)/\Cur (B'+30000) c'/\t.length<=1000:=by
  intro c1 q1;obtain⟨c2,v2,e2,q2,a2,b2⟩:=Be q1 (by omega) 5;obtain⟨c3,v3,e3,q3,a3,b3⟩:=Be q2 (by omega) 5;obtain⟨c4,v4,e4,q4,a4,b4⟩:=Be q3 (by omega) 4;have b2:=b2 (by omega);have b3:=b3 (by omega);have b4:=b4 (by omega);have n2:=Ma (n:=v2) (by omega) (by omega);have n3:=Ma (n:=v3) (by omega) (by omega);obtain⟨k,hk⟩:∃k:Nat,2+v4=(k:Int):=⟨(2+v4).toNat,by omega⟩;obtain⟨c5,t5,e5,q5,l5⟩:=Al4 k (B'+20006) c4 ((([77,32]++Lib.itoa v2)++[32])++Lib.itoa v3) (q4.mono (by omega)) (by omega) (by simp;omega);have hl0:(([77,32]++Lib.itoa v2++[32])++Lib.itoa v3:Str).length<=45:=by simp;omega
  rw[e2,obs];simp only;rw[L2 (by omega) (by omega),obs,BE (by simp;omega),obs,BE (by simp;omega),obs,e3,obs];simp only;rw[L2 (by omega) (by omega),obs,BE (by simp;omega),obs,e4,obs];simp only;rw[Ab (by omega) (by omega),hk];rw[e5,obs];simp only;rw[BE (by simp;omega),obs];obtain⟨c6,v6,e6,q6⟩:=MY q5 (by omega) 4;have st6:∃t6:Str,(((AR c5 (4:Int))).bind fun x16=>
   bif x16.2 then
    ((F7 (t5++[32,90]) (List.cons 32 (List.cons 77 (List.cons 32 (List.cons 48 (List.cons 32 (List.cons 48 (List.cons 32 (List.cons 72 (List.cons 32 (List.cons 51 (List.cons 32 (List.cons 118 (List.cons 32 (List.cons 50 (List.cons 32 (List.cons 90 (List.nil:List UInt8))))))))))))))))))).bind fun x17=>
    some (Sum.inr (x16.1,x17))
   else
   some (Sum.inr (x16.1,(t5++[32,90]))))=(some (Sum.inr (c6,t6)):Option ((CuP×Str)⊕(CuP×Str)))/\t6.length<=200:=by
   rw[e6,obs];cases v6 with
   |true=>exact⟨_,by simp only[cT];rw[BE (by simp;omega),obs],by simp;omega⟩
   |false=>exact⟨_,by simp only[cF];rfl,by simp;omega⟩
  obtain⟨t6,e6',l6⟩:=st6;rw[e6',obs,sEr];simp only;obtain⟨c7,v7,e7,q7⟩:=MY q6 (by omega) 8;have st7:∃(c8:CuP)(t8:Str),(((AR c6 (8:Int))).bind fun x21=>
    bif x21.2 then
     ((Dj x21.1 t6 (List.cons 77 (List.cons 76 (List.cons 90 (List.cons 32 (List.cons 48 (List.cons 45 (List.cons 57 (List.nil:List UInt8)))))))))).bind fun x22=>
     some (Sum.inr x22)
    else
    some (Sum.inr (x21.1,t6)))=(some (Sum.inr (c8,t8)):Option ((CuP×Str)⊕(CuP×Str)))/\Cur (B'+20400) c8/\t8.length<=300:=by
   rw[e7,obs];cases v7 with
   |true=>
    obtain⟨c8,t8,e8,q8,l8⟩:=A1U q7 (by omega) t6 [77,76,90,32,48,45,57] (by omega) (by simp) (by simp);exact⟨c8,t8,by simp only[cT];rw[e8,obs],q8.mono (by omega),by omega⟩
   |false=>exact⟨c7,t6,by simp only[cF],q7.mono (by omega),by omega⟩
  obtain⟨c8,t8,e8,q8,l8⟩:=st7;rw[e8,obs,sEr];simp only;obtain⟨c9,v9,e9,q9⟩:=MY q8 (by omega) 12;rw[e9,obs];cases v9 with
  |true=>
   obtain⟨c10,v10,e10,q10,hm⟩:=A7O q9 (by omega) [[32,77,32,49,32,49],[32,76,32,49,32,49],[32,81],[32,77,32,49],[32,77,32,57,57,57,57,32,48],[]] (by simp) (by simp);have:=Az6 (n:=9) (by decide) hm;simp only[cT];rw[e10,obs];simp only;rw[BE (by omega),obs];exact⟨c10,_,rfl,q10.mono (by omega),by simp;omega⟩
  |false=>exact⟨c9,t8,by simp only[cF],q9.mono (by omega),by omega⟩
 cases v0 with
 |true=>
  obtain⟨c1,l,e1,q1,l1,w1⟩:=A6p q0 (by omega);obtain⟨sh1,sh2⟩:=A71 (l:=l) (by omega) (fun w hw=>by have:=w1 w hw;omega);simp only[cT];rw[e1,obs];simp only;rw[AD6 sh1 sh2,obs];cases hp:(XP l).2 with
  |true=>
   have:=AW7 l;rw[cT,obs,sEl];exact⟨c1,_,rfl,q1.mono (by omega),by omega⟩
  |false=>
   rw[cF,obs,sEr];exact main c1 (q1.mono (by omega))
 |false=>
  simp only[cF];rw[obs,sEr];exact main c0 (q0.mono (by omega))
end
section
open Go Go.RowKit Go.ChangeShapes Go.WideShapes Go.ChangeAt
theorem Ss{l:List Int}(h:WFC (.sl 1 (.int .u8)) l):(∀x∈l,0<=x/\x<=255)/\l.length<=1000000000000000:=by
 have h1:∀x∈l,(Lit.int .u8 x).wf=true:=h.1;have h2:l.length*1<=Ae:=h.2;refine⟨fun x hx=> ?_,by unfold Ae at h2;omega⟩
 have:=h1 x hx;simp[Lit.wf,IntKind.min,IntKind.max,IntKind.bits,IntKind.signed]at this;omega
end
section
open Go
theorem AN9{B':Nat}{c:List Int×Int×Int}(h:Cur B' c)(hB:B'<=8000000):∃c' w,F3 c=some (c',w)/\Cur (B'+100) c':=by
 unfold F3;obtain⟨c0,v0,e0,q0,_⟩:=Be h (by omega) 7;obtain⟨c1,v1,e1,q1,_⟩:=Be q0 (by omega) 7;obtain⟨c2,v2,e2,q2,_⟩:=Be q1 (by omega) 4;obtain⟨c3,v3,e3,q3,_⟩:=Be q2 (by omega) 4;obtain⟨c4,v4,e4,q4⟩:=MY q3 (by omega) 20;simp only[AI];rw[e0,obs,e1,obs,e2,obs,e3,obs,e4,obs];cases v4 with
 |false=>exact⟨c4,_,rfl,q4.mono (by omega)⟩
 |true=>
  obtain⟨c5,v5,e5,q5,_⟩:=ZB q4 (by omega) [-(20:Int),20,21] (by simp) (by simp);obtain⟨c6,v6,e6,q6,_⟩:=Be q5 (by omega) 3;obtain⟨c7,v7,e7,q7,_⟩:=ZB q6 (by omega) [(0:Int),8,9] (by simp) (by simp);simp only[cT];rw[e5,obs,e6,obs,e7,obs];exact⟨c7,_,rfl,q7.mono (by omega)⟩
theorem A3T{a:List Int}(ha:Cur 0 (a,0,0)):∃s w,Ew a=some (s,w)/\s.length<=1000:=by
 obtain⟨c1,w,e1,q1⟩:=AN9 ha (by omega);obtain⟨c2,v2,e2,q2⟩:=MY q1 (by omega) 4;obtain⟨c3,s,e3,q3,l3⟩:=A67 q2 (by omega);unfold Ew Hr;simp only[AI];rw[e1,obs];simp only;rw[e2,obs];cases v2 with
 |false=>rw[cF,e3,obs,obs];exact⟨s,w,rfl,l3⟩
 |true=>rw[cT,e3,obs,obs];exact⟨s,_,rfl,l3⟩
theorem R8{l:List Int}(h:l.length<=1000000):CJ l l=some true:=by
 unfold CJ;rw[bne_self_eq_false,cF];obtain⟨h1,h2⟩:=J2 (l:=l) (body:=fun(s:((List Int)×((List Int)×(Int×Int))))=>BQ s.1 s.2.1 s.2.2.1 s.2.2.2)
  (st:=fun k (b:Unit)=>(l,(l,((l.length:Int),(k:Int))))) (step:=fun b p=>()) (fin:=fun b=>.inl ()) (I:=fun k b=>True)
  (by
   rintro k b p hk _;have hkl:=Dt hk;refine⟨?_,trivial⟩
   show BQ l l (l.length:Int) (k:Int)=_;unfold BQ;rw[zp (by omega),cT,Af,hk,obs,obs,bne_self_eq_false,cF,AA (by omega)])
  (by
   rintro b _;show BQ l l (l.length:Int) (l.length:Int)=_;unfold BQ;rw[zq (by omega)];rfl) () trivial
 have h1':Ad (fun(s:((List Int)×((List Int)×(Int×Int))))=>BQ s.1 s.2.1 s.2.2.1 s.2.2.2) (l,(l,((l.length:Int),(0:Int))))=_:=h1;rw[h1'];rfl
theorem A68{s:Str}(hs:s.length<=1048576){v:Bp}(hok:(DN s).2.2.2=true)(hw:CR v=true):Eb s v=some (QC (DN s).1 v,true):=by
 obtain⟨hg,hl⟩:=AK5 s;unfold Eb;rw[IY (by omega),obs,hok,nT,cF,show AQ (v.1,(v.2.1,(v.2.2.1,v.2.2.2)))=some (CR v)from Ce v,obs,hw,nT,cF,A5t hl hg v,obs];cases QC (DN s).1 v<;>rfl
theorem A6V{l:Bn}{v:Bp}(hw:CR v=true)(h:QC l v=true):∀x∈l,inW v x:=by
 obtain⟨g1,g2,g3,g4⟩:=CC.1 hw;intro x hx p hp;unfold QC at h;rw[Ab (by omega) (by omega),Ab (by omega) (by omega)]at h;have:=za5.1 (za5.1 h x hx) p hp;unfold okP at this;simp only[za2,decide_eq_true_eq]at this;omega
theorem A5k{s:Str}(hs:s.length<=1048576):∃f:RF×Bool,Ig s=some f/\Ip s=some f/\CO f.1 f.1=some true/\∀l,DN s=(l,0,0,true)->BM l=true->f=(rqF (((D1 l:Int):Rat)/2),true):=by
 rcases Iq s with⟨l,e,hg⟩|⟨c,a,e,hc⟩
 ·obtain⟨i1,z1⟩:=A0l hs e hg;obtain⟨i2,_⟩:=A6l hs e hg;have hf:=GQ (z1.mono (show 4<=40 by omega));rw[Vh]at i2;rw[hf]at i1 i2;refine⟨_,i1,i2,M4 (k:=4) (by omega) z1,fun l' e' _=> ?_⟩
  rw[e]at e';rw[(Prod.mk.inj e').1]
 ·refine⟨(zF,false),AD8 hs e,A1t hs e,Ay1,fun l' e' _=> ?_⟩
  rw[e]at e';have:=(Prod.mk.inj (Prod.mk.inj (Prod.mk.inj e').2).2).2;exact absurd this (by simp)
theorem A7a:byQ 0=0:=by
 have h1:=(WM 0).1;have e:GX 0=0:=by
  have:Oi 0=0:=by unfold Oi;simp
  unfold GX;rw[this,zw (by grind)]
 have h2:byQ 0<1:=Rat.floor_lt_iff.2 (by rw[e];grind);omega
theorem A1N{r:List Rat}(h:∀q∈r,Sz 40 q)(hl:r.length<=64):FU (r.map rq) (r.map rq)=some true:=Yw (by rw[zd0];omega) (fun a ha=>by
 obtain⟨q,hq,rfl⟩:=zd2.1 ha;rw[OA];exact M4 (k:=40) (by omega) (h q hq))
theorem A8k{r:List Rat}(h:∀q∈r,Sz 40 q)(hl:r.length<=64):Mx (r.map rq)=some (LW (Eg r)):=by
 have hb:∀a∈r.map rq,BrQ a:=fun a ha=>by
  obtain⟨q,hq,rfl⟩:=zd2.1 ha;exact YN (k:=40) (by omega) (h q hq)
 unfold Mx;rw[zq (by rw[zd0];omega),cF,Ur (by rw[zd0];omega) hb,obs,AX7 h,nT,cF,PX,obs];simp only[AO,AI];have k0:=Y3 h hl r.length 0 (by omega);have k1:Ad (fun(s:(RF×(RF×((List RQ)×(Int×Int)))))=>El s.1 s.2.1 s.2.2.1 s.2.2.2.1 s.2.2.2.2) ((false,([],(false,[]))),(rqF 0,(r.map rq,((r.length:Int),(0:Int)))))=some (zF,rqF (Eg r)):=k0;rw[zd0,k1,obs];simp only[AO,AI];rw[JN,obs]
theorem A49{w v:Bp}(hw:CR w=true)(hp:CR v=false)(bs:List Int):Gy w bs v=some ([],false):=by
 unfold Gy;simp only[AI];rw[Ce,obs,hw,nT,cF,Ce,obs,hp,nF,cT]
theorem A1v{r:List Rat}:∀x∈r.map byQ,0<=x/\x<=255:=fun x hx=>by
 obtain⟨q,_,rfl⟩:=zd2.1 hx;exact WM q
theorem A28{s:Str}(hs:s.length<=1000){w:Bp}{r:List Rat}(h:LF s w=some r)(dx dy:Nat):
  ∃p c:List Int×Bool,D3 s (A9 w dx dy)=some p/\Gy w (r.map byQ) (A9 w dx dy)=some c/\AQ (A9 w dx dy)=some (CR (A9 w dx dy))/\
   (CR (A9 w dx dy)=true->p.2=true/\c.2=true/\CJ p.1 c.1=some true):=by
 obtain⟨h1,h2,h3⟩:=Ir h;have hn:=QU h1;cases hp:CR (A9 w dx dy)with
 |false=>exact⟨_,_,Ng (by omega) _,A49 h1 hp _,by rw[Ce,hp],fun h=>by cases h⟩
 |true=>
  have hpart:=A1X h1 hp h;have hc:=A3Q (bs:=r.map byQ) h1 hp (by rw[zd0];exact h2) A1v;refine⟨_,_,Ng (by omega) _,hc,by rw[Ce,hp],fun _=> ?_⟩
  rw[hpart];refine⟨rfl,rfl,?_⟩
  have cm:=AI3 byQ 0 w.2.2.1.toNat dx dy (A9 w dx dy).2.2.1.toNat (A9 w dx dy).2.2.2.toNat r;rw[A7a]at cm;show CJ ((Ei 0 w.2.2.1.toNat dx dy (A9 w dx dy).2.2.1.toNat (A9 w dx dy).2.2.2.toNat r).map byQ) _=_;rw[cm];refine R8 ?_
  obtain⟨_,_,p3,p4⟩:=CC.1 hp;rw[W9];have:(A9 w dx dy).2.2.1.toNat*(A9 w dx dy).2.2.2.toNat<=8*8:=Nat.mul_le_mul (by omega) (by omega);omega
theorem A60{s:Str}{w:Bp}{r:List Rat}(h:LF s w=some r)(hf:QC (DN s).1 w=true):∃l,DN s=(l,0,0,true)/\BM l=true/\Eg r=((D1 l:Int):Rat)/2:=by
 obtain⟨h1,h2,h3⟩:=Ir h;unfold LF at h
 split at h
 ·rename_i hc;rcases Iq s with⟨l,e,hg⟩|⟨c,a,e,hc'⟩
  ·rw[e]at h hf;have:=A0C h1 l (zer (nW w)) r (MH hg) (A6V h1 hf) (by simp[zer]) h;refine⟨l,e,hg,?_⟩
   rw[this,A06]
   grind
  ·rw[e]at hc;exact absurd hc.1 (by simp)
 ·exact absurd h (by simp)
theorem A70{s:Str}{w:Bp}{r:List Rat}(h:LF s w=some r):(DN s).2.2.2=true:=by
 unfold LF at h
 split at h
 ·rename_i hc;exact hc.1
 ·exact absurd h (by simp)
theorem A7k{w:Bp}(hw:CR w=true){n:Int}(h0:0<=n)(h1:n<1000003):∃dx dy:Nat,zi zj (w.1+n.tmod w.2.2.1)=(A9 w dx dy).1/\zi zj (w.2.1+(zi zj (n.tdiv 8)).tmod w.2.2.2)=(A9 w dx dy).2.1/\
  zi zj (zi zj (w.1+w.2.2.1)-(A9 w dx dy).1)=(A9 w dx dy).2.2.1/\zi zj (zi zj (w.2.1+w.2.2.2)-(A9 w dx dy).2.1)=(A9 w dx dy).2.2.2:=by
 obtain⟨g1,g2,g3,g4⟩:=CC.1 hw;have e1:n.tmod w.2.2.1=n%w.2.2.1:=zb7 h0;have d0:0<=n.tdiv 8:=Int.tdiv_nonneg h0 (by omega);have d1:n.tdiv 8=n/8:=zc5 h0;have e2:(n.tdiv 8).tmod w.2.2.2=(n.tdiv 8)%w.2.2.2:=zb7 d0;have a1:=Int.emod_nonneg n (show w.2.2.1≠0 by omega);have a2:=Int.emod_lt_of_pos n (show 0<w.2.2.1 by omega);have b1:=Int.emod_nonneg (n.tdiv 8) (show w.2.2.2≠0 by omega);have b2:=Int.emod_lt_of_pos (n.tdiv 8) (show 0<w.2.2.2 by omega);refine⟨(n%w.2.2.1).toNat,((n.tdiv 8)%w.2.2.2).toNat,?_⟩
 rw[e1,Ab (n:=n.tdiv 8) (by omega) (by omega),e2];unfold A9;simp only;generalize n%w.2.2.1=u at*
 generalize (n.tdiv 8)%w.2.2.2=v at*
 refine⟨?_,?_,?_,?_⟩
 ·rw[Ab (by omega) (by omega)];omega
 ·rw[Ab (by omega) (by omega)];omega
 ·rw[Ab (n:=w.1+w.2.2.1) (by omega) (by omega),Ab (by omega) (by omega)];omega
 ·rw[Ab (n:=w.2.1+w.2.2.2) (by omega) (by omega),Ab (by omega) (by omega)];omega
theorem Zl{a b:List Int}(ha:∀x∈a,0<=x/\x<=255)(hb:∀x∈b,0<=x/\x<=255)(la:a.length<=1000000000000000)(lb:b.length<=1000000000000000):FB a b=some true:=by
 unfold FB;rw[Ab (by omega) (by omega)];by_cases hl:(a.length:Int)+(b.length:Int)>1048576
 ·rw[zp hl];rfl
 rw[zq hl,cF];have ca:Cur 0 (a,0,0):=.start ha (by omega);obtain⟨s,w,e,hs⟩:=A3T ca;obtain⟨fi,i1,i2,i3,i4⟩:=A5k (s:=s) (by omega);obtain⟨ff,t1,t2⟩:=A2f (s:=s) (by omega) w;have p1:=Ng (s:=s) (by omega) w;have p2:=Aw5 (s:=s) (by omega) w;have s1:=VF (s:=s) (by omega) w;have s2:=V1 (s:=s) (by omega) w;have lB:=A3v (s:=s) (w:=w);rw[e,obs];simp only[AI];rw[p1,obs,p2,obs,s1,obs,s2,obs,t2,obs,t1,obs,i1,obs,i2,obs,beq_self_eq_true,nT,cF,R8 (by omega),obs,nT,cF];simp only[beq_self_eq_true,nT,cF];cases ho:LF s w with
 |none=>
  rw[show FU (HY none).1 (HY none).1=some true from Yw (by simp[HY]) (fun a ha=>absurd ha zf3),obs,nT,cF,i3,obs,nT,cF];rfl
 |some r=>
  obtain⟨h1,h2,h3⟩:=Ir ho;obtain⟨n1,n2,n3⟩:=QU h1;obtain⟨g1,g2,g3,g4⟩:=CC.1 h1;obtain⟨n,en,m0,m1⟩:=AV3 hb (by omega);obtain⟨dx,dy,d1,d2,d3,d4⟩:=A7k h1 m0 m1;obtain⟨p,c,q1,q2,q3,q4⟩:=A28 hs ho dx dy;have fe:=A68 (s:=s) (by omega) (A70 ho) h1;rw[fe]at t2;have fe':=zv t2;rw[show(HY (some r)).1=r.map rq from rfl,A1N h3 (by omega),obs,nT,cF,i3,obs,nT,cF,show(AP3 (some r)).2=true from rfl,cT,en,obs,beq_eq_false_iff_ne.2 (show w.2.2.1≠0 by omega),cF,beq_eq_false_iff_ne.2 (show w.2.2.2≠0 by omega),cF];simp only[d1,d2,d3,d4,AI]
  rw[q1,obs,show(AP3 (some r)).1=r.map byQ from rfl,q2,obs,q3,obs,show(HY (some r)).2=true from rfl];have last:(bif ff.1 then bif ff.2 then(Mx (r.map rq)).bind fun x20=>bif !true then some false else bif x20.2 then(CO x20.1 fi.1).bind fun x21=>bif !x21 then some false else some true else some true else some true else some true)=some true:=by
   rw[<-fe'];cases hf:QC (DN s).1 w with
   |false=>rfl
   |true=>
    obtain⟨l,el,hg,es⟩:=A60 ho hf;have f4:=i4 l el hg;have z:=(A0l (s:=s) (by omega) el hg).2;rw[cT,cT,A8k h3 (by omega),obs,es,GQ (z.mono (by omega)),f4,nT,cF,cT,M4 (k:=4) (by omega) z,obs];rfl
  cases hp:CR (A9 w dx dy)with
  |false=>
   rw[cF,obs,sEr];exact last
  |true=>
   obtain⟨k1,k2,k3⟩:=q4 hp;rw[cT,k1,nT,cF,k2,nT,cF,k3,obs,nT,cF,obs,sEr];exact last
end
end Go.Proofs.YtiijheppiboglaaGreatDoor.Ev
section
namespace Go.Proofs.YtiijheppiboglaaGreatDoor.Ev
open Go Go.RowKit Go.ChangeShapes Go.WideShapes Go.ChangeAt
set_option maxRecDepth 100000
def shs:List Sh:=[.sl 1 (.int .u8),.sl 1 (.int .u8)]
theorem fits:A0T Tryz.prog [32,32] shs:=by
 exact⟨.sl (e:=5) (by kernel_rfl) (by kernel_rfl) (by kernel_rfl) (.int (by kernel_rfl)),.sl (e:=5) (by kernel_rfl) (by kernel_rfl) (by kernel_rfl) (.int (by kernel_rfl)),trivial⟩
theorem own:ownKnob Tryz.prog.godebug=none:=by kernel_rfl
theorem laid:laidOutB Tryz.prog=true:=by kernel_rfl
theorem door_met(os:Os)(args:Array Value):laidMetH Tryz.prog Rows.fnPicturesRow.laid ((World.laidAll Tryz.prog os Rows.fnPicturesRow.laid).forCall (fun _ _=>0) ⟨#[],args,[]⟩).memory:=by
 rw[MakeChecks.laidMetH_plain _ _ _ (by kernel_rfl)];exact laidMet_laidAll _ (by kernel_rfl) (by kernel_rfl)
theorem starE: "*" ++ "errors.errorString" = "*errors.errorString" :=by decide
def ids:List Nat:=[0,1,2,3]
theorem libJ{W:World}(hsh:W.ShapedOpen Tryz.prog)(hL:laidMetH Tryz.prog Rows.fnPicturesRow.laid W):LibJ (Jof W ids):=by
 rw[MakeChecks.laidMetH_plain _ _ _ (by kernel_rfl)]at hL;have hP:laidMet Tryz.prog Rows.fnPicturesRow.laid W:=hL;have htab:Lib.TabIs Tryz.prog W "internal/strconv.uint64pow10" .u64 Lib.pow10Tab:=Lib.tabIs_of_head (g:=3) (t:=254) (e:=113) (n:=20) (by kernel_rfl) (by kernel_rfl) (by kernel_rfl) (by kernel_rfl) (by kernel_rfl) (by kernel_rfl) (show laidMet Tryz.prog ((_,Lib.tabData .u64 Lib.pow10Tab)::_) W from Jr 2 hP)
 have hmax:∃m:Int,W.cell? ⟨2,0,none⟩=some (.int .i64 m):=Go.Proofs.cell_of_shapedOpen_int (zero:= #[.int .i64 0]) (t:=3) hsh (of_decide_eq_true (by kernel_rfl)) (by kernel_rfl) rfl (by kernel_rfl) (by kernel_rfl) Tryz.underlying3;have hsyn:∃tp p,W.var? Tryz.prog "strconv.ErrSyntax" =some #[.iface tp p]:=by
  obtain⟨a,s,hv,_⟩:=laid_sentinel (g:=0) (ti:=125) (tp:=259) (te:=261) (ts:=9) (Jr 5 hP) (by kernel_rfl) (by kernel_rfl) Tryz.underlying125 (fun u h=>typeName_ptr_named (nm:= "errors.errorString") (by rw[starE];kernel_rfl) (by kernel_rfl) (by decide) u (by rw[starE];exact h)) Tryz.underlying259 Tryz.underlying261 rfl rfl Tryz.underlying9 (by kernel_rfl) (by kernel_rfl);exact⟨_,_,hv⟩
 have hrng:∃tp p,W.var? Tryz.prog "strconv.ErrRange" =some #[.iface tp p]:=by
  obtain⟨a,s,hv,_⟩:=laid_sentinel (g:=1) (ti:=125) (tp:=259) (te:=261) (ts:=9) (Jr 4 hP) (by kernel_rfl) (by kernel_rfl) Tryz.underlying125 (fun u h=>typeName_ptr_named (nm:= "errors.errorString") (by rw[starE];kernel_rfl) (by kernel_rfl) (by decide) u (by rw[starE];exact h)) Tryz.underlying259 Tryz.underlying261 rfl rfl Tryz.underlying9 (by kernel_rfl) (by kernel_rfl);exact⟨_,_,hv⟩
 unfold ids;exact {tab:=A9V (g:=3) (by kernel_rfl) (by simp) htab,max:=A9T (g:=2) (by simp) hmax,syn:=A9p (g:=0) (by kernel_rfl) (by simp) hsyn,rng:=A9p (g:=1) (by kernel_rfl) (by simp) hrng}
theorem lifted(os:Os)(started:os.Started)(H:Type)(enc:TypeId×Value->H):
  ReturnsInHanded {} Tryz.checked os 8 .any (fun w args=>(Rows.fnPicturesSpec.pre enc Tryz.prog Tryz.f8 [] false w args/\laidMetH Tryz.prog Rows.fnPicturesRow.laid w)/\sizedMet enc Tryz.prog Tryz.f8 (OpenSpec.ofChange Rows.fnPicturesSpec) false w args)
   (Rows.fnPicturesSpec.post enc Tryz.prog Tryz.f8 false true false false):=by
 refine OB (C:=Tryz.checked) (X:=fun w _=>laidMetH Tryz.prog Rows.fnPicturesRow.laid w) (fun _ _ _ hh h=>h.of_heap hh) own started (by kernel_rfl) Tryz.func8
  (ChangeSpec.witness_shaped (enc:=enc) (C:=Tryz.checked) (os:=os) (X:=fun w _=>laidMetH Tryz.prog Rows.fnPicturesRow.laid w) false (World.laidAll Tryz.prog os Rows.fnPicturesRow.laid) #[.slice none 0 0,.slice none 0 0] 8 (World.laidAll_os _ _ _) (World.shaped_of_ZipB (by kernel_rfl) (by kernel_rfl)) (by kernel_rfl) (by kernel_rfl) (by kernel_rfl) (door_met os _)) ?_
 intro W base args ds gs before hval hW hsz hsh hL;exact Au4 (P:=Tryz.prog) (J:=Jof W ids) (cf:=cf0) (ext:=A8F) (F:=fun x=>FB x.1 x.2) (shs:=shs) (by kernel_rfl) (A4d (libJ hsh hL)) WD (fun d=>by kernel_rfl)
  (fun d hd=>Zl (Ss hd.1).1 (Ss hd.2.1).1 (Ss hd.1).2 (Ss hd.2.1).2) rfl rfl rfl (by kernel_rfl) fits laid
  (fun t ht=>by
   have:t=32:=by simpa using ht
   rcases this with rfl<;>exact⟨by kernel_rfl,of_decide_eq_true (by kernel_rfl)⟩) rfl
  (fun ds hl=>by
   match ds,hl with
   |[_,_],_=>rfl) A3w hval hW hsz
theorem hfn:Tryz.prog.funcNamed "loop.example/g00409/laws.FnPictures" =some 8:=by kernel_rfl
theorem closed:joinedFacts Tryz.prog 8 Tryz.f8 Rows.fnPicturesSpec Rows.fnPicturesRow=true:=by
 unfold joinedFacts;simp only[za2]
 repeat' apply And.intro
 all_goals (as_aux_lemma=>kernel_rfl)
theorem over:Rows.fnPicturesRow.holds Tryz.pinned (OpenSpec.ofChange Rows.fnPicturesSpec):=
 OpenClaim.holds_of_wide 8 Tryz.f8 rfl rfl rfl rfl rfl rfl rfl ⟨rfl,rfl,rfl,rfl,rfl⟩ rfl rfl rfl rfl rfl hfn Tryz.func8 closed
  (of_decide_eq_true (by as_aux_lemma=>kernel_rfl)) (by unfold Func.isWrapper;first|(rw[zr (by decide+kernel)];kernel_rfl)|(rw[zw (by decide+kernel)];exact⟨rfl,rfl⟩))
  (fun os started H enc _=>lifted os started H enc)
theorem carded:Rows.FnPicturesCardSaid:=
 Claim7.holds_tied_plain_at .later [] [.data,.data,.data,.data,.sentinel,.sentinel,.pinned] true (true, "468de68268811ac350c0866b8afcc88575c2e10ab6507847880ba7abcce4bdc1") true
  over (fun _ h=>by cases h) (by as_aux_lemma=>kernel_rfl) (fun _ h=>by cases h) fnPictures_row_tie rfl ⟨rfl,rfl⟩ (by as_aux_lemma=>kernel_rfl) rfl
  (fun f fn hf hf2=>by
   obtain rfl:f=8:=zv (hfn.symm.trans hf) |>.symm
   obtain rfl:fn=Tryz.f8:=(zv (Tryz.func8.symm.trans hf2)).symm;exact⟨by as_aux_lemma=>kernel_rfl,fun j t ht=>by
    rw[show Tryz.f8.params= #[32,32]from rfl]at ht;have hm:t∈[32,32]:=by simpa using Array.mem_of_getElem? ht
    have hall:([32,32].all fun u=> !Tryz.prog.wantsStandIn u)=true:=by kernel_rfl
    exact(show Tryz.prog.wantsStandIn t=false by simpa using za5.1 hall t hm)⟩)
  (by as_aux_lemma=>kernel_rfl)
end Go.Proofs.YtiijheppiboglaaGreatDoor.Ev
namespace Go.Proofs.YtiijheppiboglaaGreatDoor
theorem fnPictures_holds:Rows.FnPicturesSaid:=Ev.over
theorem fnPictures_card_holds:Rows.FnPicturesCardSaid:=Ev.carded
#print axioms fnPictures_card_holds
end Go.Proofs.YtiijheppiboglaaGreatDoor

end
