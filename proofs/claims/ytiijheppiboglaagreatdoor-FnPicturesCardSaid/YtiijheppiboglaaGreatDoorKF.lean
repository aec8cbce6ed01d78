/- What the theorem of this claim leans on, part 6. -/
import Derived.Test.YtiijheppiboglaaGreatDoorKE
import Derived.KernelRfl
set_option maxHeartbeats 2000000
open Option renaming bind_some → za0, map_eq_some_iff → zb6, map_some → zd4
open List renaming getElem?_eq_getElem → za1, mem_of_getElem? → za3, getElem?_eq_some_iff → za4, all_eq_true → za5, drop_eq_getElem_cons → zb1, mem_append → zb2, mem_flatMap → zb3, getD_eq_getElem?_getD → zb4, flatMap_cons → zb5, length_cons → zb8, map_cons → zb9, eq_nil_of_length_eq_zero → zc0, getElem?_take → zc2, length_append → zc3, take_of_length_le → zc4, mem_cons → zc6, getElem?_map → zc9, length_map → zd0, mem_singleton → zd1, mem_map → zd2, all_cons → zd3, length_pos_iff → zd5, getElem?_drop → zd6, drop_eq_nil_of_le → zd7, cons_append → zd8, getElem?_append_left → zd9, append_nil → ze2, mem_cons_of_mem → ze6, getElem?_eq_none → ze8, length_take → zf2, not_mem_nil → zf3, length_nil → zf4, drop_zero → zf5
open Bool renaming and_eq_true → za2, false_eq_true → zc1, true_and → ze5
open Nat renaming eq_of_beq_eq_true → za6, le_refl → za8, mul_le_mul_right → ze0, lt_of_lt_of_le → ze1, lt_or_ge → ze4, le_trans → ze7, zero_add → zf0, add_mul → zf7
open Int renaming mul_le_mul_of_nonneg_right → za7, mul_le_mul_of_nonneg_left → zb0, tmod_eq_emod_of_nonneg → zb7, tdiv_eq_ediv_of_nonneg → zc5, toNat_natCast → zc8, mul_add → ze3, le_of_lt → ze9, natAbs_natCast → zf1, mul_nonneg → zf6
open Sum renaming elim_inr → za9
open Array renaming getD_eq_getD_getElem? → zc7
open Go.IntKind renaming wrap → zi, i64 → zj, u64 → zk
open Option.some renaming inj → zv, injEq → zx
noncomputable section
set_option linter.unusedVariables false
set_option linter.unusedSimpArgs false
set_option linter.unusedSectionVars false
namespace Go.Proofs.YtiijheppiboglaaGreatDoor.Ev
section
open Go
theorem A2Y{x c:Int}(hx:x<65536)(hlo: -4294967296<=x)(hc:c=if x<0 then(-x+65536-1)/65536 else 0):
  0<=x+c*65536/\x+c*65536<65536/\0<=c/\c<=65536:=by
 subst hc
 split<;>omega
structure Off (u0 u:List Int) (j k:Nat) (c q:Int) (v:List Int):Prop where
 len:u.length=u0.length
 lb:LB u
 hi:∀i,j+k<=i->dg u i=dg u0 i
 c0:0<=c
 c1:c<=65536
 v:val u-B (j+k)*c=val u0-B j*(q*val (v.take k))
theorem Off.start{u0:List Int}(h:LB u0)(j:Nat)(q:Int)(v:List Int):Off u0 u0 j 0 0 q v:=⟨rfl,h,fun _ _=>rfl,by omega,by omega,by simp[val]⟩
theorem Off.next{u0 u:List Int}{j k:Nat}{c q:Int}{v:List Int}(h:Off u0 u j k c q v)(hv:LB v)(hq:0<=q/\q<65536)(hk:j+k<u.length){c':Int}(hc:c'=if dg u (j+k)-q*dg v k-c<0 then(-(dg u (j+k)-q*dg v k-c)+65536-1)/65536 else 0):
  Off u0 (u.set (j+k) (dg u (j+k)-q*dg v k-c+c'*65536)) j (k+1) c' q v:=by
 have du:=Bb h.lb (j+k);have dv:=Bb hv k;have m0:0<=q*dg v k:=zf6 hq.1 dv.1;have m1:q*dg v k<=65535*65535:=Int.le_trans (zb0 (show dg v k<=65535 by omega) hq.1) (za7 (show q<=65535 by omega) (by omega));have hc0:=h.c0;have hc1:=h.c1;obtain⟨s1,s2,s3,s4⟩:=A2Y (x:=dg u (j+k)-q*dg v k-c) (by omega) (by omega) hc;refine⟨by rw[List.length_set];exact h.len,h.lb.set ⟨s1,s2⟩,fun i hi=>by rw[Ch (by omega)];exact h.hi i (by omega),s3,s4,?_⟩
 rw[Gn (Am hk),A3,show j+(k+1)=j+k+1 by omega];have hv2:=h.v;have e1:B (j+k+1)*c'=B (j+k)*(c'*65536):=by simp only[B];grind
 have e2:B j*(q*(val (v.take k)+B k*dg v k))=B j*(q*val (v.take k))+B (j+k)*(q*dg v k):=by rw[R2];grind
 have e3:B (j+k)*(dg u (j+k)-q*dg v k-c+c'*65536-dg u (j+k))=B (j+k)*(c'*65536)-B (j+k)*(q*dg v k)-B (j+k)*c:=by grind
 rw[e1,e2,e3];omega
theorem A8h{u0 v out:List Int}{n by_ q:Int}{j:Nat}(hu:LB u0)(hv:LB v)(hq:0<=q/\q<65536)(hn:n=(v.length:Int))(hlen:j+v.length<u0.length)(hl:u0.length<=1000000):
  ∃u c,Ad (fun(s:((List Int)×((List Int)×((List Int)×(Int×(Int×(Int×(Int×(Int×(Int×Int))))))))))=>Fi s.1 s.2.1 s.2.2.1 s.2.2.2.1 s.2.2.2.2.1 s.2.2.2.2.2.1 s.2.2.2.2.2.2.1 s.2.2.2.2.2.2.2.1 s.2.2.2.2.2.2.2.2.1 s.2.2.2.2.2.2.2.2.2) (u0,(v,(out,(n,(by_,((j:Int),(q,(0,(n,0)))))))))=
   some (u,(v,(out,(n,(by_,((j:Int),(q,c)))))))/\Off u0 u j v.length c q v:=by
 subst hn;obtain⟨⟨u,c⟩,h1,h2⟩:=CK (body:=fun(s:((List Int)×((List Int)×((List Int)×(Int×(Int×(Int×(Int×(Int×(Int×Int))))))))))=>Fi s.1 s.2.1 s.2.2.1 s.2.2.2.1 s.2.2.2.2.1 s.2.2.2.2.2.1 s.2.2.2.2.2.2.1 s.2.2.2.2.2.2.2.1 s.2.2.2.2.2.2.2.2.1 s.2.2.2.2.2.2.2.2.2)
  (st:=fun k (b:List Int×Int)=>(b.1,(v,(out,((v.length:Int),(by_,((j:Int),(q,(b.2,((v.length:Int),(k:Int))))))))))) (fin:=fun b=>(b.1,(v,(out,((v.length:Int),(by_,((j:Int),(q,b.2)))))))) (I:=fun k b=>Off u0 b.1 j k b.2 q v) (e:=v.length)
  (by
   rintro k ⟨u,c⟩ hk hI;simp only at hI;have hul:=hI.len;have hp:j+k<u.length:=by omega
   have du:=Bb hI.lb (j+k);have dv:=Bb hv k;have c0:=hI.c0;have c1:=hI.c1;have m0:0<=q*dg v k:=zf6 hq.1 dv.1;have m1:q*dg v k<=65535*65535:=Int.le_trans (zb0 (show dg v k<=65535 by omega) hq.1) (za7 (show q<=65535 by omega) (by omega));refine⟨(u.set (j+k) (dg u (j+k)-q*dg v k-c+(if dg u (j+k)-q*dg v k-c<0 then(-(dg u (j+k)-q*dg v k-c)+65536-1)/65536 else 0)*65536),if dg u (j+k)-q*dg v k-c<0 then(-(dg u (j+k)-q*dg v k-c)+65536-1)/65536 else 0),?_,hI.next hv hq hp rfl⟩
   unfold Fi AY
   dsimp only
   have i1:A2 ((j:Int)+(k:Int)) u.length=some (j+k):=by rw[show(j:Int)+(k:Int)=((j+k:Nat):Int) by omega];exact AW hp
   have hw1:=AA (show k<4611686018427387904 by omega);have hjk:=Ab (n:=(j:Int)+(k:Int)) (by omega) (by omega);rw[zp (by omega),hjk];simp only[cond_true,i1,AW hk,za0,Am hp,Am hk];rw[Ab (n:=q*dg v k) (by omega) (by omega),Ab (n:=dg u (j+k)-q*dg v k) (by omega) (by omega),Ab (n:=dg u (j+k)-q*dg v k-c) (by omega) (by omega)];have hxb: -4294967296<=dg u (j+k)-q*dg v k-c/\dg u (j+k)-q*dg v k-c<65536:=by omega
   generalize dg u (j+k)-q*dg v k-c=x at*
   by_cases hx:x<0
   ·rw[zp hx,zr hx,Ab (n:=0-x) (by omega) (by omega),Ab (n:=0-x+65536) (by omega) (by omega),Ab (n:=0-x+65536-1) (by omega) (by omega),zc5 (by omega),show 0-x+65536-1= -x+65536-1 by omega];rw[Ab (n:=(-x+65536-1)/65536) (by omega) (by omega),Ab (n:=(-x+65536-1)/65536*65536) (by omega) (by omega),Ab (n:=x+(-x+65536-1)/65536*65536) (by omega) (by omega)];simp only[cond_true,za0,za9,hjk,i1,Am hp,hw1]
   ·rw[zq hx,zw hx];simp only[cond_false,za0,za9,hjk,i1,Am hp,hw1,Int.zero_mul,Int.add_zero])
  (by
   rintro⟨u,c⟩ _;unfold Fi
   dsimp only
   rw[zq (Int.lt_irrefl _)];rfl) 0 (u0,0) (by omega) (Off.start hu j q v)
 exact⟨u,c,h1,h2⟩
structure Back (u0 u:List Int) (j k:Nat) (c:Int) (v:List Int):Prop where
 len:u.length=u0.length
 lb:∀i,i<j+v.length->0<=dg u i/\dg u i<65536
 hi:∀i,j+k<=i->dg u i=dg u0 i
 c0:0<=c
 c1:c<65536
 v:val u+B (j+k)*c=val u0+B j*val (v.take k)
theorem AU6{l:List Int}{k j:Nat}{x:Int}(hk:k<l.length):dg (l.set k x) j=if j=k then x else dg l j:=by
 split
 ·rename_i h;subst h;exact GA (by rw[List.getElem?_set_self hk])
 ·rename_i h;exact Ch (fun hh=>h hh.symm)
theorem Back.next{u0 u:List Int}{j k:Nat}{c:Int}{v:List Int}(h:Back u0 u j k c v)(hv:LB v)(hkv:k<v.length)(hk:j+k<u.length):
  Back u0 (u.set (j+k) ((dg u (j+k)+dg v k+c)%65536)) j (k+1) ((dg u (j+k)+dg v k+c)/65536) v:=by
 have du:=h.lb (j+k) (by omega);have dv:=Bb hv k;have c0:=h.c0;have c1:=h.c1;refine⟨by rw[List.length_set];exact h.len,fun i hi=> ?_,fun i hi=>by rw[Ch (by omega)];exact h.hi i (by omega),by omega,by omega,?_⟩
 ·rw[AU6 hk]
  split
  ·omega
  ·exact h.lb i hi
 ·have:=AI2 (out:=u) (p:=j+k) (o:=dg u (j+k)) (d:=(dg u (j+k)+dg v k+c)%65536) (c:=c) (c':=(dg u (j+k)+dg v k+c)/65536) (t:=dg v k) (V:=val u0+B j*val (v.take k)) (Am hk) (by omega) h.v;rw[show j+(k+1)=j+k+1 by omega,this,A3,ze3];have:B (j+k)*dg v k=B j*(B k*dg v k):=by rw[R2];grind
  omega
theorem A8D{u0 v out:List Int}{n by_ q:Int}{j:Nat}(hu:∀i,i<j+v.length->0<=dg u0 i/\dg u0 i<65536)(hv:LB v)(hn:n=(v.length:Int))(hlen:j+v.length<u0.length)(hl:u0.length<=1000000):
  ∃u c,Ad (fun(s:((List Int)×((List Int)×((List Int)×(Int×(Int×(Int×(Int×(Int×(Int×Int))))))))))=>FH s.1 s.2.1 s.2.2.1 s.2.2.2.1 s.2.2.2.2.1 s.2.2.2.2.2.1 s.2.2.2.2.2.2.1 s.2.2.2.2.2.2.2.1 s.2.2.2.2.2.2.2.2.1 s.2.2.2.2.2.2.2.2.2) (u0,(v,(out,(n,(by_,((j:Int),(q,(0,(n,0)))))))))=
   some (u,(v,(out,(n,(by_,((j:Int),(q,c)))))))/\Back u0 u j v.length c v:=by
 subst hn;obtain⟨⟨u,c⟩,h1,h2⟩:=CK (body:=fun(s:((List Int)×((List Int)×((List Int)×(Int×(Int×(Int×(Int×(Int×(Int×Int))))))))))=>FH s.1 s.2.1 s.2.2.1 s.2.2.2.1 s.2.2.2.2.1 s.2.2.2.2.2.1 s.2.2.2.2.2.2.1 s.2.2.2.2.2.2.2.1 s.2.2.2.2.2.2.2.2.1 s.2.2.2.2.2.2.2.2.2)
  (st:=fun k (b:List Int×Int)=>(b.1,(v,(out,((v.length:Int),(by_,((j:Int),(q,(b.2,((v.length:Int),(k:Int))))))))))) (fin:=fun b=>(b.1,(v,(out,((v.length:Int),(by_,((j:Int),(q,b.2)))))))) (I:=fun k b=>Back u0 b.1 j k b.2 v) (e:=v.length)
  (by
   rintro k ⟨u,c⟩ hk hI;simp only at hI;have hul:=hI.len;have hp:j+k<u.length:=by omega
   have du:=hI.lb (j+k) (by omega);have dv:=Bb hv k;have c0:=hI.c0;have c1:=hI.c1;refine⟨(u.set (j+k) ((dg u (j+k)+dg v k+c)%65536),(dg u (j+k)+dg v k+c)/65536),?_,hI.next hv hk hp⟩
   unfold FH AY
   dsimp only
   have i1:A2 ((j:Int)+(k:Int)) u.length=some (j+k):=by rw[show(j:Int)+(k:Int)=((j+k:Nat):Int) by omega];exact AW hp
   have hw1:=AA (show k<4611686018427387904 by omega);have hjk:=Ab (n:=(j:Int)+(k:Int)) (by omega) (by omega);rw[zp (by omega),hjk];simp only[cond_true,i1,AW hk,za0,Am hp,Am hk];rw[Ab (n:=dg u (j+k)+dg v k) (by omega) (by omega),Ab (n:=c+(dg u (j+k)+dg v k)) (by omega) (by omega),show c+(dg u (j+k)+dg v k)=dg u (j+k)+dg v k+c by omega,zb7 (by omega),zc5 (by omega),Ab (n:=(dg u (j+k)+dg v k+c)/65536) (by omega) (by omega),hw1])
  (by
   rintro⟨u,c⟩ _;unfold FH
   dsimp only
   rw[zq (Int.lt_irrefl _)];rfl) 0 (u0,0) (by omega) ⟨rfl,hu,fun _ _=>rfl,by simp only;omega,by simp only;omega,by simp[val]⟩
 exact⟨u,c,h1,h2⟩
structure Guess (P v1 v2 vr top u2 ur V U Q:Int):Prop where
 hP:0<P
 hv1:1<=v1
 hv1':v1<65536
 hv2:0<=v2/\v2<65536
 hvr:0<=vr/\vr<P
 hu2:0<=u2/\u2<65536
 hur:0<=ur/\ur<P
 hV:V=(v1*65536+v2)*P+vr
 hU:U=(top*65536+u2)*P+ur
 htop:0<=top/\top<4294967296
 hQ:Q*V<=U
 hQ0:0<=Q
 hQ1:Q<65536
 hV0:0<V
theorem A62{u v out:List Int}{n by_:Int}{j m:Nat}{P v1 v2 vr top u2 ur V U Q:Int}(G:Guess P v1 v2 vr top u2 ur V U Q)(hn:n=((m+2:Nat):Int))(hm:m<=1000000)(hj:j<=1000000)
  (hv:v.length=m+2) (e1:dg v (m+1)=v1) (e2:dg v m=v2) (hu:j+m<u.length) (e3:dg u (j+m)=u2) {q0 r0:Int} (h0:q0*v1+r0=top) (hr0:0<=r0) (hq0:Q<=q0) (hq4:q0<4294967296):
  ∃q,Ad (fun(s:((List Int)×((List Int)×((List Int)×(Int×(Int×(Int×(Int×Int))))))))=>Dk s.1 s.2.1 s.2.2.1 s.2.2.2.1 s.2.2.2.2.1 s.2.2.2.2.2.1 s.2.2.2.2.2.2.1 s.2.2.2.2.2.2.2) (u,(v,(out,(n,(by_,((j:Int),(q0,r0)))))))=some (u,(v,(out,(n,(by_,((j:Int),q))))))/\Q<=q/\q<65536/\q*V<U+V:=by
 subst hn;obtain⟨r,h1,q,rfl,h2⟩:=Gi (f:=fun(s:((List Int)×((List Int)×((List Int)×(Int×(Int×(Int×(Int×Int))))))))=>Dk s.1 s.2.1 s.2.2.1 s.2.2.2.1 s.2.2.2.2.1 s.2.2.2.2.2.1 s.2.2.2.2.2.2.1 s.2.2.2.2.2.2.2)
  (I:=fun s=>∃q r:Int,s=(u,(v,(out,(((m+2:Nat):Int),(by_,((j:Int),(q,r)))))))/\q*v1+r=top/\0<=r/\Q<=q/\q<4294967296)
  (R:=fun s=>∃q:Int,s=(u,(v,(out,(((m+2:Nat):Int),(by_,((j:Int),q))))))/\Q<=q/\q<65536/\q*V<U+V) (fun s=>s.2.2.2.2.2.2.1.toNat) (by
   rintro s ⟨q,r,rfl,g1,g2,g3,g4⟩;simp only;have hQ0:=G.hQ0;have hQ1:=G.hQ1;have hv1:=G.hv1;have hv1':=G.hv1';have hv2:=G.hv2;have hu2:=G.hu2;have htop:=G.htop;have hqv:0<=q*v1:=zf6 (by omega) (by omega);have hqv2:0<=q*v2:=zf6 (by omega) hv2.1;have hqv2':q*v2<=4294967296*65536:=Int.le_trans (zb0 (show v2<=65536 by omega) (by omega)) (za7 (show q<=4294967296 by omega) (by omega));have iv1:A2 (((m+2:Nat):Int)-1) v.length=some (m+1):=by rw[show((m+2:Nat):Int)-1=((m+1:Nat):Int) by omega];exact AW (by omega)
   have iv2:A2 (((m+2:Nat):Int)-2) v.length=some m:=by rw[show((m+2:Nat):Int)-2=((m:Nat):Int) by omega];exact AW (by omega)
   have iu:A2 ((j:Int)+((m+2:Nat):Int)-2) u.length=some (j+m):=by rw[show(j:Int)+((m+2:Nat):Int)-2=((j+m:Nat):Int) by omega];exact AW (by omega)
   have w1:=Ab (n:=((m+2:Nat):Int)-1) (by omega) (by omega);have w2:=Ab (n:=((m+2:Nat):Int)-2) (by omega) (by omega);have w3:=Ab (n:=(j:Int)+((m+2:Nat):Int)) (by omega) (by omega);have w4:=Ab (n:=(j:Int)+((m+2:Nat):Int)-2) (by omega) (by omega);have w5:=Ab (n:=q*v2) (by omega) (by omega);have w6:=Ab (n:=r*65536) (by omega) (by omega);have w7:=Ab (n:=r*65536+u2) (by omega) (by omega);have w8:=Ab (n:=q-1) (by omega) (by omega);have w9:=Ab (n:=r+v1) (by omega) (by omega)
   have less:∀(hgo:Q<=q-1),∃q' r':Int,(u,(v,(out,(((m+2:Nat):Int),(by_,((j:Int),(q-1,r+v1)))))))=(u,(v,(out,(((m+2:Nat):Int),(by_,((j:Int),(q',r')))))))/\q'*v1+r'=top/\0<=r'/\Q<=q'/\q'<4294967296:=by
    intro hgo;exact⟨q-1,r+v1,rfl,by rw[Int.sub_mul];omega,by omega,hgo,by omega⟩
   by_cases c1:q>=65536
   ·refine .inl ⟨(u,(v,(out,(((m+2:Nat):Int),(by_,((j:Int),(q-1,r+v1))))))),?_,less (by omega),by simp only;omega⟩
    unfold Dk AY;rw[zp c1];simp only[cond_true,za0,za9,w1,iv1,Am (show m+1<v.length by omega),e1,w8,w9]
   ·by_cases c2:r<65536
    ·by_cases c3:q*v2>r*65536+u2
     ·have hlt:=Yr G.hP G.hv1 G.hv2 G.hvr G.hu2 G.hur G.hV G.hU g1 (by omega) c3;have hne:Q<=q-1:=by
       rcases Int.lt_or_le (q-1) Q with h|h
       ·have:q=Q:=by omega
        subst this;have:=G.hQ;omega
       ·exact h
      refine .inl ⟨(u,(v,(out,(((m+2:Nat):Int),(by_,((j:Int),(q-1,r+v1))))))),?_,less hne,by simp only;omega⟩
      unfold Dk AY;rw[zq c1,zp c2];simp only[cond_true,cond_false,za0,w2,iv2,Am (show m<v.length by omega),e2,w3,w4,iu,Am hu,e3,w5,w6,w7,zp c3,za9,w1,iv1,Am (show m+1<v.length by omega),e1,w8,w9]
     ·refine .inr ⟨_,?_,q,rfl,g3,by omega,Af6 G.hP G.hv1 G.hv2 G.hvr G.hu2 G.hur G.hV G.hU g1 (by omega) (by omega) (by omega)⟩
      unfold Dk AY;rw[zq c1,zp c2];simp only[cond_true,cond_false,za0,w2,iv2,Am (show m<v.length by omega),e2,w3,w4,iu,Am hu,e3,w5,w6,w7,zq c3,Sum.elim_inl]
    ·have hle:=YP G.hP G.hv1 G.hv2 G.hvr G.hu2 G.hur G.hV G.hU g1 (by omega) (by omega) (by omega);have hV0:=G.hV0;refine .inr ⟨_,?_,q,rfl,g3,by omega,by omega⟩
     unfold Dk AY;rw[zq c1,zq c2];rfl) (u,(v,(out,(((m+2:Nat):Int),(by_,((j:Int),(q0,r0))))))) ⟨q0,r0,rfl,h0,hr0,hq0,hq4⟩
 exact⟨q,h1,h2⟩
end
section
open Go
theorem RZ{j:Nat}{a b X Y:Int}(ha:0<=a/\a<B j)(hb:0<=b/\b<B j)(h:a+B j*X=b+B j*Y):X=Y:=by
 rcases Int.lt_trichotomy X Y with g|g|g
 ·exfalso
  have:=zb0 (show X+1<=Y by omega) (ze9 (GM j));rw[ze3]at this;omega
 ·exact g
 ·exfalso
  have:=zb0 (show Y+1<=X by omega) (ze9 (GM j));rw[ze3]at this;omega
theorem WS(l:List Int)(n k:Nat):dg (l.drop n) k=dg l (n+k):=by unfold dg;simp[zb4,zd6]
theorem C1(l:List Int)(k:Nat):val (l.drop k)=dg l k+65536*val (l.drop (k+1)):=by
 rcases ze4 k l.length with h|h
 ·rw[zb1 h,GA (za1 h)];rfl
 ·rw[zd7 h,zd7 (by omega),Jh h];simp[val]
theorem XA{l:List Int}(h:∀i,i<l.length->0<=dg l i/\dg l i<65536):LB l:=fun x hx=>by
 obtain⟨i,hi,rfl⟩:=List.getElem_of_mem hx;have:=h i hi
 rwa[GA (za1 hi)]at this
theorem A6W{l:List Int}{k i:Nat}(h:i<k):dg (l.take k) i=dg l i:=by unfold dg;simp[zb4,zc2,h]
theorem A0c{l:List Int}{k:Nat}(h:∀i,i<k->0<=dg l i/\dg l i<65536):LB (l.take k):=XA fun i hi=>by
 rw[zf2]at hi;rw[A6W (by omega)];exact h i (by omega)
theorem OV:∀{l:List Int},(∀i,dg l i=0)->val l=0
 |[],_=>rfl
 |x::l,h=>by
  have h0:=h 0;have h1:val l=0:=OV fun i=>h (i+1)
  simp only[val,h1];unfold dg at h0;simp at h0;omega
theorem C8{l:List Int}(h:LB l)(k:Nat):0<=val (l.take k)/\val (l.take k)<B k:=by
 refine⟨AU (h.take k),?_⟩
 have:=OD (h.take k);have:=KH (show(l.take k).length<=k by rw[zf2];omega);omega
theorem AZ5{l:List Int}(h:LB l){n k:Nat}(hv:val l<B n)(hk:n<=k):dg l k=0/\val (l.drop k)=0:=by
 have h1:=Ci l k;have h2:=AU (h.take k);have h3:=AU (h.drop k);have h4:=KH hk;have h5:val (l.drop k)=0:=by
  rcases Int.lt_or_le 0 (val (l.drop k))with g|g
  ·have:=zb0 (show 1<=val (l.drop k) by omega) (ze9 (GM k));omega
  ·omega
 have h6:=C1 l k;have h7:=Bb h k;have h8:=AU (h.drop (k+1));exact⟨by omega,h5⟩
structure Place (u v:List Int) (j m:Nat):Prop where
 lu:LB u
 lv:LB v
 hv:v.length=m+2
 top:1<=dg v (m+1)
 len:j+m+2<u.length
 less:val (u.drop (j+1))<val v
section
variable {u v:List Int} {j m:Nat} (H:Place u v j m)
include H
theorem Place.pos:0<val v:=by
 have h1:=Ci v (m+1);have h2:=AU (H.lv.take (m+1));have h3:=C1 v (m+1);have h4:=AU (H.lv.drop (m+1+1));have h5:=H.top;have h6:=zb0 (show 1<=val (v.drop (m+1)) by omega) (ze9 (GM (m+1)));have h7:=GM (m+1);omega
theorem Place.lt:val v<B (m+2):=by have:=OD H.lv;rwa[H.hv]at this
theorem Place.high{k:Nat}(hk:j+m+3<=k):dg u k=0/\val (u.drop k)=0:=by
 have h1:=AZ5 (H.lu.drop (j+1)) (n:=m+2) (k:=k-(j+1)) (by have:=H.less;have:=H.lt;omega) (by omega);rw[WS,List.drop_drop,show j+1+(k-(j+1))=k by omega]at h1;exact h1
theorem Place.rest:0<=val (u.drop j)/\val (u.drop j)<65536*val v:=by
 refine⟨AU (H.lu.drop j),?_⟩
 have h1:=C1 u j;have h2:=Bb H.lu j;have h3:=H.less;omega
theorem Place.quot:0<=val (u.drop j)/val v/\val (u.drop j)/val v<65536:=by
 obtain⟨h1,h2⟩:=H.rest;have h3:=H.pos;exact⟨Int.ediv_nonneg h1 (by omega),Int.ediv_lt_of_lt_mul h3 h2⟩
theorem Place.mod:0<=val (u.drop j)-val (u.drop j)/val v*val v/\val (u.drop j)-val (u.drop j)/val v*val v<val v:=by
 have h1:=Int.emod_add_mul_ediv (val (u.drop j)) (val v);have h2:=Int.emod_nonneg (val (u.drop j)) (show val v≠0 by have:=H.pos;omega);have h3:=Int.emod_lt_of_pos (val (u.drop j)) H.pos;rw[Int.mul_comm]at h1;omega
theorem Place.guess:Guess (B m) (dg v (m+1)) (dg v m) (val (v.take m)) (dg u (j+m+2)*65536+dg u (j+m+1)) (dg u (j+m)) (val ((u.drop j).take m)) (val v) (val (u.drop j)) (val (u.drop j)/val v):=by
 have d1:=Bb H.lu (j+m+1);have d2:=Bb H.lu (j+m+2);have hm:=H.mod;have hq:=H.quot;refine⟨GM m,H.top,(Bb H.lv _).2,Bb H.lv _,C8 H.lv m,Bb H.lu _,C8 (H.lu.drop j) m,?_,?_,by omega,by omega,hq.1,hq.2,H.pos⟩
 ·rw[Ci v m,C1 v m,C1 v (m+1),zd7 (show v.length<=m+1+1 by rw[H.hv];omega)];simp only[val]
  grind
 ·rw[Ci (u.drop j) m,List.drop_drop,C1 u (j+m),C1 u (j+m+1),C1 u (j+m+1+1),(H.high (k:=j+m+1+1+1) (by omega)).2,show j+m+1+1=j+m+2 by omega]
  grind
theorem Place.after{u4:List Int}(hl:u4.length=u.length)(hg:∀i,i<j+m+2->0<=dg u4 i/\dg u4 i<65536)(hh:∀i,j+m+2<i->dg u4 i=dg u i){x:Int}(hv:val u4=val u-B j*(x*val v)):
  val (u4.drop j)=val (u.drop j)-x*val v/\∃X,0<=X/\X<B (m+2)/\val (u.drop j)-x*val v=X+B (m+2)*dg u4 (j+m+2):=by
 have e1:val (u4.drop j)=val (u.drop j)-x*val v:=by
  have h1:=Ci u4 j;have h2:=Ci u j;have h3:=C8 H.lu j;have h4:LB (u4.take j):=A0c fun i hi=>hg i (by omega)
  have h5:=C8 h4 j;rw[List.take_take,Nat.min_self]at h5;refine RZ (j:=j) h5 h3 ?_
  rw[Int.mul_sub];omega
 refine⟨e1,val ((u4.drop j).take (m+2)),?_⟩
 have h4:LB ((u4.drop j).take (m+2)):=A0c fun i hi=>by rw[WS];exact hg _ (by omega)
 have h5:=C8 h4 (m+2);rw[List.take_take,Nat.min_self]at h5;refine⟨h5.1,h5.2,?_⟩
 rw[<-e1,Ci (u4.drop j) (m+2),List.drop_drop,C1 u4 (j+(m+2)),OV (l:=u4.drop (j+(m+2)+1)) fun i=>by rw[WS,hh _ (by omega)];exact(H.high (by omega)).1];rw[show j+(m+2)=j+m+2 by omega,Int.mul_zero,Int.add_zero]
theorem Place.done{u4:List Int}(hl:u4.length=u.length)(hg:∀i,i<j+m+2->0<=dg u4 i/\dg u4 i<65536)(hh:∀i,j+m+2<i->dg u4 i=dg u i){x:Int}(hv:val u4=val u-B j*(x*val v))
  (hx:0<=val (u.drop j)-x*val v/\val (u.drop j)-x*val v<val v):dg u4 (j+m+2)=0/\LB u4/\val (u4.drop j)<val v:=by
 obtain⟨h1,X,h2,h3,h4⟩:=H.after hl hg hh hv;have h0:dg u4 (j+m+2)=0:=by
  have:=H.lt;exact(RZ (j:=m+2) (a:=val (u.drop j)-x*val v) (b:=X) (X:=0) (by omega) (by omega) (by rw[h4];simp)).symm
 refine⟨h0,XA fun i hi=> ?_,by omega⟩
 rcases Nat.lt_trichotomy i (j+m+2)with g|g|g
 ·exact hg i g
 ·rw[g,h0];omega
 ·rw[hh i g];exact Bb H.lu i
theorem Place.one{q:Int}(h1:val (u.drop j)/val v<=q)(h2:q*val v<val (u.drop j)+val v):q=val (u.drop j)/val v\/q=val (u.drop j)/val v+1:=by
 have hm:=H.mod;have hp:=H.pos;rcases Int.lt_or_le (val (u.drop j)/val v+1) q with g|g
 ·exfalso
  have:=za7 (show val (u.drop j)/val v+2<=q by omega) (ze9 hp);rw[Int.add_mul]at this;omega
 ·omega
end
end
section
open Go
theorem Place.start{u v:List Int}{j m:Nat}(H:Place u v j m):val (u.drop j)/val v<=(dg u (j+m+2)*65536+dg u (j+m+1))/dg v (m+1):=by
 have G:=H.guess;have hu2:=G.hu2;have hur:=G.hur;have hP:=G.hP;have hv2:=G.hv2;have hvr:=G.hvr;have h1:dg u (j+m)*B m<=65535*B m:=za7 (by omega) (by omega);have h2:0<=dg v m*B m:=zf6 hv2.1 (by omega);exact AH1 (P':=65536*B m) (vt:=dg v m*B m+val (v.take m)) (ut:=dg u (j+m)*B m+val ((u.drop j).take m)) (v:=val v) (U:=val (u.drop j)) (by omega) G.hv1 (by omega) (by omega) (by rw[G.hV];grind) (by rw[G.hU];grind) G.hQ G.hQ0
set_option maxHeartbeats 1000000 in
theorem A6Z {u v out : List Int} {by_ : Int} {j m : Nat} (H : Place u v j m) (hl : u.length <= 1000000) (hj : j < out.length) :
  ∃ u', Dp u v out ((m + 2 : Nat) : Int) by_ (j : Int) = some (.inl (u', (v, (out.set j (val (u.drop j) / val v), (((m + 2 : Nat) : Int), (by_, (j : Int) - 1)))))) /\
   u'.length = u.length /\ LB u' /\ val u' = val u - B j * (val (u.drop j) / val v * val v) /\ val (u'.drop j) < val v := by
 have hlen := H.len;have hvl := H.hv;have d1 := Bb H.lu (j + m + 1);have d2 := Bb H.lu (j + m + 2);have dv := Bb H.lv (m + 1);have htop := H.top;have G := H.guess;have hQ := H.quot;have hmod := H.mod;have hst := H.start;have hk : ∀ l : List Int, l.length = u.length -> A2 (zi zj ((j : Int) + ((m + 2 : Nat) : Int))) l.length = some (j + m + 2) := fun l h => by
  rw [h, Ab (by omega) (by omega), show (j : Int) + ((m + 2 : Nat) : Int) = ((j + m + 2 : Nat) : Int) by omega];exact AW (by omega)
 have hk1 : A2 (zi zj (zi zj ((j : Int) + ((m + 2 : Nat) : Int)) - 1)) u.length = some (j + m + 1) := by
  rw [Ab (n := (j : Int) + ((m + 2 : Nat) : Int)) (by omega) (by omega), Ab (by omega) (by omega), show (j : Int) + ((m + 2 : Nat) : Int) - 1 = ((j + m + 1 : Nat) : Int) by omega];exact AW (by omega)
 have hk2 : A2 (zi zj (((m + 2 : Nat) : Int) - 1)) v.length = some (m + 1) := by
  rw [Ab (by omega) (by omega), show ((m + 2 : Nat) : Int) - 1 = ((m + 1 : Nat) : Int) by omega];exact AW (by omega)
 have hj0 : ∀ l : List Int, l.length = out.length -> A2 (j : Int) l.length = some j := fun l h => by rw [h]; exact AW hj
 have hge : decide ((j : Int) >= 0) = true := zp (by omega);have hz : (dg v (m + 1) == 0) = false := beq_eq_false_iff_ne.2 (by omega);have w1 := Ab (n := dg u (j + m + 2) * 65536) (by omega) (by omega);have w2 := Ab (n := dg u (j + m + 2) * 65536 + dg u (j + m + 1)) (by omega) (by omega);have htop0 : 0 <= dg u (j + m + 2) * 65536 + dg u (j + m + 1) := by omega
 have e1 := Int.emod_add_mul_ediv (dg u (j + m + 2) * 65536 + dg u (j + m + 1)) (dg v (m + 1));have e2 := Int.emod_nonneg (dg u (j + m + 2) * 65536 + dg u (j + m + 1)) (show dg v (m + 1) ≠ 0 by omega);have e3 : (dg u (j + m + 2) * 65536 + dg u (j + m + 1)) / dg v (m + 1) <= dg u (j + m + 2) * 65536 + dg u (j + m + 1) := Int.ediv_le_self _ htop0;have w3 := Ab (n := (dg u (j + m + 2) * 65536 + dg u (j + m + 1)) / dg v (m + 1)) (by omega) (by omega)
 obtain ⟨q, hg1, hg2, hg3, hg4⟩ := A62 (out := out) (by_ := by_) (u := u) (v := v) (j := j) (m := m) G rfl (by omega) (by omega) hvl rfl rfl (by omega) rfl (q0 := (dg u (j + m + 2) * 65536 + dg u (j + m + 1)) / dg v (m + 1)) (r0 := (dg u (j + m + 2) * 65536 + dg u (j + m + 1)) % dg v (m + 1)) (by rw [Int.mul_comm]; omega) e2 hst (by omega);obtain ⟨u1, c, ht1, O⟩ := A8h (out := out) (by_ := by_) (n := ((m + 2 : Nat) : Int)) (j := j) H.lu H.lv (q := q) ⟨by omega, hg3⟩ (by rw [hvl]) (by omega) hl;have ol := O.len;have oc0 := O.c0;have oc1 := O.c1
 have ohi : dg u1 (j + m + 2) = dg u (j + m + 2) := O.hi _ (by omega);have ov := O.v;rw [zc4 (za8 _), hvl, show j + (m + 2) = j + m + 2 by omega] at ov;have gu1 : AY u1 (j + m + 2) = some (dg u (j + m + 2)) := by unfold AY; rw [Am (by omega), ohi]
 have w4 := Ab (n := dg u (j + m + 2) - c) (by omega) (by omega);have w5 := Ab (n := (j : Int) - 1) (by omega) (by omega);have hset : val (u1.set (j + m + 2) (dg u (j + m + 2) - c)) = val u - B j * (q * val v) := by
  rw [Gn (Am (show j + m + 2 < u1.length by omega)), ohi, show dg u (j + m + 2) - c - dg u (j + m + 2) = -c by omega, Int.mul_neg];omega
 have hsl : (u1.set (j + m + 2) (dg u (j + m + 2) - c)).length = u.length := by rw [List.length_set]; exact ol
 have hsg : ∀ i, i < j + m + 2 -> 0 <= dg (u1.set (j + m + 2) (dg u (j + m + 2) - c)) i /\ dg (u1.set (j + m + 2) (dg u (j + m + 2) - c)) i < 65536 := fun i hi => by rw [Ch (by omega)]; exact Bb O.lb i
 have hsh : ∀ i, j + m + 2 < i -> dg (u1.set (j + m + 2) (dg u (j + m + 2) - c)) i = dg u i := fun i hi => by rw [Ch (by omega)]; exact O.hi i (by omega)
 have hsd : dg (u1.set (j + m + 2) (dg u (j + m + 2) - c)) (j + m + 2) = dg u (j + m + 2) - c := by rw [AU6 (by omega), zr rfl]
 have gs : AY (u1.set (j + m + 2) (dg u (j + m + 2) - c)) (j + m + 2) = some (dg u (j + m + 2) - c) := by unfold AY; rw [Am (by omega), hsd]
 have gout : AY out j = some (dg out j) := Am hj;have gu0 : AY u (j + m + 2) = some (dg u (j + m + 2)) := Am (by omega);have gu00 : AY u (j + m + 1) = some (dg u (j + m + 1)) := Am (by omega);have gv0 : AY v (m + 1) = some (dg v (m + 1)) := Am (by omega);rcases H.one hg2 hg4 with hq | hq
 ·obtain ⟨f1, f2, f3⟩ := H.done hsl hsg hsh hset (by rw [hq]; exact hmod);rw [hsd] at f1;rw [f1] at hset hsl hsg hsh hsd gs w4 f2 f3;refine ⟨_, ?_, hsl, f2, by rw [hset, hq], f3⟩
  unfold Dp;rw [hge];simp only [cond_true, cond_false, za0, hk u rfl, gu0, hk1, gu00, hk2, gv0, hz, w1, w2, zc5 htop0, zb7 htop0, w3];rw [hg1];simp only [za0];rw [ht1];simp only [za0, hk u1 ol, gu1, f1, w4, hk _ hsl, gs, show decide ((0 : Int) < 0) = false from rfl, cond_false, hj0 out rfl, gout, w5, hq]
 ·obtain ⟨f1, X, f2, f3, f4⟩ := H.after hsl hsg hsh hset;rw [hsd] at f4;have hneg : dg u (j + m + 2) - c = -1 := by
   have hlt := H.lt;have hqv : q * val v = val (u.drop j) / val v * val v + val v := by rw [hq, Int.add_mul, Int.one_mul]
   have := RZ (j := m + 2) (a := val (u.drop j) - q * val v + B (m + 2)) (b := X) (X := -1) (Y := dg u (j + m + 2) - c) (by omega) (by omega) (by rw [f4, Int.mul_neg, Int.mul_one]; omega);exact this.symm
  rw [hneg] at hset hsl hsg hsh hsd gs w4;obtain ⟨u3, c3, hb1, K⟩ := A8D (out := out) (by_ := by_) (n := ((m + 2 : Nat) : Int)) (q := val (u.drop j) / val v) (u0 := u1.set (j + m + 2) (-1)) (v := v) (j := j) (by rw [hvl]; exact hsg) H.lv (by rw [hvl]) (by omega) (by omega);have kl : u3.length = u.length := K.len.trans hsl;have kc0 := K.c0;have kc1 := K.c1;have khi : dg u3 (j + m + 2) = -1 := by rw [K.hi _ (by omega), hsd]
  have kv := K.v;rw [zc4 (za8 _), hvl, show j + (m + 2) = j + m + 2 by omega, hset] at kv;have hset' : val (u3.set (j + m + 2) (-1 + c3)) = val u - B j * (val (u.drop j) / val v * val v) := by
   rw [Gn (Am (show j + m + 2 < u3.length by omega)), khi, show -1 + c3 - -1 = c3 by omega];have : B j * (q * val v) = B j * (val (u.drop j) / val v * val v) + B j * val v := by rw [hq, Int.add_mul, Int.one_mul, ze3]
   omega
  obtain ⟨f1, f2, f3⟩ := H.done (u4 := u3.set (j + m + 2) (-1 + c3)) (by rw [List.length_set]; exact kl) (fun i hi => by rw [Ch (by omega)]; exact K.lb i (by omega)) (fun i hi => by rw [Ch (by omega), K.hi i (by omega)]; exact hsh i hi) hset' hmod;refine ⟨_, ?_, by rw [List.length_set]; exact kl, f2, hset', f3⟩
  have gu3 : AY u3 (j + m + 2) = some (-1) := by unfold AY; rw [Am (by omega), khi]
  have w6 := Ab (n := -1 + c3) (by omega) (by omega);have w7 : zi zj (q - 1) = val (u.drop j) / val v := by rw [Ab (by omega) (by omega)]; omega
  unfold Dp;rw [hge];simp only [cond_true, cond_false, za0, hk u rfl, gu0, hk1, gu00, hk2, gv0, hz, w1, w2, zc5 htop0, zb7 htop0, w3];rw [hg1];simp only [za0];rw [ht1];simp only [za0, hk u1 ol, gu1, hneg, w4, hk _ hsl, gs, show decide ((-1 : Int) < 0) = true from rfl, cond_true, w7];rw [hb1];simp only [za0, hk u3 kl, gu3, hj0 out rfl, gout, w5, w6]
end
section
open Go
structure Places (u0 v:List Int) (m n:Nat) (u out:List Int):Prop where
 len:u.length=u0.length
 lu:LB u
 le:n+(m+2)<=u0.length
 less:val (u.drop n)<val v
 lo:LB out
 olen:out.length+(m+2)=u0.length
 zero:∀i,i<n->dg out i=0
 v:val u+val v*val out=val u0
theorem Places.place{u0 v u out:List Int}{m n:Nat}(h:Places u0 v m (n+1) u out)(hv:LB v)(hvl:v.length=m+2)(ht:1<=dg v (m+1)):Place u v n m:=
 ⟨h.lu,hv,hvl,ht,by have:=h.le;have:=h.len;omega,h.less⟩
theorem Places.next{u0 v u out u':List Int}{m n:Nat}(h:Places u0 v m (n+1) u out)(H:Place u v n m)(h1:u'.length=u.length)(h2:LB u')(h3:val u'=val u-B n*(val (u.drop n)/val v*val v))(h4:val (u'.drop n)<val v):
  Places u0 v m n u' (out.set n (val (u.drop n)/val v)):=by
 have hle:=h.le;have hol:=h.olen;refine⟨h1.trans h.len,h2,by omega,h4,h.lo.set H.quot,by rw[List.length_set];exact hol,fun i hi=>by rw[Ch (by omega)];exact h.zero i (by omega),?_⟩
 have hz:=h.zero n (by omega);rw[Gn (Am (show n<out.length by omega)),hz,h3,Int.sub_zero,ze3];have:=h.v;have e:val v*(B n*(val (u.drop n)/val v))=B n*(val (u.drop n)/val v*val v):=by grind
 omega
theorem A4c{u0 v:List Int}{m:Nat}{by_:Int}(hv:LB v)(hvl:v.length=m+2)(ht:1<=dg v (m+1))(hl:u0.length<=1000000){n:Nat}{out:List Int}(h:Places u0 v m n u0 out):
  ∃u out',Ad (fun(s:((List Int)×((List Int)×((List Int)×(Int×(Int×Int))))))=>Dp s.1 s.2.1 s.2.2.1 s.2.2.2.1 s.2.2.2.2.1 s.2.2.2.2.2) (u0,(v,(out,(((m+2:Nat):Int),(by_,(n:Int)-1)))))=some (u,(out',(((m+2:Nat):Int),by_)))/\Places u0 v m 0 u out':=by
 obtain⟨⟨u,out'⟩,h1,h2⟩:=JY (body:=fun(s:((List Int)×((List Int)×((List Int)×(Int×(Int×Int))))))=>Dp s.1 s.2.1 s.2.2.1 s.2.2.2.1 s.2.2.2.2.1 s.2.2.2.2.2)
  (st:=fun n (b:List Int×List Int)=>(b.1,(v,(b.2,(((m+2:Nat):Int),(by_,(n:Int)-1)))))) (fin:=fun b=>(b.1,(b.2,(((m+2:Nat):Int),by_)))) (I:=fun n b=>Places u0 v m n b.1 b.2)
  (by
   rintro n ⟨u,out⟩ hI;simp only at hI;have H:=hI.place hv hvl ht;have hle:=hI.le;have hol:=hI.olen;have hul:=hI.len;obtain⟨u',g1,g2,g3,g4,g5⟩:=A6Z (out:=out) (by_:=by_) H (by omega) (by omega);refine⟨(u',out.set n (val (u.drop n)/val v)),?_,hI.next H g2 g3 g4 g5⟩
   simp only;rw[show((n+1:Nat):Int)-1=(n:Int) by omega,g1])
  (by
   rintro⟨u,out⟩ _;unfold Dp
   dsimp only
   rw[zq (by omega)];rfl) n (u0,out) h
 exact⟨u,out',h1,h2⟩
theorem Places.start{u0 v:List Int}{m n:Nat}(hu:LB u0)(hv:LB v)(hvl:v.length=m+2)(ht:1<=dg v (m+1))(hn:u0.length=n+(m+2))(h0:dg u0 (n+(m+1))=0):Places u0 v m n u0 (List.replicate n 0):=by
 refine⟨rfl,hu,by omega,?_,LB.zeros n,by simp;omega,fun i hi=>by unfold dg;rw[zb4,List.getElem?_replicate];split<;>rfl,by rw[FV];omega⟩
 have h1:=Ci (u0.drop n) (m+1);have h2:=C8 (hu.drop n) (m+1);rw[List.drop_drop,C1 u0 (n+(m+1)),h0,zd7 (show u0.length<=n+(m+1)+1 by omega)]at h1;simp only[val]at h1;have h3:=Ci v (m+1);have h4:=AU (hv.take (m+1));have h5:=C1 v (m+1);have h6:=AU (hv.drop (m+1+1));have h7:=zb0 (show 1<=val (v.drop (m+1)) by omega) (ze9 (GM (m+1)));omega
theorem Places.end{u0 v u out:List Int}{m:Nat}(h:Places u0 v m 0 u out)(hv:LB v):val out=val u0/val v/\val u=val u0%val v:=by
 have h1:=h.less;rw[zf5]at h1;exact T4 (by rw[Int.mul_comm];have:=h.v;omega) (AU h.lu) h1
theorem WZ{n:Nat}(h:n≠0):1<=dg (lim n) ((lim n).length-1)/\dg (lim n) ((lim n).length-1)<65536/\B ((lim n).length-1)*dg (lim n) ((lim n).length-1)<=n/\(n:Int)<B ((lim n).length-1)*(dg (lim n) ((lim n).length-1)+1):=by
 have hne:(lim n).length≠0:=fun hh=>h (Jp.1 (zc0 hh))
 have h1:=Ci (lim n) ((lim n).length-1);have h2:=C8 (AH n) ((lim n).length-1);rw[C1,zd7 (show(lim n).length<=(lim n).length-1+1 by omega),Ar]at h1;simp only[val,Int.mul_zero,Int.add_zero]at h1;have h3:=Bb (AH n) ((lim n).length-1);refine⟨?_,h3.2,by omega,by rw[ze3];omega⟩
 rcases Int.lt_or_le 0 (dg (lim n) ((lim n).length-1))with g|g
 ·omega
 ·exfalso
  have g0:dg (lim n) ((lim n).length-1)=0:=by omega
  refine Uz n _ (List.getLast?_eq_getElem? .. ▸Am (show(lim n).length-1<(lim n).length by omega)) g0
end
section
open Go
theorem M8{l:List Int}{n:Int}{i:Nat}(hn:n=(i:Int))(h:i<l.length):AD l n=some (dg l i):=by rw[hn,Af];exact Am h
theorem Af9{n m:Int}{a b k:Nat}(hn:n=(a:Int))(hm:m=(b:Int))(h1:a<=b)(h2:b<=k):FT n m k=some (a,b):=by
 subst hn hm;unfold FT;simp[h1,h2]
theorem AZ6{b:Nat}(h:(lim b).length=1):(lim b)=[(b:Int)]/\b<65536/\b≠0:=by
 match hl:lim b with
 |[]=>rw[hl]at h;simp at h
 |[x]=>
  have hv:=Ar b;have hb:=AH b;rw[hl]at hv hb;have h0:=hb.head;simp only[val]at hv;have:b≠0:=fun h0=>by rw[h0,Cu]at hl;simp at hl
  exact⟨by congr 1;omega,by omega,this⟩
 |x::y::l=>rw[hl]at h;simp at h
theorem Zw{a b c:Nat}(hc:0<c):a*c/(b*c)=a/b/\a*c%(b*c)=a%b*c:=⟨Nat.mul_div_mul_right _ _ hc,Nat.mul_mod_mul_right _ _ _⟩
theorem A85{t by_:Int}(h1:1<=t)(h2:t<65536)(hb:by_=65536/(t+1)):1<=by_/\by_<=32768/\by_*(t+1)<=65536:=by
 have e1:=Int.emod_add_mul_ediv 65536 (t+1);have e2:=Int.emod_nonneg 65536 (show t+1≠0 by omega);have e3:=Int.emod_lt_of_pos 65536 (show 0<t+1 by omega);rw[<-hb]at e1;have e4:1<=by_:=by
  rw[hb];exact(Int.le_ediv_iff_mul_le (by omega)).2 (by omega)
 have e5:by_*2<=by_*(t+1):=zb0 (by omega) (by omega);rw[Int.mul_comm]at e1;exact⟨e4,by omega,by omega⟩
set_option maxHeartbeats 1000000 in
theorem YL {a b : Nat} (hb0 : b ≠ 0) (ha : (lim a).length <= 90000) (hb : (lim b).length <= 90000) : HD (lim a) (lim b) = some (lim (a / b), lim (a % b)) := by
 unfold HD;rw [Hk (by unfold Ax; omega) (by unfold Ax; omega)];simp only [za0];by_cases hab : a < b
 ·rw [Et (by omega)];simp only [show decide ((-1 : Int) < 0) = true from rfl, cond_true];rw [Nat.div_eq_of_lt hab, Nat.mod_eq_of_lt hab, Cu]
 have hc : decide (Dh (a : Int) b < 0) = false := by
  rcases Cd (a : Int) b with ⟨h, g⟩ | ⟨h, _⟩ | ⟨h, _⟩
  ·omega
  ·rw [h]; rfl
  ·rw [h]; rfl
 simp only [hc, cond_false];have hbl : (lim b).length ≠ 0 := fun h => hb0 (Jp.1 (zc0 h))
 by_cases h1 : (lim b).length = 1
 ·obtain ⟨e1, e2, e3⟩ := AZ6 h1;rw [e1];simp only [List.length_singleton, show (((1 : Nat) : Int) == 1) = true from rfl, cond_true];rw [show AD [(b : Int)] 0 = some (b : Int) from rfl];simp only [za0];rw [Xc (by omega) (by omega)];simp only [za0, zc8];rw [Al2 (by unfold Ax; simp)];have hm := Nat.mod_lt a (show b > 0 by omega);simp only [za0, CB (LB.cons (show (0 : Int) <= ((a % b : Nat) : Int) /\ ((a % b : Nat) : Int) < 65536 by omega) LB.nil), val]
  congr 3
 have hn1 : ((((lim b).length : Nat) : Int) == 1) = false := beq_eq_false_iff_ne.2 (by omega);obtain ⟨m, hm⟩ : ∃ m, (lim b).length = m + 2 := ⟨(lim b).length - 2, by omega⟩;obtain ⟨t1, t2, t3, t4⟩ := WZ hb0;rw [hm, show m + 2 - 1 = m + 1 by omega] at t1 t2 t3 t4;have hg := M8 (l := lim b) (n := zi zj (((lim b).length : Int) - 1)) (i := m + 1) (by rw [Ab (by omega) (by omega)]; omega) (by omega);generalize ht : dg (lim b) (m + 1) = t at *
 have wt : zi zj (t + 1) = t + 1 := Ab (by omega) (by omega);have hz : (t + 1 == 0) = false := beq_eq_false_iff_ne.2 (by omega);obtain ⟨s1, s2, s3⟩ := A85 t1 t2 rfl;have hby : zi zj (Int.tdiv 65536 (t + 1)) = 65536 / (t + 1) := by rw [zc5 (by omega)]; exact Ab (by omega) (by omega)
 generalize hby2 : 65536 / (t + 1) = by_ at *
 obtain ⟨c, rfl⟩ : ∃ c : Nat, by_ = (c : Int) := ⟨by_.toNat, by omega⟩;have hb40 : (lim a).length <= 90000 := ha;have hBa : (a : Int) < B (lim a).length := An.1 (za8 _);have hBb : (b : Int) < B (lim b).length := An.1 (za8 _);have hB1 : B 1 = 65536 := rfl;have fitc : ∀ k, 1 <= k -> (((c : Int)).natAbs : Int) < B k := fun k hk => by
  have := KH hk;omega
 have hk1 : 1 <= (lim a).length := by
  rcases Nat.eq_zero_or_pos (lim a).length with h | h
  ·have := Jp.1 (zc0 h); omega
  ·exact h
 obtain ⟨ra, hra, era⟩ := Ee (x := (a : Int)) (y := (c : Int)) (k := (lim a).length) (by omega) (by rw [zf1]; exact hBa) (fitc _ hk1);obtain ⟨rb, hrb, erb⟩ := Ee (x := (b : Int)) (y := (c : Int)) (k := (lim b).length) (by omega) (by rw [zf1]; exact hBb) (fitc _ (by omega));have bn : ∀ n : Nat, big (n : Int) = (false, lim n) := fun n => by unfold big; rw [zq (by omega), zf1]
 have ra1 : ra.1 = lim (a * c) := by rw [show (a : Int) * c = ((a * c : Nat) : Int) by simp, bn] at era; exact (Prod.ext_iff.1 era).2
 have rb1 : rb.1 = lim (b * c) := by rw [show (b : Int) * c = ((b * c : Nat) : Int) by simp, bn] at erb; exact (Prod.ext_iff.1 erb).2
 rw [bn, bn] at hra hrb;have mkb : ∀ n : Nat, (lim n).length <= 90000 -> Bm false (lim n) = some (lim n, false) := fun n hn => by
  rw [IA (AH n) (by unfold Ax; omega), Ar]; simp
 simp only [hn1, cond_false, hg, za0, wt, hz, hby, mkb a ha, mkb b hb, WV (n := (c : Int)) (by omega) (by omega), bn, hra, hrb, ra1, rb1];have hc0 : 0 < c := by omega
 have la : (lim a).length <= (lim (a * c)).length := by
  rw [An];have h1 : ((a * c : Nat) : Int) < B (lim (a * c)).length := An.1 (za8 _);have : a * 1 <= a * c := Nat.mul_le_mul_left _ (by omega);omega
 have la2 : (lim (a * c)).length <= (lim a).length + 1 := by
  rw [An];rw [show ((a * c : Nat) : Int) = (a : Int) * c by simp];have e1 : (a : Int) * c <= a * 65536 := zb0 (by omega) (by omega);simp only [B];omega
 have lb : (lim (b * c)).length = m + 2 := by
  apply Nat.le_antisymm
  ·rw [An];rw [show ((b * c : Nat) : Int) = (b : Int) * c by simp];have e1 : (b : Int) * c < B (m + 1) * (t + 1) * c := Int.mul_lt_mul_of_pos_right t4 (by omega);have e2 : B (m + 1) * ((c : Int) * (t + 1)) <= B (m + 1) * 65536 := zb0 s3 (ze9 (GM _));have e3 : B (m + 1) * (t + 1) * c = B (m + 1) * ((c : Int) * (t + 1)) := by rw [Int.mul_assoc, Int.mul_comm (t + 1)]
   have e4 : B (m + 2) = B (m + 1) * 65536 := by simp only [B]; omega
   omega
  ·rw [<- hm, An];have h1 : ((b * c : Nat) : Int) < B (lim (b * c)).length := An.1 (za8 _);have : b * 1 <= b * c := Nat.mul_le_mul_left _ (by omega);omega
 have happ : CZ 8 1 (lim (a * c)) [0] = some (lim (a * c) ++ [0]) := AK0 (by omega);have hle : (lim b).length <= (lim a).length := by
  rw [An]; omega
 simp only [happ, za0];rw [Ak (r := (lim (a * c) ++ [0], (lim (b * c), (((lim b).length : Int), (c : Int))))) (by
  unfold PM
  dsimp only
  rw [Ab (by omega) (by omega), zq (by simp; omega)];rfl)]
 simp only [za0];have hlu : (lim (a * c) ++ [(0 : Int)]).length = ((lim (a * c)).length - (m + 1)) + (m + 2) := by simp; omega
 have wl : zi zj (((lim (a * c) ++ [(0 : Int)]).length : Int) - ((lim b).length : Int)) = (((lim (a * c)).length - (m + 1) : Nat) : Int) := by
  rw [Ab (by omega) (by omega)]; omega
 generalize hn : (lim (a * c)).length - (m + 1) = n at *
 rw [wl, IR (by unfold Ae; omega) (by unfold Ae; omega)];simp only [za0];have hval0 : val (lim (a * c) ++ [(0 : Int)]) = ((a * c : Nat) : Int) := by rw [MA, Ar]; omega
 have hlb0 : LB (lim (a * c) ++ [(0 : Int)]) := (AH _).append (LB.cons (by omega) LB.nil);have hbc0 : b * c ≠ 0 := Nat.mul_ne_zero hb0 (by omega);have htop := (WZ hbc0).1;rw [lb, show m + 2 - 1 = m + 1 by omega] at htop;obtain ⟨u, out, hp, P⟩ := A4c (by_ := (c : Int)) (AH (b * c)) lb htop (by omega) (Places.start hlb0 (AH _) lb htop hlu (by
  unfold dg;rw [zb4, List.getElem?_append_right (by omega), show n + (m + 1) - (lim (a * c)).length = 0 by omega];rfl))
 rw [show ((lim b).length : Int) = ((m + 2 : Nat) : Int) by omega, Ab (by omega) (by omega), hp];simp only [za0];obtain ⟨p1, p2⟩ := P.end (AH _);rw [hval0, Ar] at p1 p2;obtain ⟨q1, q2⟩ := Zw (a := a) (b := b) hc0;have p1' : val out = ((a / b : Nat) : Int) := by rw [p1, <- q1]; simp
 have p2' : val u = ((a % b * c : Nat) : Int) := by rw [p2, <- q2]; simp
 have hul := P.len;have hol := P.olen;rw [Af9 (a := 0) (b := m + 2) (by rfl) rfl (by omega) (by omega)];simp only [za0, zf5, Nat.sub_zero, zf0];have hless := P.less;rw [zf5, Ar] at hless;have hbc : ((b * c : Nat) : Int) < B (m + 2) := by rw [<- lb]; exact An.1 (za8 _)
 have hvt : val (u.take (m + 2)) = val u := by
  have h1 := Ci u (m + 2);have h2 := (AZ5 P.lu (n := m + 2) (k := m + 2) (by omega) (za8 _)).2;rw [h2] at h1;omega
 rw [Al2 (by unfold Ax; rw [zf2]; omega)];simp only [za0];rw [CB (P.lu.take _), hvt, p2', zc8, Xc (by omega) (by
  have : (lim (a % b * c)).length <= m + 2 := by
   rw [An];have := Nat.mul_lt_mul_of_pos_right (Nat.mod_lt a (show b > 0 by omega)) hc0;omega
  omega)]
 simp only [za0];rw [Al2 (by unfold Ax; omega)];simp only [za0];rw [CB P.lo, p1', zc8, zc8, Nat.mul_div_cancel _ hc0]
end
section
open Go
theorem AB4(v:List Int)(k:Nat):dg (v++[0]) k=dg v k:=by
 unfold dg;simp only[zb4];rcases ze4 k v.length with h|h
 ·rw[zd9 h]
 ·rw[List.getElem?_append_right h,ze8 h];rcases Nat.eq_zero_or_pos (k-v.length)with g|g
  ·rw[g];rfl
  ·rw[ze8 (by simp;omega)]
theorem Aj2(v:List Int):val (v++[0])=val v:=by rw[MA];omega
theorem AH7{v:List Int}(h:LB v):LB (v++[0]):=h.append (LB.cons (by omega) LB.nil)
theorem A7Z{u0 v:List Int}{q:Int}{j:Nat}(hu:LB u0)(hv:LB v)(hq:0<=q/\q<65536)(hlen:j+v.length<u0.length)(hl:u0.length<=1000000):
  ∃u c,Np u0 v (j:Int) q=some (u,c)/\Off u0 u j (v.length+1) c q (v++[0]):=by
 obtain⟨⟨u,c⟩,h1,h2⟩:=CK (body:=fun(s:((List Int)×((List Int)×(Int×(Int×(Int×Int))))))=>Jw s.1 s.2.1 s.2.2.1 s.2.2.2.1 s.2.2.2.2.1 s.2.2.2.2.2)
  (st:=fun k (b:List Int×Int)=>(b.1,(v,((j:Int),(q,(b.2,(k:Int))))))) (fin:=fun b=>(b.1,b.2)) (I:=fun k b=>Off u0 b.1 j k b.2 q (v++[0])) (e:=v.length+1)
  (by
   rintro k ⟨u,c⟩ hk hI;simp only at hI;have hul:=hI.len;have hp:j+k<u.length:=by omega
   have du:=Bb hI.lb (j+k);have dv:=Bb hv k;have c0:=hI.c0;have c1:=hI.c1;have m0:0<=q*dg v k:=zf6 hq.1 dv.1;have m1:q*dg v k<=65535*65535:=Int.le_trans (zb0 (show dg v k<=65535 by omega) hq.1) (za7 (show q<=65535 by omega) (by omega));have hnx:=hI.next (AH7 hv) hq hp rfl;rw[AB4]at hnx;refine⟨(u.set (j+k) (dg u (j+k)-q*dg v k-c+(if dg u (j+k)-q*dg v k-c<0 then(-(dg u (j+k)-q*dg v k-c)+65536-1)/65536 else 0)*65536),if dg u (j+k)-q*dg v k-c<0 then(-(dg u (j+k)-q*dg v k-c)+65536-1)/65536 else 0),?_,hnx⟩
   unfold Jw AY
   dsimp only
   have i1:A2 ((j:Int)+(k:Int)) u.length=some (j+k):=by rw[show(j:Int)+(k:Int)=((j+k:Nat):Int) by omega];exact AW hp
   have hw1:=AA (show k<4611686018427387904 by omega);have hjk:=Ab (n:=(j:Int)+(k:Int)) (by omega) (by omega);rw[zp (by omega),hjk];simp only[cond_true,i1,za0,Am hp,LZ];rw[Ab (n:=q*dg v k) (by omega) (by omega),Ab (n:=dg u (j+k)-q*dg v k) (by omega) (by omega),Ab (n:=dg u (j+k)-q*dg v k-c) (by omega) (by omega)];have hxb: -4294967296<=dg u (j+k)-q*dg v k-c/\dg u (j+k)-q*dg v k-c<65536:=by omega
   generalize dg u (j+k)-q*dg v k-c=x at*
   by_cases hx:x<0
   ·rw[zp hx,zr hx,Ab (n:=0-x) (by omega) (by omega),Ab (n:=0-x+65536) (by omega) (by omega),Ab (n:=0-x+65536-1) (by omega) (by omega),zc5 (by omega),show 0-x+65536-1= -x+65536-1 by omega];rw[Ab (n:=(-x+65536-1)/65536) (by omega) (by omega),Ab (n:=(-x+65536-1)/65536*65536) (by omega) (by omega),Ab (n:=x+(-x+65536-1)/65536*65536) (by omega) (by omega)];simp only[cond_true,za0,za9,hjk,i1,Am hp,hw1]
   ·rw[zq hx,zw hx];simp only[cond_false,za0,za9,hjk,i1,Am hp,hw1,Int.zero_mul,Int.add_zero])
  (by
   rintro⟨u,c⟩ _;unfold Jw
   dsimp only
   rw[zq (by omega)];rfl) 0 (u0,0) (by omega) (Off.start hu j q (v++[0]))
 refine⟨u,c,?_,h2⟩
 unfold Np
 dsimp only at h1
 rw[show((0:Nat):Int)=0 from rfl]at h1;rw[h1];rfl
theorem A8J{u0 v:List Int}{j:Nat}(hu:LB u0)(hv:LB v)(hlen:j+v.length<u0.length)(hl:u0.length<=1000000):
  ∃u c,NC u0 v (j:Int)=some u/\Back u0 u j (v.length+1) c (v++[0]):=by
 obtain⟨⟨u,c⟩,h1,h2⟩:=CK (body:=fun(s:((List Int)×((List Int)×(Int×(Int×Int)))))=>JC s.1 s.2.1 s.2.2.1 s.2.2.2.1 s.2.2.2.2)
  (st:=fun k (b:List Int×Int)=>(b.1,(v,((j:Int),(b.2,(k:Int)))))) (fin:=fun b=>b.1) (I:=fun k b=>Back u0 b.1 j k b.2 (v++[0])) (e:=v.length+1)
  (by
   rintro k ⟨u,c⟩ hk hI;simp only at hI;have hul:=hI.len;have hp:j+k<u.length:=by omega
   have du:=hI.lb (j+k) (by simp;omega);have dv:=Bb hv k;have c0:=hI.c0;have c1:=hI.c1;have hnx:=hI.next (AH7 hv) (by simp;omega) hp;rw[AB4]at hnx;refine⟨⟨_,_⟩,?_,hnx⟩
   unfold JC AY
   dsimp only
   have i1:A2 ((j:Int)+(k:Int)) u.length=some (j+k):=by rw[show(j:Int)+(k:Int)=((j+k:Nat):Int) by omega];exact AW hp
   have hw1:=AA (show k<4611686018427387904 by omega);have hjk:=Ab (n:=(j:Int)+(k:Int)) (by omega) (by omega);rw[zp (by omega),hjk];simp only[cond_true,i1,za0,Am hp,LZ];rw[Ab (n:=dg u (j+k)+dg v k) (by omega) (by omega),Ab (n:=dg u (j+k)+dg v k+c) (by omega) (by omega),zb7 (by omega),zc5 (by omega),Ab (n:=(dg u (j+k)+dg v k+c)/65536) (by omega) (by omega),hw1])
  (by
   rintro⟨u,c⟩ _;unfold JC
   dsimp only
   rw[zq (by omega)];rfl) 0 (u0,0) (by omega) ⟨rfl,fun i _=>Bb hu i,fun _ _=>rfl,by simp only;omega,by simp only;omega,by simp[val]⟩
 refine⟨u,c,?_,h2⟩
 unfold NC
 dsimp only at h1
 rw[show((0:Nat):Int)=0 from rfl]at h1;rw[h1];rfl
theorem A6d{u v:List Int}{j m:Nat}(H:Place u v j m)(hl:u.length<=1000000):
  ∃q,K5 u v (j:Int)=some q/\val (u.drop j)/val v<=q/\q<65536/\q*val v<val (u.drop j)+val v:=by
 have G:=H.guess;have hv:=H.hv;have hlen:=H.len;have hrest:=H.rest;have hst:=H.start;have d1:=Bb H.lu (j+m+1);have d2:=Bb H.lu (j+m+2);have hu:j+m<u.length:=by omega
 have htop65:dg u (j+m+2)*65536+dg u (j+m+1)<65536*(dg v (m+1)+1):=by
  have hP:=G.hP;have hU:=G.hU;have hV:=G.hV;have hv2:=G.hv2;have hvr:=G.hvr;have hu2:=G.hu2;have hur:=G.hur;rcases Int.lt_or_le (dg u (j+m+2)*65536+dg u (j+m+1)) (65536*(dg v (m+1)+1))with h|h
  ·exact h
  ·exfalso
   generalize dg u (j+m+2)*65536+dg u (j+m+1)=top at*
   generalize dg v (m+1)=v1 at*
   generalize dg v m=v2 at*
   generalize dg u (j+m)=u2 at*
   generalize val (v.take m)=vr at*
   generalize val ((u.drop j).take m)=ur at*
   have e1:=za7 (show 65536*(v1+1)*65536<=top*65536+u2 by omega) (ze9 hP);have e2:=za7 (show v1*65536+v2+1<=(v1+1)*65536 by omega) (ze9 hP);rw[Int.add_mul,Int.one_mul]at e2;have e3:65536*(v1+1)*65536*B m=65536*((v1+1)*65536*B m):=by grind
   omega
 have hv1:=G.hv1;have hv1':=G.hv1';have htop0:0<=dg u (j+m+2)*65536+dg u (j+m+1):=by omega
 have e1:=Int.emod_add_mul_ediv (dg u (j+m+2)*65536+dg u (j+m+1)) (dg v (m+1));have e2:=Int.emod_nonneg (dg u (j+m+2)*65536+dg u (j+m+1)) (show dg v (m+1)≠0 by omega);have e3:(dg u (j+m+2)*65536+dg u (j+m+1))/dg v (m+1)<=dg u (j+m+2)*65536+dg u (j+m+1):=Int.ediv_le_self _ htop0;have e4:=Int.ediv_nonneg htop0 (show 0<=dg v (m+1) by omega);have w1:=Ab (n:=dg u (j+m+2)*65536) (by omega) (by omega);have w2:=Ab (n:=dg u (j+m+2)*65536+dg u (j+m+1)) (by omega) (by omega);have w3:=Ab (n:=(dg u (j+m+2)*65536+dg u (j+m+1))/dg v (m+1)) (by omega) (by omega)
 have g1:AD u (zi zj ((j:Int)+(v.length:Int)))=some (dg u (j+m+2)):=M8 (by rw[Ab (by omega) (by omega)];omega) (by omega);have g2:AD u (zi zj (zi zj ((j:Int)+(v.length:Int))-1))=some (dg u (j+m+1)):=M8 (by rw[Ab (n:=(j:Int)+(v.length:Int)) (by omega) (by omega),Ab (by omega) (by omega)];omega) (by omega);have g3:AD v (zi zj ((v.length:Int)-1))=some (dg v (m+1)):=M8 (by rw[Ab (by omega) (by omega)];omega) (by omega);have g4:AD v (zi zj ((v.length:Int)-2))=some (dg v m):=M8 (by rw[Ab (by omega) (by omega)];omega) (by omega)
 have g5:AD u (zi zj (zi zj ((j:Int)+(v.length:Int))-2))=some (dg u (j+m)):=M8 (by rw[Ab (n:=(j:Int)+(v.length:Int)) (by omega) (by omega),Ab (by omega) (by omega)];omega) (by omega);have hz:(dg v (m+1)==0)=false:=beq_eq_false_iff_ne.2 (by omega);obtain⟨r,h1,h2⟩:=Gi (f:=fun(s:((List Int)×((List Int)×(Int×(Int×(Int×Int))))))=>ET s.1 s.2.1 s.2.2.1 s.2.2.2.1 s.2.2.2.2.1 s.2.2.2.2.2)
  (I:=fun s=>∃q r:Int,s=(u,(v,((j:Int),((v.length:Int),(q,r)))))/\q*dg v (m+1)+r=dg u (j+m+2)*65536+dg u (j+m+1)/\0<=r/\val (u.drop j)/val v<=q/\q<4294967296)
  (R:=fun q=>val (u.drop j)/val v<=q/\q<65536/\q*val v<val (u.drop j)+val v) (fun s=>s.2.2.2.2.1.toNat) (by
   rintro s ⟨q,r,rfl,f1,f2,f3,f4⟩;simp only;have hQ0:=G.hQ0;have hQ1:=G.hQ1;have hv2:=G.hv2;have hu2:=G.hu2;have htop:=G.htop;have hqv:0<=q*dg v (m+1):=zf6 (by omega) (by omega);have hqv2:0<=q*dg v m:=zf6 (by omega) hv2.1;have hqv2':q*dg v m<=4294967296*65536:=Int.le_trans (zb0 (show dg v m<=65536 by omega) (by omega)) (za7 (show q<=4294967296 by omega) (by omega));have w5:=Ab (n:=q*dg v m) (by omega) (by omega);have w6:=Ab (n:=r*65536) (by omega) (by omega);have w7:=Ab (n:=r*65536+dg u (j+m)) (by omega) (by omega);have w8:=Ab (n:=q-1) (by omega) (by omega)
   have w9:=Ab (n:=r+dg v (m+1)) (by omega) (by omega);have less:∀(hgo:val (u.drop j)/val v<=q-1),∃q' r':Int,(u,(v,((j:Int),((v.length:Int),(q-1,r+dg v (m+1))))))=(u,(v,((j:Int),((v.length:Int),(q',r')))))/\q'*dg v (m+1)+r'=dg u (j+m+2)*65536+dg u (j+m+1)/\0<=r'/\val (u.drop j)/val v<=q'/\q'<4294967296:=by
    intro hgo;exact⟨q-1,r+dg v (m+1),rfl,by rw[Int.sub_mul];omega,by omega,hgo,by omega⟩
   by_cases c2:r<65536
   ·by_cases c1:q>=65536
    ·refine .inl ⟨(u,(v,((j:Int),((v.length:Int),(q-1,r+dg v (m+1)))))),?_,less (by omega),by simp only;omega⟩
     unfold ET;rw[zp c2,zp c1];simp only[cond_true,za0,Sum.elim_inl,za9,g3,w8,w9]
    ·by_cases c3:q*dg v m>r*65536+dg u (j+m)
     ·have hlt:=Yr G.hP G.hv1 G.hv2 G.hvr G.hu2 G.hur G.hV G.hU f1 (by omega) c3;have hne:val (u.drop j)/val v<=q-1:=by
       rcases Int.lt_or_le (q-1) (val (u.drop j)/val v)with h|h
       ·have:q=val (u.drop j)/val v:=by omega
        have:=G.hQ;subst q;omega
       ·exact h
      refine .inl ⟨(u,(v,((j:Int),((v.length:Int),(q-1,r+dg v (m+1)))))),?_,less hne,by simp only;omega⟩
      unfold ET;rw[zp c2,zq c1];simp only[cond_true,cond_false,za0,g4,g5,w5,w6,w7,zp c3,za9,g3,w8,w9]
     ·refine .inr ⟨q,?_,f3,by omega,Af6 G.hP G.hv1 G.hv2 G.hvr G.hu2 G.hur G.hV G.hU f1 (by omega) (by omega) (by omega)⟩
      unfold ET;rw[zp c2,zq c1];simp only[cond_true,cond_false,za0,g4,g5,w5,w6,w7,zq c3,Sum.elim_inl]
   ·have hq65:q<65536:=by
     rcases Int.lt_or_le q 65536 with h|h
     ·exact h
     ·exfalso
      have:=za7 h (show 0<=dg v (m+1) by omega);omega
    have hle:=YP G.hP G.hv1 G.hv2 G.hvr G.hu2 G.hur G.hV G.hU f1 (by omega) hq65 (by omega);have hV0:=G.hV0;refine .inr ⟨q,?_,f3,hq65,by omega⟩
    unfold ET;rw[zq c2];rfl) (u,(v,((j:Int),((v.length:Int),((dg u (j+m+2)*65536+dg u (j+m+1))/dg v (m+1),(dg u (j+m+2)*65536+dg u (j+m+1))%dg v (m+1)))))) ⟨_,_,rfl,by rw[Int.mul_comm];omega,e2,hst,by omega⟩
 refine⟨r,?_,h2⟩
 unfold K5;simp only[g1,g2,g3,za0,hz,cond_false,w1,w2,zc5 htop0,zb7 htop0,w3];rw[h1];rfl
theorem Place.part{u v u':List Int}{j m:Nat}(H:Place u v j m)(h1:u'.length=u.length)(h2:LB u')(h3:∀i,j+m+3<=i->dg u' i=dg u i){W e:Int}(h4:val u'=val u-B j*W+B (j+m+3)*e):
  val (u'.drop j)=val (u.drop j)-W+B (m+3)*e/\0<=val (u'.drop j)/\val (u'.drop j)<B (m+3):=by
 have hz:val (u'.drop (j+(m+3)))=0:=OV fun i=>by rw[WS,h3 _ (by omega)];exact(H.high (by omega)).1
 have p1:=Ci (u'.drop j) (m+3);rw[List.drop_drop,hz]at p1;have p2:=C8 (h2.drop j) (m+3);have p3:=Ci u' j;have p4:=Ci u j;have p5:=C8 h2 j;have p6:=C8 H.lu j;refine⟨?_,by omega,by omega⟩
 refine RZ p5 p6 ?_
 have e1:B (j+m+3)*e=B j*(B (m+3)*e):=by rw[show j+m+3=j+(m+3) by omega,R2];grind
 rw[ze3,Int.mul_sub];omega
set_option maxHeartbeats 1000000 in
theorem A66 {u v out : List Int} {bits : Int} {j m : Nat} (H : Place u v j m) (hl : u.length <= 1000000) (hj : j < out.length) :
  ∃ u', CG u v out bits (j : Int) = some (.inl (u', (v, (out.set j (val (u.drop j) / val v), (bits, (j : Int) - 1))))) /\
   u'.length = u.length /\ LB u' /\ val u' = val u - B j * (val (u.drop j) / val v * val v) /\ val (u'.drop j) < val v := by
 have hlen := H.len;have hvl := H.hv;have hQ := H.quot;have hmod := H.mod;have hlt := H.lt;have hpos := H.pos;have hB3 : B (m + 3) = 65536 * B (m + 2) := rfl;obtain ⟨q, hg1, hg2, hg3, hg4⟩ := A6d H hl;obtain ⟨u1, c, ht1, O⟩ := A7Z (j := j) (q := q) H.lu H.lv ⟨by omega, hg3⟩ (by omega) hl;have ov := O.v;have ol := O.len;have oc0 := O.c0;rw [zc4 (by simp), Aj2, hvl, show j + (m + 2 + 1) = j + m + 3 by omega] at ov;have oh := O.hi;rw [hvl, show j + (m + 2 + 1) = j + m + 3 by omega] at oh;obtain ⟨p1, p2, p3⟩ := H.part ol O.lb oh (W := q * val v) (e := c) (by omega)
 have hge : decide ((j : Int) >= 0) = true := zp (by omega);have w5 := Ab (n := (j : Int) - 1) (by omega) (by omega);have hj0 : A2 (j : Int) out.length = some j := AW hj;have gout : AY out j = some (dg out j) := Am hj;have hBp := GM (m + 3);rcases H.one hg2 hg4 with hq | hq
 ·have hc : c = 0 := by
   rw [hq] at p1;have := RZ (j := m + 3) (a := val (u1.drop j)) (b := val (u.drop j) - val (u.drop j) / val v * val v) (X := 0) (Y := c) ⟨p2, p3⟩ (by omega) (by omega);exact this.symm
  subst hc;refine ⟨u1, ?_, ol, O.lb, by rw [hq] at ov; omega, by rw [hq] at p1; omega⟩
  unfold CG;simp only [hge, cond_true, hg1, ht1, za0, ol, decide_true, show decide ((0 : Int) > 0) = false from rfl, cond_false, hj0, gout, w5];rw [hq]
 ·have hqv : q * val v = val (u.drop j) / val v * val v + val v := by rw [hq, Int.add_mul, Int.one_mul]
  have hc : c = 1 := by
   have := RZ (j := m + 3) (a := val (u1.drop j)) (b := val (u.drop j) - q * val v + B (m + 3)) (X := 1) (Y := c) ⟨p2, p3⟩ (by omega) (by omega);exact this.symm
  subst hc;obtain ⟨u2, c2, hb1, K⟩ := A8J (u0 := u1) (v := v) (j := j) O.lb H.lv (by omega) (by omega);have kl := K.len;have kh := K.hi;have kv := K.v;rw [zc4 (by simp), Aj2, hvl, show j + (m + 2 + 1) = j + m + 3 by omega] at kv;rw [hvl, show j + (m + 2 + 1) = j + m + 3 by omega] at kh;have klb : LB u2 := XA fun i hi => by
   rcases ze4 i (j + m + 3) with g | g
   ·exact K.lb i (by simp; omega)
   ·rw [kh i g]; exact Bb O.lb i
  have e1 : B j * (q * val v) = B j * (val (u.drop j) / val v * val v) + B j * val v := by rw [hqv, ze3]
  have hall : val u2 = val u - B j * (val (u.drop j) / val v * val v) + B (j + m + 3) * (1 - c2) := by
   rw [Int.mul_sub]; omega
  obtain ⟨k1, k2, k3⟩ := H.part (kl.trans ol) klb (fun i hi => (kh i hi).trans (oh i hi)) hall;have hc2 : c2 = 1 := by
   have := RZ (j := m + 3) (a := val (u2.drop j)) (b := val (u.drop j) - val (u.drop j) / val v * val v) (X := 0) (Y := 1 - c2) ⟨k2, k3⟩ (by omega) (by omega);omega
  subst hc2;refine ⟨u2, ?_, kl.trans ol, klb, by omega, by omega⟩
  have w7 : zi zj (q - 1) = val (u.drop j) / val v := by rw [Ab (by omega) (by omega)]; omega
  unfold CG;simp only [hge, cond_true, hg1, ht1, za0, ol, decide_true, show decide ((1 : Int) > 0) = true from rfl, hb1, kl, hj0, gout, w5, w7]
end
section
open Go
theorem A0P{s o t:Nat}(ho:o<2^s)(h:2^s*t+o<4611686018427387904):orI .i64 (o:Int) ((2^s*t:Nat):Int)=((o+2^s*t:Nat):Int):=by
 unfold orI;rw[BitVec.ofInt_natCast,BitVec.ofInt_natCast,BitVec.toNat_or,BitVec.toNat_ofNat,BitVec.toNat_ofNat];have h64:IntKind.bits .i64=64:=rfl;rw[h64,Nat.mod_eq_of_lt (by omega),Nat.mod_eq_of_lt (by omega),Nat.or_comm,<-Nat.two_pow_add_eq_or_of_lt ho,Ab (by omega) (by omega)];omega
theorem Xr{x:Int}{s:Nat}(hs:s<=63)(h0: -9223372036854775808<=x*2^s)(h1:x*2^s<=9223372036854775807):TZ .i64 x (zi zk (s:Int))=x*2^s:=by
 unfold TZ;rw[Yc (by omega) (by omega),show min ((s:Int).toNat) (IntKind.bits .i64)=s by simp[IntKind.bits];omega,Ab h0 h1]
theorem A5v{x:Int}{s:Nat}(hs:s<=63):AR8 .i64 x (zi zk (s:Int))=x/2^s:=by
 unfold AR8;rw[Yc (by omega) (by omega),show min ((s:Int).toNat) (IntKind.bits .i64)=s by simp[IntKind.bits];omega];exact Int.fdiv_eq_ediv_of_nonneg _ (ze9 (Int.pow_pos (by decide)))
theorem PP{s:Nat}(hs:s<=16):∃S T:Nat,S=2^s/\T=2^(16-s)/\S*T=65536/\1<=S/\1<=T/\S<=65536:=by
 refine⟨2^s,2^(16-s),rfl,rfl,?_,Nat.one_le_two_pow,Nat.one_le_two_pow,?_⟩
 ·rw[<-Nat.pow_add,show s+(16-s)=16 by omega]
 ·exact Nat.pow_le_pow_right (by decide) hs
theorem ZJ{S T x:Int}(hST:S*T=65536)(hS:1<=S)(hT:1<=T)(hx:0<=x/\x<65536):
  x*S%65536=S*(x%T)/\x*S/65536=x/T/\0<=x/T/\x/T<S/\0<=x%T/\x%T<T/\S*(x%T)+65536*(x/T)=x*S/\S*(x%T)+S<=65536:=by
 have e1:=Int.emod_add_mul_ediv x T;have e2:=Int.emod_nonneg x (show T≠0 by omega);have e3:=Int.emod_lt_of_pos x (show 0<T by omega);have e4:=Int.ediv_nonneg hx.1 (show 0<=T by omega);have e5:x/T<S:=Int.ediv_lt_of_lt_mul (by omega) (by rw[hST];exact hx.2);have e6:x*S=S*(x%T)+65536*(x/T):=by
  have h2:S*(x%T+T*(x/T))=S*(x%T)+(S*T)*(x/T):=by rw[ze3,Int.mul_assoc]
  rw[e1,hST]at h2;rw[<-h2,Int.mul_comm]
 have e7:S*(x%T)+S<=65536:=by
  have h2:=zb0 (show x%T+1<=T by omega) (show 0<=S by omega);rw[ze3,hST]at h2;omega
 have e8:0<=S*(x%T):=zf6 (by omega) e2;rw[e6];refine⟨?_,?_,e4,e5,e2,e3,rfl,e7⟩<;>omega
theorem AQ2{S T x y R:Int}(hST:S*T=65536)(hS:1<=S)(hT:1<=T)(hx:0<=x/\x<65536):(x+65536*(y+65536*R))/S=(x+65536*y)/S%65536+65536*((y+65536*R)/S):=by
 have e1:x+65536*(y+65536*R)=(x+65536*y)+S*(T*65536*R):=by
  have:S*(T*65536*R)=(S*T)*(65536*R):=by grind
  rw[this,hST];omega
 have e2:(x+65536*(y+65536*R))/S=(x+65536*y)/S+T*65536*R:=by rw[e1,Int.add_mul_ediv_left _ _ (by omega)]
 have e3:(x+65536*(y+65536*R))/S%65536=(x+65536*y)/S%65536:=by
  rw[e2,show T*65536*R=65536*(T*R) by grind,Int.add_mul_emod_self_left]
 have e4:(x+65536*(y+65536*R))/S/65536=(y+65536*R)/S:=by
  rw[Int.ediv_ediv_of_nonneg (by omega),Int.mul_comm S,<-Int.ediv_ediv_of_nonneg (by decide)]
  congr 1
  omega
 have e5:=Int.emod_add_mul_ediv ((x+65536*(y+65536*R))/S) 65536;rw[e3,e4]at e5;omega
structure Up (l out:List Int) (s i:Nat):Prop where
 lb:LB out
 len:out.length=l.length+1
 c:dg out i<2^s
 z:∀k,i<k->dg out k=0
 v:val out=val (l.take i)*2^s
theorem Up.next{l out:List Int}{s i:Nat}(h:Up l out s i)(hl:LB l)(hs:s<=15)(hi:i<l.length):
  Up l ((out.set i (dg out i+dg l i*2^s%65536)).set (i+1) (dg l i*2^s/65536)) s (i+1):=by
 obtain⟨S,T,eS,eT,hST,hS,hT,hS2⟩:=PP (show s<=16 by omega);have hSi:((S:Nat):Int)=2^s:=by rw[eS];simp
 have hc:=h.c;rw[<-hSi]at hc⊢
 have hx:=Bb hl i;obtain⟨d1,d2,d3,d4,d5,d6,d7,d8⟩:=ZJ (S:=(S:Int)) (T:=(T:Int)) (by rw[<-Int.natCast_mul,hST];rfl) (by omega) (by omega) hx;have ho:=Bb h.lb i;have hol:=h.len;have hv:=h.v;rw[<-hSi]at hv;have m0:0<=(S:Int)*(dg l i%T):=zf6 (by omega) d5;rw[d1,d2];have hz:=h.z (i+1) (by omega);refine⟨?_,by simp[hol],?_,fun k hk=> ?_,?_⟩
 ·refine(h.lb.set ⟨by omega,by omega⟩).set ⟨d3,by omega⟩
 ·rw[AU6 (by simp;omega),zr rfl,<-hSi];exact d4
 ·rw[Ch (by omega),Ch (by omega)];exact h.z k (by omega)
 ·rw[Gn (Am (by simp;omega)),Ch (by omega),hz,Gn (Am (show i<out.length by omega)),hv,A3,<-hSi];have e1:B (i+1)*(dg l i/T-0)=B i*(65536*(dg l i/T)):=by simp only[B];grind
  have e2:(val (l.take i)+B i*dg l i)*S=val (l.take i)*S+B i*(dg l i*S):=by grind
  rw[e1,e2,<-d7,ze3];have e3:B i*(dg out i+S*(dg l i%T)-dg out i)=B i*(S*(dg l i%T)):=by congr 1;omega
  omega
theorem A5S{l:List Int}{s:Nat}(hl:LB l)(hs:s<=15)(hn:l.length<=1000000):∃out,Pb l (s:Int)=some out/\LB out/\out.length=l.length+1/\val out=val l*2^s:=by
 obtain⟨out,h1,h2⟩:=CK (body:=fun(s:((List Int)×(Int×((List Int)×(Int×Int)))))=>MX s.1 s.2.1 s.2.2.1 s.2.2.2.1 s.2.2.2.2)
  (st:=fun k (b:List Int)=>(b,((s:Int),(l,((l.length:Int),(k:Int)))))) (fin:=fun b=>b) (I:=fun k b=>Up l b s k) (e:=l.length)
  (by
   rintro k out hk hI;refine⟨_,?_,hI.next hl hs hk⟩
   obtain⟨S,T,eS,eT,hST,hS,hT,hS2⟩:=PP (show s<=16 by omega);have hSi:((S:Nat):Int)=2^s:=by rw[eS];simp
   have hx:=Bb hl k;have ho:=Bb hI.lb k;have hol:=hI.len;have hc:=hI.c;rw[<-hSi]at hc⊢
   obtain⟨d1,d2,d3,d4,d5,d6,d7,d8⟩:=ZJ (S:=(S:Int)) (T:=(T:Int)) (by rw[<-Int.natCast_mul,hST];rfl) (by omega) (by omega) hx;have hxS:0<=dg l k*(S:Int)/\dg l k*(S:Int)<=65536*65536:=⟨zf6 hx.1 (by omega),Int.le_trans (zb0 (show(S:Int)<=65536 by omega) hx.1) (za7 (by omega) (by decide))⟩;have hsh:TZ .i64 (dg l k) (zi zk (s:Int))=dg l k*S:=by rw[hSi];exact Xr (by omega) (by rw[<-hSi];omega) (by rw[<-hSi];omega)
   have hor:orI .i64 (dg out k) (dg l k*S%65536)=dg out k+dg l k*S%65536:=by
    obtain⟨o,eo⟩:∃o:Nat,dg out k=(o:Int):=⟨(dg out k).toNat,by omega⟩;obtain⟨t,et⟩:∃t:Nat,dg l k%T=(t:Int):=⟨(dg l k%T).toNat,by omega⟩;rw[d1,et,eo,<-Int.natCast_mul,eS,A0P (by rw[<-eS];omega) (by
     rw[<-eS];have:((S*t:Nat):Int)<=65536:=by rw[Int.natCast_mul,<-et];omega
     omega)]
    simp
   have hu:zi zk (s:Int)=(s:Int):=Yc (by omega) (by omega);unfold MX AY
   dsimp only
   rw[zp (by omega),AA (by omega)];have i1:A2 (k:Int) out.length=some k:=AW (by omega);have hd:decide (zi zk (s:Int)<0)=false:=by rw[hu];exact zq (by omega)
   simp only[cond_true,Af,Am hk,za0,hd,cond_false,i1,Am (show k<out.length by omega),hsh,zb7 hxS.1,zc5 hxS.1,hor,List.length_set];rw[AW (by omega)];simp only[za0];rw[Am (by simp;omega)];simp only[za0];rw[Ab (n:=dg l k*S/65536) (by omega) (by omega)])
  (by
   rintro out _;unfold MX
   dsimp only
   rw[zq (Int.lt_irrefl _)];rfl) 0 (List.replicate (l.length+1) 0) (by omega) ⟨LB.zeros _,by simp,by
    rw[show dg (List.replicate (l.length+1) (0:Int)) 0=0 from rfl];exact Int.pow_pos (by decide),fun k _=>by unfold dg;rw[zb4,List.getElem?_replicate];split<;>rfl,by simp[FV,val]⟩
 have hv:=h2.v;rw[List.take_length]at hv;refine⟨out,?_,h2.lb,h2.len,hv⟩
 unfold Pb;rw[AA (by omega),IR (by unfold Ae;omega) (by unfold Ae;omega)];simp only[za0];rw[show((0:Nat):Int)=0 from rfl]at h1;rw[h1];rfl
theorem A4T{l:List Int}{s:Nat}(hl:LB l)(hs:s<=15)(hn:l.length<=1000000):ML l (s:Int)=some (lim (val l/2^s).toNat):=by
 obtain⟨S,T,eS,eT,hST,hS,hT,hS2⟩:=PP (show s<=16 by omega);have hSi:((S:Nat):Int)=2^s:=by rw[eS];simp
 have hSTi:(S:Int)*T=65536:=by rw[<-Int.natCast_mul,hST];rfl
 obtain⟨out,h1,h2⟩:=CK (body:=fun(s:((List Int)×((List Int)×(Int×(Int×Int)))))=>JB s.1 s.2.1 s.2.2.1 s.2.2.2.1 s.2.2.2.2)
  (st:=fun k (b:List Int)=>(b,(l,((s:Int),((l.length:Int),(k:Int)))))) (fin:=fun b=>b)
  (I:=fun k b=>LB b/\b.length=l.length/\(∀i,k<=i->dg b i=0)/\val b+B k*(val (l.drop k)/S)=val l/S) (e:=l.length)
  (by
   rintro k out hk ⟨g1,g2,g3,g4⟩;have hx:=Bb hl k;have hy:=Bb hl (k+1);have hm0:0<=(dg l k+65536*dg l (k+1))/(S:Int)%65536/\(dg l k+65536*dg l (k+1))/(S:Int)%65536<65536:=by omega
   refine⟨out.set k ((dg l k+65536*dg l (k+1))/(S:Int)%65536),?_,g1.set hm0,by simp[g2],fun i hi=>by rw[Ch (by omega)];exact g3 i (by omega),?_⟩
   ·have hor:orI .i64 (dg l k) (TZ .i64 (dg l (k+1)) 16)=dg l k+65536*dg l (k+1):=by
     obtain⟨o,eo⟩:∃o:Nat,dg l k=(o:Int):=⟨(dg l k).toNat,by omega⟩;obtain⟨t,et⟩:∃t:Nat,dg l (k+1)=(t:Int):=⟨(dg l (k+1)).toNat,by omega⟩;have h16:TZ .i64 (dg l (k+1)) 16=((2^16*t:Nat):Int):=by
      have:=Xr (x:=dg l (k+1)) (s:=16) (by omega) (by omega) (by omega);rw[show zi zk ((16:Nat):Int)=16 by decide]at this;rw[this,et];omega
     rw[h16,eo,A0P (by omega) (by omega),et];omega
    have hu:zi zk (s:Int)=(s:Int):=Yc (by omega) (by omega);unfold JB AY
    dsimp only
    rw[zp (by omega),AA (by omega)];have i1:A2 (k:Int) out.length=some k:=AW (by omega);have hd:decide (zi zk (s:Int)<0)=false:=by rw[hu];exact zq (by omega)
    have hsr:AR8 .i64 (dg l k+65536*dg l (k+1)) (zi zk (s:Int))=(dg l k+65536*dg l (k+1))/(S:Int):=by rw[A5v (by omega),hSi]
    have hq0:0<=(dg l k+65536*dg l (k+1))/(S:Int):=Int.ediv_nonneg (by omega) (by omega);simp only[cond_true,Af,Am hk,za0,LZ,hd,cond_false,i1,Am (show k<out.length by omega),hor,hsr,zb7 hq0]
   ·rw[Gn (Am (show k<out.length by omega)),g3 k (za8 _),Int.sub_zero];rw[C1 l k,C1 l (k+1),AQ2 hSTi (by omega) (by omega) hx,<-C1 l (k+1),ze3]at g4;have e:B (k+1)*(val (l.drop (k+1))/S)=B k*(65536*(val (l.drop (k+1))/S)):=by simp only[B];grind
    omega)
  (by
   rintro out _;unfold JB
   dsimp only
   rw[zq (Int.lt_irrefl _)];rfl) 0 (List.replicate l.length 0) (by omega) ⟨LB.zeros _,by simp,fun i _=>by unfold dg;rw[zb4,List.getElem?_replicate];split<;>rfl,by rw[FV,zf5];simp[B]⟩
 obtain⟨g1,g2,g3,g4⟩:=h2;rw[List.drop_length,show val []=0 from rfl,Int.zero_ediv,Int.mul_zero,Int.add_zero]at g4;unfold ML;rw[IR (by unfold Ae;omega) (by unfold Ae;omega)];simp only[za0];rw[show((0:Nat):Int)=0 from rfl]at h1;rw[h1];simp only[za0];rw[Hv (by unfold Ax;omega)];simp only[za0];rw[CB g1,g4,hSi]
theorem A72{a b:List Int}{t:Int}{m:Nat}(hm:b.length=m+1)(hml:m<=1000000)(ht:dg b m=t)(h1:1<=t)(h2:t<65536):
  ∃s:Nat,s<=15/\t*2^s<65536/\Ad (fun(s:((List Int)×((List Int)×Int)))=>D6 s.1 s.2.1 s.2.2) (a,(b,0))=some (a,(b,(s:Int))):=by
 have bound:∀s:Nat,t*2^s<65536->s<=15:=fun s h=>by
  have h3:(2:Int)^s<2^16:=by
   have h4:(1:Int)*2^s<=t*2^s:=za7 h1 (ze9 (Int.pow_pos (by decide)));have h5:(2:Int)^16=65536:=by decide
   omega
  have h5:((2^s:Nat):Int)<((2^16:Nat):Int):=by simpa using h3
  have h6:2^s<2^16:=by omega
  have:=(Nat.pow_lt_pow_iff_right (show 1<2 by decide)).1 h6;omega
 obtain⟨r,g1,s,rfl,g2⟩:=Gi (f:=fun(s:((List Int)×((List Int)×Int)))=>D6 s.1 s.2.1 s.2.2)
  (I:=fun x=>∃s:Nat,x=(a,(b,(s:Int)))/\t*2^s<65536) (R:=fun x=>∃s:Nat,x=(a,(b,(s:Int)))/\t*2^s<65536) (fun x=>100-x.2.2.toNat) (by
   rintro x ⟨s,rfl,hs⟩;have hb:=bound s hs;have p0:(0:Int)<2^s:=Int.pow_pos (by decide);have p1:0<=t*2^s:=zf6 (by omega) (by omega);have hsh:TZ .i64 t (zi zk (s:Int))=t*2^s:=Xr (by omega) (by omega) (by omega);have hu:zi zk (s:Int)=(s:Int):=Yc (by omega) (by omega);have hd:decide (zi zk (s:Int)<0)=false:=by rw[hu];exact zq (by omega)
   have hg:AD b (zi zj ((b.length:Int)-1))=some t:=by rw[<-ht];exact M8 (by rw[Ab (by omega) (by omega)];omega) (by omega)
   simp only;by_cases hc:t*2^s<32768
   ·refine .inl ⟨(a,(b,((s+1:Nat):Int))),?_,⟨s+1,rfl,by rw[Int.pow_succ,<-Int.mul_assoc];omega⟩,by simp only;omega⟩
    unfold D6;simp only[hg,za0,hd,cond_false,hsh,zp hc,cond_true];rw[AA (by omega)]
   ·refine .inr ⟨(a,(b,(s:Int))),?_,s,rfl,hs⟩
    unfold D6;simp only[hg,za0,hd,cond_false,hsh,zq hc]) (a,(b,0)) ⟨0,rfl,by simp;omega⟩
 exact⟨s,bound s g2,g2,g1⟩
theorem A3n{u0 v:List Int}{m:Nat}{bits:Int}(hv:LB v)(hvl:v.length=m+2)(ht:1<=dg v (m+1))(hl:u0.length<=1000000){n:Nat}{out:List Int}(h:Places u0 v m n u0 out):
  ∃u out',Ad (fun(s:((List Int)×((List Int)×((List Int)×(Int×Int)))))=>CG s.1 s.2.1 s.2.2.1 s.2.2.2.1 s.2.2.2.2) (u0,(v,(out,(bits,(n:Int)-1))))=some (u,(out',bits))/\Places u0 v m 0 u out':=by
 obtain⟨⟨u,out'⟩,h1,h2⟩:=JY (body:=fun(s:((List Int)×((List Int)×((List Int)×(Int×Int)))))=>CG s.1 s.2.1 s.2.2.1 s.2.2.2.1 s.2.2.2.2)
  (st:=fun n (b:List Int×List Int)=>(b.1,(v,(b.2,(bits,(n:Int)-1))))) (fin:=fun b=>(b.1,(b.2,bits))) (I:=fun n b=>Places u0 v m n b.1 b.2)
  (by
   rintro n ⟨u,out⟩ hI;simp only at hI;have H:=hI.place hv hvl ht;have hle:=hI.le;have hol:=hI.olen;have hul:=hI.len;obtain⟨u',g1,g2,g3,g4,g5⟩:=A66 (out:=out) (bits:=bits) H (by omega) (by omega);refine⟨(u',out.set n (val (u.drop n)/val v)),?_,hI.next H g2 g3 g4 g5⟩
   simp only;rw[show((n+1:Nat):Int)-1=(n:Int) by omega,g1])
  (by
   rintro⟨u,out⟩ _;unfold CG
   dsimp only
   rw[zq (by omega)];rfl) n (u0,out) h
 exact⟨u,out',h1,h2⟩
theorem Places.start2{u0 v:List Int}{m n:Nat}(hu:LB u0)(hn:u0.length=n+(m+2))(h0:val (u0.drop n)<val v):Places u0 v m n u0 (List.replicate n 0):=
 ⟨rfl,hu,by omega,h0,LB.zeros n,by simp;omega,fun i hi=>by unfold dg;rw[zb4,List.getElem?_replicate];split<;>rfl,by rw[FV];omega⟩
set_option maxHeartbeats 1000000 in
theorem Tg {a b : Nat} (hb0 : b ≠ 0) (ha : (lim a).length <= 90000) (hb : (lim b).length <= 90000) : FL (lim a) (lim b) = some (lim (a / b), lim (a % b)) := by
 unfold FL;rw [Hv (by unfold Ax; omega)];simp only [za0];rw [PH (Uz a), Qh (by unfold Ax; omega) (by unfold Ax; omega)];simp only [za0];by_cases hab : a < b
 ·rw [Et (by omega)];simp only [show decide ((-1 : Int) < 0) = true from rfl, cond_true];rw [Nat.div_eq_of_lt hab, Nat.mod_eq_of_lt hab, Cu]
 have hc : decide (Dh (a : Int) b < 0) = false := by
  rcases Cd (a : Int) b with ⟨h, g⟩ | ⟨h, _⟩ | ⟨h, _⟩
  ·omega
  ·rw [h]; rfl
  ·rw [h]; rfl
 simp only [hc, cond_false];have hbl : (lim b).length ≠ 0 := fun h => hb0 (Jp.1 (zc0 h))
 by_cases h1 : (lim b).length = 1
 ·obtain ⟨e1, e2, e3⟩ := AZ6 h1;rw [e1];simp only [List.length_singleton, show (((1 : Nat) : Int) == 1) = true from rfl, cond_true];rw [show AD [(b : Int)] 0 = some (b : Int) from rfl];simp only [za0];rw [A1l (by omega) (by omega)];simp only [za0, zc8]
 have hn1 : ((((lim b).length : Nat) : Int) == 1) = false := beq_eq_false_iff_ne.2 (by omega);obtain ⟨m, hm⟩ : ∃ m, (lim b).length = m + 2 := ⟨(lim b).length - 2, by omega⟩;obtain ⟨t1, t2, t3, t4⟩ := WZ hb0;rw [hm, show m + 2 - 1 = m + 1 by omega] at t1 t2 t3 t4;generalize ht : dg (lim b) (m + 1) = t at *
 obtain ⟨s, hs1, hs2, hs3⟩ := A72 (a := lim a) (b := lim b) (m := m + 1) (by omega) (by omega) ht t1 t2;obtain ⟨S, T, eS, eT, hST, hS, hT, hS2⟩ := PP (show s <= 16 by omega);have hSi : ((S : Nat) : Int) = 2 ^ s := by rw [eS]; simp
 obtain ⟨u, hu1, hu2, hu3, hu4⟩ := A5S (AH a) hs1 (by omega);obtain ⟨v, hv1, hv2, hv3, hv4⟩ := A5S (AH b) hs1 (by omega);rw [Ar, <- hSi, <- Int.natCast_mul] at hu4 hv4;simp only [hn1, cond_false, hs3, za0, hu1, hv1];rw [Hv (by unfold Ax; omega)];simp only [za0];rw [CB hv2, hv4, zc8];have hBa : (a : Int) < B (lim a).length := An.1 (za8 _);have lb : (lim (b * S)).length = m + 2 := by
  apply Nat.le_antisymm
  ·rw [An];rw [show ((b * S : Nat) : Int) = (b : Int) * S by simp];rw [<- hSi] at hs2;have e1 : (b : Int) * S < B (m + 1) * (t + 1) * S := Int.mul_lt_mul_of_pos_right t4 (by omega);have hts : (t + 1) * (S : Int) <= 65536 := by
    obtain ⟨d1, d2, d3, d4, d5, d6, d7, d8⟩ := ZJ (S := (S : Int)) (T := (T : Int)) (by rw [<- Int.natCast_mul, hST]; rfl) (by omega) (by omega) (show 0 <= t /\ t < 65536 by omega);have d9 : t * S % 65536 = t * S := Int.emod_eq_of_lt (zf6 (by omega) (by omega)) hs2;rw [Int.add_mul, Int.one_mul, <- d9, d1];exact d8
   have e2 : B (m + 1) * ((t + 1) * (S : Int)) <= B (m + 1) * 65536 := zb0 hts (ze9 (GM _));have e3 : B (m + 1) * (t + 1) * S = B (m + 1) * ((t + 1) * (S : Int)) := Int.mul_assoc ..
   have e4 : B (m + 2) = B (m + 1) * 65536 := by simp only [B]; omega
   omega
  ·rw [<- hm, An];have h1 : ((b * S : Nat) : Int) < B (lim (b * S)).length := An.1 (za8 _);have : b * 1 <= b * S := Nat.mul_le_mul_left _ (by omega);omega
 have hle : (lim b).length <= (lim a).length := by rw [An]; omega
 have hbS0 : b * S ≠ 0 := Nat.mul_ne_zero hb0 (by omega);have htop := (WZ hbS0).1;rw [lb, show m + 2 - 1 = m + 1 by omega] at htop;generalize hn : (lim a).length - (lim b).length + 1 = n at *
 have w0 : zi zj (((lim a).length : Int) - ((lim b).length : Int)) = (n : Int) - 1 := by rw [Ab (by omega) (by omega)]; omega
 rw [w0, Ab (n := (n : Int) - 1 + 1) (by omega) (by omega), show (n : Int) - 1 + 1 = (n : Int) by omega, IR (by unfold Ae; omega) (by unfold Ae; omega)];simp only [za0];have hless : val (u.drop n) < val (lim (b * S)) := by
  rw [Ar];have h1 := Ci u n;have h2 := AU (hu2.take n);rw [hu4] at h1;have h3 : B n * val (u.drop n) <= ((a * S : Nat) : Int) := by omega
  have h4 : ((a * S : Nat) : Int) < B (lim a).length * S := by rw [Int.natCast_mul]; exact Int.mul_lt_mul_of_pos_right hBa (by omega)
  have h5 : (lim a).length = n + (m + 1) := by omega
  rw [h5, R2] at h4;have h6 : B (m + 1) * S <= ((b * S : Nat) : Int) := by
   rw [Int.natCast_mul];have : B (m + 1) * 1 <= B (m + 1) * t := zb0 t1 (ze9 (GM _));exact za7 (by omega) (by omega)
  have h7 : B n * (val (u.drop n)) < B n * (B (m + 1) * S) := by rw [<- Int.mul_assoc]; omega
  have h8 := Int.lt_of_mul_lt_mul_left h7 (ze9 (GM n));omega
 obtain ⟨u', out, hp, P⟩ := A3n (bits := (s : Int)) (AH (b * S)) lb htop (by omega) (Places.start2 (n := n) hu2 (by omega) hless);rw [hp];simp only [za0];obtain ⟨p1, p2⟩ := P.end (AH _);rw [hu4, Ar] at p1 p2;obtain ⟨q1, q2⟩ := Zw (a := a) (b := b) (c := S) (by omega);have p1' : val out = ((a / b : Nat) : Int) := by rw [p1, <- q1]; simp
 have p2' : val u' = ((a % b * S : Nat) : Int) := by rw [p2, <- q2]; simp
 have hul := P.len;have hol := P.olen;rw [Hv (by unfold Ax; omega)];simp only [za0];rw [Hv (by unfold Ax; omega)];simp only [za0];rw [CB P.lo, CB P.lu, p1', p2', zc8, zc8, A4T (AH _) hs1 (by
  have : (lim (a % b * S)).length <= m + 2 := by
   rw [<- lb, An];have h1 : ((b * S : Nat) : Int) < B (lim (b * S)).length := An.1 (za8 _);have := Nat.mul_lt_mul_of_pos_right (Nat.mod_lt a (show b > 0 by omega)) (show S > 0 by omega);omega
  omega), Ar]
 simp only [za0];rw [<- hSi, Int.natCast_mul, Int.mul_ediv_cancel _ (by omega), zc8]
end
section
open Go
theorem Hi(n:Nat):big (n:Int)=(false,lim n):=by unfold big;rw[zq (by omega),zf1]
theorem Ar4(n:Nat):big (-(n:Int))=(decide (n≠0),lim n):=by unfold big;congr 1;exact decide_eq_decide.2 (by omega);congr 1;omega
theorem AG5(x y:Int):((!(decide (x<0)==decide (y<0)))&&decide (x.natAbs/y.natAbs≠0),lim (x.natAbs/y.natAbs))=big (x.tdiv y):=by
 rcases Int.lt_or_le x 0 with hx|hx
 ·obtain⟨a,rfl⟩:∃a:Nat,x= -(a:Int):=⟨x.natAbs,by omega⟩;rcases Int.lt_or_le y 0 with hy|hy
  ·obtain⟨b,rfl⟩:∃b:Nat,y= -(b:Int):=⟨y.natAbs,by omega⟩;rw[Int.neg_tdiv,Int.tdiv_neg,Int.neg_neg,<-Int.ofNat_tdiv,Hi,zp hx,zp hy,Int.natAbs_neg,Int.natAbs_neg];rfl
  ·obtain⟨b,rfl⟩:∃b:Nat,y=(b:Int):=⟨y.natAbs,by omega⟩;rw[Int.neg_tdiv,<-Int.ofNat_tdiv,Ar4,zp hx,zq (show ¬(b:Int)<0 by omega),Int.natAbs_neg];rfl
 ·obtain⟨a,rfl⟩:∃a:Nat,x=(a:Int):=⟨x.natAbs,by omega⟩;rcases Int.lt_or_le y 0 with hy|hy
  ·obtain⟨b,rfl⟩:∃b:Nat,y= -(b:Int):=⟨y.natAbs,by omega⟩;rw[Int.tdiv_neg,<-Int.ofNat_tdiv,Ar4,zq (show ¬(a:Int)<0 by omega),zp hy,Int.natAbs_neg];rfl
  ·obtain⟨b,rfl⟩:∃b:Nat,y=(b:Int):=⟨y.natAbs,by omega⟩;rw[<-Int.ofNat_tdiv,Hi,zq (show ¬(a:Int)<0 by omega),zq (show ¬(b:Int)<0 by omega)];rfl
theorem Ay2(x y:Int):(decide (x<0)&&decide (x.natAbs%y.natAbs≠0),lim (x.natAbs%y.natAbs))=big (x.tmod y):=by
 have hy:x.tmod y=x.tmod (y.natAbs:Int):=by
  rcases Int.natAbs_eq y with h|h
  ·rw[<-h]
  ·rw[h,Int.tmod_neg,Int.natAbs_neg,zf1]
 rw[hy];rcases Int.lt_or_le x 0 with hx|hx
 ·obtain⟨a,rfl⟩:∃a:Nat,x= -(a:Int):=⟨x.natAbs,by omega⟩;rw[Int.neg_tmod,<-Int.ofNat_tmod,Ar4,zp hx,Int.natAbs_neg];rfl
 ·obtain⟨a,rfl⟩:∃a:Nat,x=(a:Int):=⟨x.natAbs,by omega⟩;rw[<-Int.ofNat_tmod,Hi,zq (show ¬(a:Int)<0 by omega)];rfl
theorem Kq{a b:Nat}(h:a<=b):(lim a).length<=(lim b).length:=An.2 (Int.lt_of_le_of_lt (by omega) (An.1 (za8 (lim b).length)))
section
variable {x y:Int} {k:Nat}
theorem Mb(hk:k<=90000)(hx:(x.natAbs:Int)<B k)(hy:(y.natAbs:Int)<B k)(h0:y≠0):GO (big x) (big y)=some (big (x.tdiv y),big (x.tmod y)):=by
 have lx:=ze7 (An.2 hx) hk;have ly:=ze7 (An.2 hy) hk;have l1:=Kq (Nat.div_le_self x.natAbs y.natAbs);have l2:=Kq (Nat.mod_le x.natAbs y.natAbs);unfold GO;rw[show(big x).2=lim x.natAbs from rfl,show(big y).2=lim y.natAbs from rfl,YL (by omega) lx ly];simp only[za0];rw[IA (AH _) (by unfold Ax;omega),IA (AH _) (by unfold Ax;omega),Ar,Ar,zc8,zc8];simp only[za0];rw[show(big x).1=decide (x<0)from rfl,show(big y).1=decide (y<0)from rfl,AG5,Ay2]
theorem Ao6(hk:k<=90000)(hx:(x.natAbs:Int)<B k)(hy:(y.natAbs:Int)<B k)(h0:y≠0):JV (big x) (big y)=some (big (x.tdiv y),big (x.tmod y)):=by
 have lx:=ze7 (An.2 hx) hk;have ly:=ze7 (An.2 hy) hk;have l1:=Kq (Nat.div_le_self x.natAbs y.natAbs);have l2:=Kq (Nat.mod_le x.natAbs y.natAbs);unfold JV;rw[show(big x).2=lim x.natAbs from rfl,show(big y).2=lim y.natAbs from rfl,Tg (by omega) lx ly];simp only[za0];rw[Gk (AH _) (by unfold Ax;omega),Gk (AH _) (by unfold Ax;omega),Ar,Ar,zc8,zc8];simp only[za0];rw[show(big x).1=decide (x<0)from rfl,show(big y).1=decide (y<0)from rfl,AG5,Ay2]
end
theorem Vt{b:Nat}(h:b≠0):decide ((((lim b).length:Nat):Int)>0)=true:=by rw[O5,ME];simp[h]
theorem AV2(s:Bool×List Int):∀(n a b:Nat),b<n->(lim a).length<=90000->(lim b).length<=90000->
  Ad (fun(s:((Bool×(List Int))×((List Int)×(List Int))))=>Ix s.1 s.2.1 s.2.2) (s,(lim a,lim b))=some (s,lim (Nat.gcd a b)):=by
 intro n
 induction n with
 |zero=>intro a b h;omega
 |succ n ih=>
  intro a b h ha hb;by_cases h0:b=0
  ·subst h0;rw[Nat.gcd_zero_right];refine Ak ?_
   unfold Ix;rw[Cu];rfl
  ·have hm:=Nat.mod_lt a (show b>0 by omega);rw[AP (s':=(s,(lim b,lim (a%b))))]
   ·rw[ih b (a%b) (by omega) hb (ze7 (Kq (Nat.mod_le _ _)) ha),Nat.gcd_comm b,<-Nat.gcd_rec,Nat.gcd_comm b]
   ·unfold Ix
    dsimp only
    rw[Vt h0,YL h0 ha hb];rfl
theorem AR2:∀(n a b:Nat),b<n->(lim a).length<=90000->(lim b).length<=90000->
  Ad (fun(s:((List Int)×(List Int)))=>Lz s.1 s.2) (lim a,lim b)=some (lim (Nat.gcd a b)):=by
 intro n
 induction n with
 |zero=>intro a b h;omega
 |succ n ih=>
  intro a b h ha hb;by_cases h0:b=0
  ·subst h0;rw[Nat.gcd_zero_right];refine Ak ?_
   unfold Lz;rw[Cu];rfl
  ·have hm:=Nat.mod_lt a (show b>0 by omega);rw[AP (s':=(lim b,lim (a%b)))]
   ·rw[ih b (a%b) (by omega) hb (ze7 (Kq (Nat.mod_le _ _)) ha),Nat.gcd_comm b,<-Nat.gcd_rec,Nat.gcd_comm b]
   ·unfold Lz
    dsimp only
    rw[Vt h0,Tg h0 ha hb];rfl
theorem A0j{a b:Nat}(ha:(lim a).length<=90000)(hb:(lim b).length<=90000):(lim (Nat.gcd a b)).length<=90000:=by
 by_cases h:a=0
 ·subst h;rw[Nat.gcd_zero_left];exact hb
 ·exact ze7 (Kq (Nat.gcd_le_left b (by omega))) ha
section
variable {x y:Int} {k:Nat}
theorem Ag6(hk:k<=90000)(hx:(x.natAbs:Int)<B k)(hy:(y.natAbs:Int)<B k):I4 (big x) (big y)=some (big (Int.gcd x y:Nat)):=by
 have lx:=ze7 (An.2 hx) hk;have ly:=ze7 (An.2 hy) hk;have lg:=A0j lx ly;unfold I4;rw[show(big x).2=lim x.natAbs from rfl,show(big y).2=lim y.natAbs from rfl,AV2 _ _ _ _ (Nat.lt_succ_self _) lx ly];simp only[za0];rw[IA (AH _) (by unfold Ax;omega),Ar,zc8,Hi];rfl
theorem A0O(hk:k<=90000)(hx:(x.natAbs:Int)<B k)(hy:(y.natAbs:Int)<B k):Mm (big x).2 (big y).2=some (lim (Int.gcd x y)):=by
 have lx:=ze7 (An.2 hx) hk;have ly:=ze7 (An.2 hy) hk;have lg:=A0j lx ly;unfold Mm;rw[show(big x).2=lim x.natAbs from rfl,show(big y).2=lim y.natAbs from rfl,AR2 _ _ _ (Nat.lt_succ_self _) lx ly];simp only[za0];rw[Hv (by unfold Ax;omega)];simp only[za0];rw[PH (Uz _)];rfl
end
theorem SC{l:List Int}(neg:Bool)(hl:LB l)(hv:val l<=4611686018427387904)(hn:l.length<=1000):
  Ad (fun(s:((Bool×(List Int))×(Int×Int)))=>Fy s.1 s.2.1 s.2.2) ((neg,l),(0,(l.length:Int)-1))=some ((neg,l),val l):=by
 obtain⟨n,h1,h2⟩:=JY (body:=fun(s:((Bool×(List Int))×(Int×Int)))=>Fy s.1 s.2.1 s.2.2)
  (st:=fun k (b:Int)=>((neg,l),(b,(k:Int)-1))) (fin:=fun b=>((neg,l),b)) (I:=fun k b=>k<=l.length/\b=val (l.drop k))
  (by
   rintro k b ⟨hk,rfl⟩;have hkl:k<l.length:=by omega
   have hx:=Bb hl k;have e1:=C1 l k;have e2:=AU (hl.drop (k+1));have e3:=Ci l k;have e4:=AU (hl.take k);have e5:val (l.drop k)<=B k*val (l.drop k):=by
    have:=za7 (show 1<=B k by have:=GM k;omega) (AU (hl.drop k));omega
   refine⟨val (l.drop k),?_,by omega,rfl⟩
   unfold Fy
   dsimp only
   rw[zp (by omega),show((k+1:Nat):Int)-1=(k:Int) by omega,Af,Am hkl];simp only[cond_true,za0];rw[Ab (n:=val (l.drop (k+1))*65536) (by omega) (by omega),Ab (n:=val (l.drop (k+1))*65536+dg l k) (by omega) (by omega),Ab (n:=(k:Int)-1) (by omega) (by omega),e1,show val (l.drop (k+1))*65536+dg l k=dg l k+65536*val (l.drop (k+1)) by omega])
  (by
   rintro b _;unfold Fy;rfl) l.length 0 ⟨za8 _,by rw[List.drop_length];rfl⟩
 rw[zf5]at h2;rw[<-h2.2];exact h1
theorem At6{l:List Int}(neg:Bool)(hl:LB l)(hv:val l<=4611686018427387904)(hn:l.length<=1000):
  Ad (fun(s:((Bool×(List Int))×(Int×Int)))=>Lw s.1 s.2.1 s.2.2) ((neg,l),(0,(l.length:Int)-1))=some ((neg,l),val l):=by
 have:(fun(s:((Bool×(List Int))×(Int×Int)))=>Lw s.1 s.2.1 s.2.2)=fun(s:((Bool×(List Int))×(Int×Int)))=>Fy s.1 s.2.1 s.2.2:=by
  funext s;unfold Lw Fy;rfl
 rw[this];exact SC neg hl hv hn
def RW(z:Int):Int×Bool:=if z.natAbs<=4611686018427387904 then(z,true)else(0,false)
theorem A0q(T:Nat):(big (T:Int)).2=lim T:=by rw[Hi]
theorem AC3{z:Int}{T:Nat}(hT:T=4611686018427387904):RW z=if z.natAbs<=T then(z,true)else(0,false):=by rw[hT];rfl
theorem A4g{z:Int}{T:Nat}(hT:T=4611686018427387904)(hz:(z.natAbs:Int)<B 40):JR (big z)=some (RW z):=by
 have lz:=An.2 hz;have hB4:B 4=18446744073709551616:=rfl;rw[AC3 hT];unfold JR;rw[show(4611686018427387904:Int)=(T:Int) by omega];rw[Ug (by unfold big Ax;dsimp only;omega),J3 hz,WV (by omega) (by omega)];simp only[za0,Bool.not_true,cond_false];rw[show(big z).2=lim z.natAbs from rfl,A0q,Hk (by unfold Ax;omega) (by unfold Ax;have:= @AH2 T (by omega);omega)];simp only[za0];by_cases h:z.natAbs<=T
 ·have hc:decide (Dh (z.natAbs:Int) (T:Int)>0)=false:=by
   rcases Cd (z.natAbs:Int) (T:Int)with⟨g,_⟩|⟨g,_⟩|⟨g,_⟩
   ·rw[g];rfl
   ·omega
   ·rw[g];rfl
  rw[hc,zr h,Ab (by omega) (by omega),show big z=(decide (z<0),lim z.natAbs)from rfl];simp only[cond_false];rw[SC _ (AH _) (by rw[Ar];omega) (by omega),Ar];simp only[za0];by_cases hn:z<0
  ·rw[zp hn,Ab (by omega) (by omega)];simp only[cond_true];rw[show(0:Int)-(z.natAbs:Int)=z by omega]
  ·rw[zq hn];simp only[cond_false];rw[show(z.natAbs:Int)=z by omega]
 ·have hc:decide (Dh (z.natAbs:Int) (T:Int)>0)=true:=by rw[Gr (by omega)];rfl
  rw[hc,zw h];rfl
theorem A5M{z:Int}{T:Nat}(hT:T=4611686018427387904)(hz:(z.natAbs:Int)<B 40):L5 (big z)=some (RW z):=by
 have lz:=An.2 hz;have hB4:B 4=18446744073709551616:=rfl;rw[AC3 hT];unfold L5;rw[show(4611686018427387904:Int)=(T:Int) by omega];rw[UE (by unfold big Ax;dsimp only;omega),J3 hz,Nr (by omega) (by omega)];simp only[za0,Bool.not_true,cond_false];rw[show(big z).2=lim z.natAbs from rfl,A0q];by_cases h4:(lim z.natAbs).length>4
 ·rw[zp (by omega)];have:¬z.natAbs<=T:=fun h=>by
   have:= @AH2 z.natAbs (by omega);omega
  rw[zw this];rfl
 rw[zq (by omega),Qh (by unfold Ax;omega) (by unfold Ax;have:= @AH2 T (by omega);omega)];simp only[za0,cond_false];by_cases h:z.natAbs<=T
 ·have hc:decide (Dh (z.natAbs:Int) (T:Int)>0)=false:=by
   rcases Cd (z.natAbs:Int) (T:Int)with⟨g,_⟩|⟨g,_⟩|⟨g,_⟩
   ·rw[g];rfl
   ·omega
   ·rw[g];rfl
  rw[hc,zr h,Ab (by omega) (by omega),show big z=(decide (z<0),lim z.natAbs)from rfl];simp only[cond_false];rw[At6 _ (AH _) (by rw[Ar];omega) (by omega),Ar];simp only[za0];by_cases hn:z<0
  ·rw[zp hn,Ab (by omega) (by omega)];simp only[cond_true];rw[show(0:Int)-(z.natAbs:Int)=z by omega]
  ·rw[zq hn];simp only[cond_false];rw[show(z.natAbs:Int)=z by omega]
 ·have hc:decide (Dh (z.natAbs:Int) (T:Int)>0)=true:=by rw[Gr (by omega)];rfl
  rw[hc,zw h];rfl
theorem A57{z:Int}(hz:(z.natAbs:Int)<B 40):JR (big z)=some (RW z):=A4g rfl hz
theorem A6U{z:Int}(hz:(z.natAbs:Int)<B 40):L5 (big z)=some (RW z):=A5M rfl hz
end
section
open Go
theorem Ae9{a:Bool×List Int}(h:a.2.length<=1000000):IQ a a=some true:=by
 have hb:CJ a.2 a.2=some true:=by
  unfold CJ;rw[bne_self_eq_false];simp only[cond_false];obtain⟨h1,h2⟩:=J2 (l:=a.2) (body:=fun(s:((List Int)×((List Int)×(Int×Int))))=>BQ s.1 s.2.1 s.2.2.1 s.2.2.2)
   (st:=fun k (b:Unit)=>(a.2,(a.2,((a.2.length:Int),(k:Int))))) (step:=fun b p=>()) (fin:=fun b=>.inl ()) (I:=fun k b=>True)
   (by
    rintro k b p hk _;have hkl:=Dt hk;unfold BQ;simp only[HS hk,cond_true,Af,hk,za0,bne_self_eq_false,cond_false,AA (show k<4611686018427387904 by omega)];exact⟨trivial,trivial⟩)
   (by
    rintro b _;unfold BQ;simp only[P7,cond_false]) () trivial
  rw[show((0:Nat):Int)=0 from rfl]at h1;rw[h1];rfl
 unfold IQ;rw[beq_self_eq_true,hb];rfl
section
variable {x y:Int} (hx:(x.natAbs:Int)<B 40) (hy:(y.natAbs:Int)<B 40)
include hx hy
end
section
variable {a b:Bool×List Int} (ha:Ax a.2) (hb:Ax b.2) (h:(GH a&&GH b)=false)
include ha hb h
end
end
section
open Go
end
section
open Go
def rq(q:Rat):(Bool×List Int)×(Bool×List Int):=(big q.num,big (q.den:Int))
theorem A5j{p q:Rat}(h:rq p=rq q):p=q:=by
 have h1:=A0Z (congrArg Prod.fst h);have h2:=A0Z (congrArg Prod.snd h);exact Rat.ext h1 (by exact_mod_cast h2)
theorem N0{x y:Int}(hy:y≠0):x.tdiv (if y<0 then-((Int.gcd x y:Nat):Int)else(Int.gcd x y:Nat))=(Rat.divInt x y).num/\y.tdiv (if y<0 then-((Int.gcd x y:Nat):Int)else(Int.gcd x y:Nat))=((Rat.divInt x y).den:Int):=by
 have d1:((Int.gcd x y:Nat):Int)∣x:=Int.gcd_dvd_left ..
 have d2:((Int.gcd x y:Nat):Int)∣y:=Int.gcd_dvd_right ..
 rw[Rat.num_divInt,Rat.den_divInt,zw hy,Int.gcd_comm y x];generalize Int.gcd x y=n at*
 obtain⟨a,rfl⟩:=d1;obtain⟨b,rfl⟩:=d2;have hn:n≠0:=by rintro rfl;simp at hy
 have hn':(n:Int)≠0:=by omega
 have hb:b≠0:=by rintro rfl;simp at hy
 have hsg:((n:Int)*b<0)↔b<0:=by
  constructor
  ·intro h;rcases Int.lt_or_le b 0 with g|g
   ·exact g
   ·exact absurd (zf6 (show(0:Int)<=(n:Int) by omega) g) (by omega)
  ·intro h;exact Int.mul_neg_of_pos_of_neg (by omega) h
 rw[Int.natAbs_mul,zf1,Nat.mul_div_cancel_left _ (by omega)];by_cases h:b<0
 ·rw[zr (hsg.2 h),Int.sign_eq_neg_one_of_neg (hsg.2 h),Int.tdiv_neg,Int.tdiv_neg,Int.mul_tdiv_cancel_left _ hn',Int.mul_tdiv_cancel_left _ hn',
   show(-1:Int)*((n:Int)*a)=(n:Int)*(-a) by rw[Int.mul_neg,Int.neg_mul,Int.one_mul],Int.mul_ediv_cancel_left _ hn']
  exact⟨rfl,by omega⟩
 ·have h':¬(n:Int)*b<0:=fun g=>h (hsg.1 g)
  have hp:0<(n:Int)*b:=by omega
  rw[zw h',Int.sign_eq_one_of_pos hp,Int.mul_tdiv_cancel_left _ hn',Int.mul_tdiv_cancel_left _ hn',Int.one_mul,Int.mul_ediv_cancel_left _ hn'];exact⟨rfl,by omega⟩
def Sz(k:Nat)(q:Rat):Prop:=(q.num.natAbs:Int)<B k/\(q.den:Int)<B k
instance (k:Nat) (q:Rat):Decidable (Sz k q):=by unfold Sz;infer_instance
theorem Sz.mono{k m:Nat}{q:Rat}(h:Sz k q)(hkm:k<=m):Sz m q:=by
 have:=KH hkm;unfold Sz at*
 omega
theorem Qc(x g:Int):(x.tdiv g).natAbs<=x.natAbs:=by rw[Int.natAbs_tdiv];exact Nat.div_le_self _ _
theorem Mk{x y:Int}{k:Nat}(hx:(x.natAbs:Int)<B k)(hy:(y.natAbs:Int)<B k)(h0:y≠0):Sz k (Rat.divInt x y):=by
 obtain⟨h1,h2⟩:=N0 (x:=x) h0;have a1:=Qc x (if y<0 then-((Int.gcd x y:Nat):Int)else(Int.gcd x y:Nat));have a2:=Qc y (if y<0 then-((Int.gcd x y:Nat):Int)else(Int.gcd x y:Nat));rw[h1]at a1;rw[h2]at a2;unfold Sz;omega
theorem A3K(p q:Rat):p+q=Rat.divInt (p.num*q.den+q.num*p.den) ((p.den:Int)*(q.den:Int)):=by
 rw[Rat.add_def',<-Rat.divInt_ofNat,Int.natCast_mul]
theorem A40(p q:Rat):p*q=Rat.divInt (p.num*q.num) ((p.den:Int)*(q.den:Int)):=by
 rw[Rat.mul_def',<-Rat.divInt_ofNat,Int.natCast_mul]
theorem A5c(p q:Rat):p/q=Rat.divInt (p.num*q.den) ((p.den:Int)*q.num):=by
 rw[Rat.div_def,Rat.inv_def]
 conv=>lhs;lhs;rw[<-Rat.num_divInt_den p]
 rw[Rat.divInt_mul_divInt]
theorem Ji{x y:Int}{k m:Nat}(hx:(x.natAbs:Int)<B k)(hy:(y.natAbs:Int)<B m):((x*y).natAbs:Int)<B (k+m):=by
 rw[Int.natAbs_mul];exact A9R hx hy
theorem A9I{x y:Int}{k:Nat}(hx:(x.natAbs:Int)<B k)(hy:(y.natAbs:Int)<B k):((x+y).natAbs:Int)<B (k+1):=by
 have h1:B (k+1)=65536*B k:=by rw[R2,Int.mul_comm];rfl
 have:=GM k;omega
theorem Cz{n:Nat}{k:Nat}(h:(n:Int)<B k):(((n:Int)).natAbs:Int)<B k:=by rw[zf1];exact h
theorem A6P{x:Int}{k:Nat}(h:(x.natAbs:Int)<B k):((-x).natAbs:Int)<B k:=by rw[Int.natAbs_neg];exact h
theorem upB{x:Int}{k m:Nat}(h:(x.natAbs:Int)<B k)(hkm:k<=m):(x.natAbs:Int)<B m:=Int.lt_of_lt_of_le h (KH hkm)
section
variable {p q:Rat} {k m:Nat} (hp:Sz k p) (hq:Sz m q)
include hp hq
theorem KJ:Sz (k+m) (p*q):=by
 rw[A40];exact Mk (Ji hp.1 hq.1) (Ji (Cz hp.2) (Cz hq.2)) (by have:=p.den_nz;have:=q.den_nz;intro h;rcases Int.mul_eq_zero.1 h with h|h<;>omega)
theorem TP:((p.num*(q.den:Int)+q.num*(p.den:Int)).natAbs:Int)<B (k+m+1):=
 A9I (Ji hp.1 (Cz hq.2)) (by rw[Nat.add_comm];exact Ji hq.1 (Cz hp.2))
theorem Ph:Sz (k+m+1) (p+q):=by
 rw[A3K];exact Mk (TP hp hq) (upB (Ji (Cz hp.2) (Cz hq.2)) (by omega)) (by have:=p.den_nz;have:=q.den_nz;intro h;rcases Int.mul_eq_zero.1 h with h|h<;>omega)
theorem Aw4(h0:q≠0):Sz (k+m) (p/q):=by
 rw[A5c];exact Mk (Ji hp.1 (Cz hq.2)) (Ji (Cz hp.2) hq.1) (by
  have:=p.den_nz;have hn:q.num≠0:=fun h=>h0 (Rat.num_eq_zero.1 h)
  intro h;rcases Int.mul_eq_zero.1 h with h|h<;>omega)
end
theorem AP0{p:Rat}{k:Nat}(hp:Sz k p):Sz k (-p):=⟨A6P hp.1,hp.2⟩
theorem KU{p q:Rat}{k m:Nat}(hp:Sz k p)(hq:Sz m q):Sz (k+m+1) (p-q):=by rw[Rat.sub_eq_add_neg];exact Ph hp (AP0 hq)
theorem B1:B 1=65536:=rfl
theorem Aq2{z:Int}{k:Nat}(h:(z.natAbs:Int)<B k)(hk:1<=k):Sz k (z:Rat):=⟨h,by
 rw[Rat.den_intCast];have:=KH hk;rw[B1]at this;omega⟩
def Tq(p q:Rat):Int:=if p<q then-1 else if q<p then 1 else 0
theorem A07(p q:Rat):Dh (p.num*(q.den:Int)) (q.num*(p.den:Int))=Tq p q:=by
 unfold Dh Tq;simp only[Rat.lt_iff]
theorem A0o{p q:Rat}:Tq p q<0↔p<q:=by
 unfold Tq;split
 ·simp[*]
 ·split<;>simp[*]
theorem Ll{p q:Rat}:0<Tq p q↔q<p:=by
 unfold Tq;split
 ·rename_i h;simp;exact Rat.not_lt.2 (Rat.le_of_lt h)
 ·split<;>simp[*]
theorem VY{x d:Int}(hd:0<d):(if x.tmod d<0 then x.tdiv d-1 else x.tdiv d)=x/d:=by
 have h1:=Int.mul_tdiv_add_tmod x d;have h2:=Int.natAbs_tmod x d;have h3:(x.tmod d).natAbs<d.natAbs:=by rw[h2];exact Nat.mod_lt _ (by omega)
 have h4:x=(if x.tmod d<0 then x.tmod d+d else x.tmod d)+d*(if x.tmod d<0 then x.tdiv d-1 else x.tdiv d):=by
  split
  ·rw[Int.mul_sub];omega
  ·omega
 conv=>rhs;rw[h4]
 rw[Int.add_mul_ediv_left _ _ (by omega),Int.ediv_eq_zero_of_lt (by split<;>omega) (by split<;>omega),Int.zero_add]
def Cq(a:(Bool×List Int)×(Bool×List Int)):Bool:=GH a.1&&GH a.2&&((!a.2.1&& !a.2.2.isEmpty)&&decide (Nat.gcd (val a.1.2).toNat (val a.2.2).toNat=1))
theorem Mf{a:(Bool×List Int)×(Bool×List Int)}:Cq a=true↔∃q:Rat,Sz 40 q/\a=rq q:=by
 unfold Cq;constructor
 ·intro h;simp only[za2,decide_eq_true_eq]at h;obtain⟨⟨h1,h2⟩,⟨h3,h4⟩,h5⟩:=h;obtain⟨x,hx,e1⟩:=Ih.1 h1;obtain⟨y,hy,e2⟩:=Ih.1 h2;rw[e2]at h3 h4 h5;rw[e1]at h5;unfold big at h3 h4 h5;simp only[Ar,zc8]at h5;simp only[Bool.not_eq_true',decide_eq_false_iff_not]at h3;simp only[Bool.not_eq_true']at h4;have h6:y≠0:=by
   rintro rfl;rw[show(0:Int).natAbs=0 from rfl,Cu]at h4;simp at h4
  refine⟨⟨x,y.natAbs,by omega,h5⟩,⟨hx,by show((y.natAbs:Nat):Int)<B 40;exact hy⟩,?_⟩
  unfold rq;rw[<-e1];refine Prod.ext rfl ?_
  rw[e2];show big y=big ((y.natAbs:Nat):Int)
  congr 1
  omega
 ·rintro⟨q,h,rfl⟩;unfold rq;have hd:=q.den_nz;have hb:=J3 h.1;have hb2:=J3 (Cz h.2);simp only[hb,hb2,ze5];unfold big;simp only[Ar,zc8,zf1,za2,decide_eq_true_eq,Bool.not_eq_true',decide_eq_false_iff_not];refine⟨⟨by omega,?_⟩,q.reduced⟩
  have:=ME q.den;rw[zp hd]at this;simpa using this
theorem Oz{q:Rat}(h:Sz 40 q):Cq (rq q)=true:=Mf.2 ⟨q,h,rfl⟩
end
section
open Go
abbrev RF:=Bool×(List Int×(Bool×List Int))
def rqF(q:Rat):RF:=((big q.num).1,((big q.num).2,((big (q.den:Int)).1,(big (q.den:Int)).2)))
def zF:RF:=(false,([],(false,[])))
theorem Ws(q:Rat):((rqF q).1,(rqF q).2.1)=big q.num:=(rfl)
theorem Ab2(q:Rat):((rqF q).2.2.1,(rqF q).2.2.2)=big (q.den:Int):=(rfl)
theorem QE(q:Rat):(rqF q).2.2=big (q.den:Int):=(rfl)
theorem AO(a:RF):(a.1,(a.2.1,(a.2.2.1,a.2.2.2)))=a:=(rfl)
theorem A0g{x y:Int}{k:Nat}(hy:(y.natAbs:Int)<B k)(h0:y≠0):(((Int.gcd x y:Nat):Int).natAbs:Int)<B k:=by
 rw[zf1];have:Int.gcd x y<=y.natAbs:=Nat.le_of_dvd (by omega) (Nat.gcd_dvd_right ..);omega
theorem A5L{x y:Int}(h0:y≠0):((Int.gcd x y:Nat):Int)≠0:=by
 have:0<Int.gcd x y:=Nat.gcd_pos_of_pos_right _ (by omega);omega
theorem H6{x:Int}{k:Nat}(hk:k<=1000000)(h:(x.natAbs:Int)<B k):Ax (big x).2:=by
 have:=An.2 h;unfold big Ax;dsimp only;omega
theorem Qq(x:Int)(s:Bool):(lim (val (big x).2).toNat,s&&decide ((val (big x).2).toNat≠0))=(lim x.natAbs,s&&decide (x≠0)):=by
 unfold big;simp only[Ar,zc8]
 congr 2
 exact decide_eq_decide.2 (by omega)
theorem TR{x:Int}{k:Nat}(hk:k<=1000000)(h:(x.natAbs:Int)<B k):GI (big x)=some (big (-x)):=by
 unfold GI;rw[IA (show LB (big x).2 from AH _) (H6 hk h),Qq];simp only[za0]
 congr 1
 unfold big;simp only;refine Prod.ext ?_ (by simp)
 simp only;by_cases h0:x<0
 ·rw[zp h0];simp;omega
 ·rw[zq h0];simp only[Bool.not_false,ze5];exact decide_eq_decide.2 (by omega)
theorem WT{x:Int}{k:Nat}(hk:k<=1000000)(h:(x.natAbs:Int)<B k):Im (big x)=some (big (-x)):=by
 unfold Im;rw[Gk (show LB (big x).2 from AH _) (H6 hk h),Qq];simp only[za0]
 congr 1
 unfold big;simp only;refine Prod.ext ?_ (by simp)
 simp only;by_cases h0:x<0
 ·rw[zp h0];simp;omega
 ·rw[zq h0];simp only[Bool.not_false,ze5];exact decide_eq_decide.2 (by omega)
theorem AZ7{x:Int}{k:Nat}(hk:k<=1000000)(h:(x.natAbs:Int)<B k):Bm (big x).1 (big x).2=some ((big x).2,(big x).1):=by
 rw[IA (show LB (big x).2 from AH _) (H6 hk h),Qq]
 congr 1
 unfold big;simp only;refine Prod.ext rfl ?_
 simp only;by_cases h0:x<0
 ·rw[zp h0];simp;omega
 ·rw[zq h0];rfl
theorem WH{n:Nat}{k:Nat}(hk:k<=1000000)(h:(n:Int)<B k):Bm false (big (n:Int)).2=some ((big (n:Int)).2,(big (n:Int)).1):=by
 have:=AZ7 (x:=(n:Int)) hk (Cz h)
 rwa[show(big (n:Int)).1=false by rw[Hi]]at this⊢
theorem Ae5{x:Int}{k:Nat}(hk:k<=1000000)(h:(x.natAbs:Int)<B k):BA (big x).1 (big x).2=some ((big x).2,(big x).1):=by
 rw[Gk (show LB (big x).2 from AH _) (H6 hk h),Qq]
 congr 1
 unfold big;simp only;refine Prod.ext rfl ?_
 simp only;by_cases h0:x<0
 ·rw[zp h0];simp;omega
 ·rw[zq h0];rfl
theorem Ae1{n:Nat}{k:Nat}(hk:k<=1000000)(h:(n:Int)<B k):BA false (big (n:Int)).2=some ((big (n:Int)).2,(big (n:Int)).1):=by
 have:=Ae5 (x:=(n:Int)) hk (Cz h)
 rwa[show(big (n:Int)).1=false by rw[Hi]]at this⊢
theorem Av9{x y:Int}{k:Nat}(hk:k<=90000)(hx:(x.natAbs:Int)<B k)(hy:(y.natAbs:Int)<B k)(h0:y≠0):JQ (big x) (big y)=some (rqF (Rat.divInt x y)):=by
 obtain⟨p1,p2⟩:=N0 (x:=x) h0;have hg:=A0g (x:=x) hy h0;have hg0:=A5L (x:=x) h0;unfold JQ;simp only[AI,Ag6 hk hx hy,za0];rw[show(big y).1=decide (y<0)from rfl];by_cases hn:y<0
 ·rw[zr hn]at p1 p2;rw[zp hn];simp only[cond_true,TR (show k<=1000000 by omega) hg,za0,za9,Mb hk hx (A6P hg) (by omega),Mb hk hy (A6P hg) (by omega),p1,p2];rfl
 ·rw[zw hn]at p1 p2;rw[zq hn];simp only[cond_false,za0,za9,Mb hk hx hg hg0,Mb hk hy hg hg0,p1,p2];rfl
theorem XZ(q:Rat):(q.den:Int)≠0:=by have:=q.den_nz;omega
theorem NY(p q:Rat):(p.den:Int)*(q.den:Int)≠0:=fun h=>by rcases Int.mul_eq_zero.1 h with h|h<;>exact XZ _ h
theorem AS9{x y:Int}{k:Nat}(hk:k<=1000000)(hx:(x.natAbs:Int)<B k)(hy:(y.natAbs:Int)<B k):JP (big x) (big y)=some (Dh x y):=by
 have lx:=G9 hx hk;have ly:=G9 hy hk;have e1:=Qh (a:=x.natAbs) (b:=y.natAbs) (by unfold Ax;omega) (by unfold Ax;omega);have e2:=Qh (a:=y.natAbs) (b:=x.natAbs) (by unfold Ax;omega) (by unfold Ax;omega);unfold JP;rw[show(big x).1=decide (x<0)from rfl,show(big y).1=decide (y<0)from rfl,show(big x).2=lim x.natAbs from rfl,show(big y).2=lim y.natAbs from rfl,e1,e2];by_cases h1:x<0
 ·by_cases h2:y<0
  ·rw[zp h1,zp h2];simp only[cond_true,cond_false,Bool.not_true,za0]
   congr 1
   rcases Cd x y with⟨e,h⟩|⟨e,h⟩|⟨e,h⟩
   ·rw[e];exact Et (by omega)
   ·rw[e];exact Gr (by omega)
   ·rw[e,h];exact P6 _
  ·rw[zp h1,zq h2,Et (show x<y by omega)];rfl
 ·by_cases h2:y<0
  ·rw[zq h1,zp h2,Gr (show y<x by omega)];rfl
  ·rw[zq h1,zq h2];simp only[cond_true,cond_false,Bool.not_false,za0]
   congr 1
   rcases Cd x y with⟨e,h⟩|⟨e,h⟩|⟨e,h⟩
   ·rw[e];exact Et (by omega)
   ·rw[e];exact Gr (by omega)
   ·rw[e,h];exact P6 _
section
variable {p q:Rat} {k:Nat} (hk:k<=20000) (hp:Sz k p) (hq:Sz k q)
include hk hp hq
theorem GY:Cl (rqF p) (rqF q)=some (rqF (p+q)):=by
 obtain⟨r1,a1,b1⟩:=Ee (k:=k) (by omega) hp.1 (Cz hq.2);obtain⟨r2,a2,b2⟩:=Ee (k:=k) (by omega) hq.1 (Cz hp.2);obtain⟨r3,a3,b3⟩:=Ee (k:=k) (by omega) (Cz hp.2) (Cz hq.2);unfold Cl;simp only[Ws,Ab2,QE,a1,a2,a3,b1,b2,b3,za0];rw[Ac8 (k:=k+k) (by omega) (Ji hp.1 (Cz hq.2)) (Ji hq.1 (Cz hp.2))];simp only[za0,AI];rw[Av9 (k:=k+k+1) (by omega) (TP hp hq) (upB (Ji (Cz hp.2) (Cz hq.2)) (by omega)) (NY p q),<-A3K];rfl
theorem Io:CM (rqF p) (rqF q)=some (rqF (p*q)):=by
 obtain⟨r1,a1,b1⟩:=Ee (k:=k) (by omega) hp.1 hq.1;obtain⟨r3,a3,b3⟩:=Ee (k:=k) (by omega) (Cz hp.2) (Cz hq.2);unfold CM;simp only[Ws,Ab2,QE,a1,a3,b1,b3,za0];rw[Av9 (k:=k+k) (by omega) (Ji hp.1 hq.1) (Ji (Cz hp.2) (Cz hq.2)) (NY p q),<-A40];rfl
theorem UV(h0:q≠0):GK (rqF p) (rqF q)=some (rqF (p/q)):=by
 obtain⟨r1,a1,b1⟩:=Ee (k:=k) (by omega) hp.1 (Cz hq.2);obtain⟨r3,a3,b3⟩:=Ee (k:=k) (by omega) (Cz hp.2) hq.1;unfold GK;simp only[Ws,Ab2,QE,a1,a3,b1,b3,za0];rw[Av9 (k:=k+k) (by omega) (Ji hp.1 (Cz hq.2)) (Ji (Cz hp.2) hq.1) (by
  intro h;rcases Int.mul_eq_zero.1 h with h|h
  ·exact XZ _ h
  ·exact h0 (Rat.num_eq_zero.1 h)),<-A5c]
 rfl
theorem Aw6:HN (rqF p) (rqF q)=some (Tq p q):=by
 obtain⟨r1,a1,b1⟩:=Ee (k:=k) (by omega) hp.1 (Cz hq.2);obtain⟨r2,a2,b2⟩:=Ee (k:=k) (by omega) hq.1 (Cz hp.2);unfold HN;simp only[Ws,Ab2,QE,a1,a2,b1,b2,za0];rw[TD (k:=k+k) (by omega) (Ji hp.1 (Cz hq.2)) (Ji hq.1 (Cz hp.2)),A07];rfl
theorem FM:DL (rqF p) (rqF q)=some (decide (p<q)):=by
 unfold DL;simp only[AO,Aw6 hk hp hq,za0]
 congr 1
 exact decide_eq_decide.2 A0o
theorem Nl:Id (rqF p) (rqF q)=some (Tq p q):=by
 unfold Id;simp only[Ws,Ab2,QE,JK (k:=k) (by omega) hp.1 (Cz hq.2),JK (k:=k) (by omega) hq.1 (Cz hp.2),za0,AI];rw[AS9 (k:=k+k) (by omega) (Ji hp.1 (Cz hq.2)) (Ji hq.1 (Cz hp.2)),A07];rfl
end
theorem A2W{q:Rat}{k:Nat}(hk:k<=1000000)(hq:Sz k q):Lt (rqF q)=some (rqF (-q)):=by
 unfold Lt;simp only[Ws,TR hk hq.1,za0];rw[show(rqF q).2.2.2=(big (q.den:Int)).2 from rfl,WH hk hq.2];rfl
theorem Ql{p q:Rat}{k:Nat}(hk:k<=20000)(hp:Sz k p)(hq:Sz k q):Fm (rqF p) (rqF q)=some (rqF (p-q)):=by
 unfold Fm;simp only[AO,A2W (k:=k) (by omega) hq,za0,GY hk hp (AP0 hq)];rw[Rat.sub_eq_add_neg]
theorem AV9:Ec (1:Int)=some (big 1):=WV (by omega) (by omega)
theorem AI6:DC (1:Int)=some (big 1):=Nr (by omega) (by omega)
theorem IJ{n:Int}(h1: -9223372036854775808<=n)(h2:n<=9223372036854775807):A4 n=some (rqF (n:Rat)):=by
 unfold A4;simp only[WV h1 h2,AV9,za0];rfl
theorem Qm{n:Int}(h1: -9223372036854775808<=n)(h2:n<=9223372036854775807):CU n=some (rqF (n:Rat)):=by
 unfold CU;simp only[Nr h1 h2,AI6,za0];rfl
theorem AN0{k:Nat}(hk:1<=k):(((1:Int).natAbs:Nat):Int)<B k:=by
 have:=KH hk;rw[B1]at this;omega
theorem Ay7{q:Rat}{k:Nat}(hk:k<=80000)(h1:1<=k)(hq:Sz k q):Gf (rqF q)=some (big q.floor):=by
 have hd:=q.den_pos;have hf:=VY (x:=q.num) (d:=(q.den:Int)) (by omega);rw[<-Rat.floor_def]at hf;have ht:=upB (m:=k+1) (k:=k) (x:=q.num.tdiv (q.den:Int)) (by have:=Qc q.num (q.den:Int);have:=hq.1;omega) (by omega);unfold Gf Iu;simp only[Ws,Ab2,QE,Mb (k:=k) (by omega) hq.1 (Cz hq.2) (XZ q),za0,AI,Ao3];by_cases h:q.num.tmod (q.den:Int)<0
 ·rw[zr h]at hf;rw[Et h];simp only[show decide ((-1:Int)<0)=true from rfl,cond_true,AV9,za0,AI];unfold Ow;simp only[AI,TR (k:=k+1) (by omega) (AN0 (by omega)),za0];rw[Ac8 (k:=k+1) (by omega) ht (by simpa using AN0 (k:=k+1) (by omega)),<-hf];simp only[za0,AI,Int.sub_eq_add_neg]
 ·rw[zw h]at hf;have:decide (Dh (q.num.tmod (q.den:Int)) 0<0)=false:=zq (by rcases Cd (q.num.tmod (q.den:Int)) 0 with⟨e,g⟩|⟨e,g⟩|⟨e,g⟩<;>omega);rw[this,<-hf];rfl
def BrF(a:RF):Prop:=Ax a.2.1/\Ax a.2.2.2
def toQ(a:RF):(Bool×List Int)×(Bool×List Int):=((a.1,a.2.1),(a.2.2.1,a.2.2.2))
theorem YN{q:Rat}{k:Nat}(hk:k<=1000000)(h:Sz k q):BrF (rqF q):=⟨H6 hk h.1,H6 hk (Cz h.2)⟩
theorem A7c{y:Int}:(!(big y).1&& !(big y).2.isEmpty)=decide (0<y):=by
 unfold big;simp only;have:=ME y.natAbs;rw[this];by_cases h:0<y
 ·rw[zp h,zq (by omega),zp (by omega)];rfl
 ·rw[zq h];by_cases h0:y=0
  ·subst h0;rfl
  ·rw[zp (show y<0 by omega)];rfl
theorem Al6{x y:Int}(hx:(x.natAbs:Int)<B 40)(hy:(y.natAbs:Int)<B 40):Cq (big x,big y)=(decide (0<y)&&decide (Int.gcd x y=1)):=by
 unfold Cq;simp only[J3 hx,J3 hy,ze5,A7c];unfold big;simp only[Ar,zc8];rfl
theorem Xx{g:Nat}:(Dh (g:Int) 1==0)=decide (g=1):=by
 rcases Cd (g:Int) 1 with⟨e,h⟩|⟨e,h⟩|⟨e,h⟩
 ·rw[e,zq (by omega)];rfl
 ·rw[e,zq (by omega)];rfl
 ·rw[e,zp (by omega)];rfl
theorem Au0(y:Int):((((big y).2.length:Nat):Int)==(0:Int))=decide (y=0):=by
 rw[Bool.eq_iff_iff];simp only[beq_iff_eq,decide_eq_true_eq];unfold big;constructor
 ·intro h;have:=Jp.1 (zc0 (show(lim y.natAbs).length=0 by simpa using h));omega
 ·rintro rfl;rw[show(0:Int).natAbs=0 from rfl,Cu];rfl
theorem A2X{a:RF}(h:BrF a):Lh a=some (Cq (toQ a)):=by
 obtain⟨n,nl,d,dl⟩:=a;unfold Lh toQ;simp only;have hl:KN [(n,nl),(d,dl)]=some (GH (n,nl)&&GH (d,dl)):=by
  rw[A3f (by simp) (by intro b hb;simp at hb;rcases hb with rfl|rfl;exact h.1;exact h.2)];simp
 rw[hl];simp only[za0];cases hg:GH (n,nl)&&GH (d,dl)with
 |false=>unfold Cq;simp only[hg,Bool.false_and,cond_false]
 |true=>
  rw[za2]at hg;obtain⟨x,hx,e1⟩:=Ih.1 hg.1;obtain⟨y,hy,e2⟩:=Ih.1 hg.2;simp only[e1,e2,cond_true,Ao3,za0,Al6 hx hy];rcases Cd y 0 with⟨e,g⟩|⟨e,g⟩|⟨e,g⟩
  ·rw[e,zq (show ¬0<y by omega)];rfl
  ·rw[e,zp (show 0<y by omega)];simp only[show decide ((1:Int)>0)=true from rfl,cond_true,Ag6 (k:=40) (by omega) hx hy,AV9,za0,AI,ze5];rw[TD (k:=40) (by omega) (A0g hy (by omega)) (AN0 (by omega))];simp only[za0,Xx]
  ·rw[e,zq (show ¬0<y by omega)];rfl
theorem Ae8{a:RF}(h:BrF a):I5 a=some (Cq (toQ a)):=by
 obtain⟨n,nl,d,dl⟩:=a;unfold I5 toQ;simp only;rw[UE h.1];simp only[za0];cases h1:GH (n,nl)with
 |false=>unfold Cq;simp only[h1,Bool.false_and,Bool.not_false,cond_true]
 |true=>
  simp only[Bool.not_true,cond_false];rw[UE h.2];simp only[za0];cases h2:GH (d,dl)with
  |false=>unfold Cq;simp only[h1,h2,Bool.and_false,Bool.false_and,Bool.not_false,cond_true]
  |true=>
   obtain⟨x,hx,e1⟩:=Ih.1 h1;obtain⟨y,hy,e2⟩:=Ih.1 h2;have f1:nl=(big x).2:=congrArg Prod.snd e1;have f2:dl=(big y).2:=congrArg Prod.snd e2;have f3:d=(big y).1:=congrArg Prod.fst e2;simp only[Bool.not_true,cond_false];rw[e1,e2,Al6 hx hy,f3,show(big y).1=decide (y<0)from rfl];by_cases hy0:y<0
   ·rw[zp hy0,zq (show ¬0<y by omega)];rfl
   ·rw[zq hy0];simp only[cond_false];rw[f2,Au0];by_cases h0:y=0
    ·rw[zp h0,zq (show ¬0<y by omega)];rfl
    ·rw[zq h0,zp (show 0<y by omega)];simp only[cond_false];rw[f1,A0O (k:=40) (by omega) hx hy];simp only[za0];have hl1:([1]:List Int)=lim 1:=by rw[Zc (by omega),Cu];rfl
     have hgb:=An.2 (show((Int.gcd x y:Nat):Int)<B 40 by have:=A0g (x:=x) hy h0;rwa[zf1]at this);rw[hl1,Qh (by unfold Ax;omega) (by rw[<-hl1];unfold Ax;simp)];simp only[za0,Xx,ze5];exact congrArg some Xx
theorem Ur{l:List ((Bool×List Int)×(Bool×List Int))}(hl:l.length<=1000)(hb:∀a∈l,Ax a.1.2/\Ax a.2.2):FE l=some (l.all Cq):=by
 unfold FE;obtain⟨h1,h2⟩:=A3i (l:=l) (body:=fun(s:(List ((Bool×(List Int))×(Bool×(List Int))))×(Int×Int))=>IH s.1 s.2.1 s.2.2)
  (st:=fun k (_:Unit)=>(l,((l.length:Int),(k:Int)))) (step:=fun _ a=>if Cq a then .inr ()else .inl (.inr false)) (fin:=fun _=>.inl ()) (I:=fun _ _=>True)
  (by
   rintro k b a hk _;have hkl:=Dt hk;unfold IH;have ha:=hb a (za3 hk);simp only[zp (show(k:Int)<(l.length:Int) by omega),cond_true,Af,hk,za0];rw[A2X (a:=(a.1.1,(a.1.2,(a.2.1,a.2.2)))) ha];simp only[za0,toQ,AI];cases hg:Cq a with
   |true=>left;exact⟨(),by simp,by simp only[Bool.not_true,cond_false];rw[Ab (by omega) (by omega)];rfl,trivial⟩
   |false=>right;exact⟨.inr false,by simp,by simp only[Bool.not_false,cond_true]⟩)
  (by
   rintro b _;unfold IH;simp) () trivial
 rw[show((0:Nat):Int)=0 from rfl]at h1;rw[h1];have key:∀(m:List ((Bool×List Int)×(Bool×List Int))),V2 (ρ:=Unit⊕Bool) (fun(_:Unit) a=>if Cq a then .inr ()else .inl (.inr false)) () m=if m.all Cq then .inr ()else .inl (.inr false):=by
  intro m
  induction m with
  |nil=>rfl
  |cons a m ih=>
   unfold V2;rw[zd3];cases hg:Cq a with
   |true=>simp only[if_true,ze5];exact ih
   |false=>simp
 rw[key];cases l.all Cq<;>rfl
def LW(q:Rat):RF×Bool:=if Sz 40 q then(rqF q,true)else(zF,false)
theorem A2j{q:Rat}{n:Nat}:Cp (rqF q) (n:Int)=some (decide (Sz n q)):=by
 unfold Cp;have e1:((((rqF q).2.1.length:Nat):Int)<=(n:Int))↔((q.num.natAbs:Int)<B n):=by rw[<-An];exact Int.ofNat_le
 have e2:((((rqF q).2.2.2.length:Nat):Int)<=(n:Int))↔((q.den:Int)<B n):=by
  have:(rqF q).2.2.2=lim q.den:=by show(big (q.den:Int)).2=_;rw[Hi]
  rw[this,<-An];exact Int.ofNat_le
 unfold Sz;by_cases h1:(q.num.natAbs:Int)<B n
 ·rw[zp (e1.2 h1)];simp only[cond_true,decide_eq_decide.2 e2,h1,true_and]
 ·rw[zq (fun h=>h1 (e1.1 h))];simp[h1]
theorem JN(q:Rat):Du (rqF q)=some (LW q):=by
 unfold Du LW;simp only[AO];rw[show(40:Int)=((40:Nat):Int)from rfl,A2j];by_cases h:Sz 40 q
 ·simp[h]
 ·simp[h];rfl
end
section
open Go
theorem A0z{x y:Int}{k:Nat}(hk:k<=1000000)(hx:(x.natAbs:Int)<B k)(hy:(y.natAbs:Int)<B k):MF (big x) (big y)=some (big (x+y)):=by
 have lx:=G9 hx hk;have ly:=G9 hy hk;unfold MF big;simp only;by_cases hs:decide (x<0)=decide (y<0)
 ·rw[hs,beq_self_eq_true];obtain⟨r,e1,e2,e3,e4,_⟩:=Aq6 (AH x.natAbs) (AH y.natAbs) (by omega) (by omega);rw[Ar,Ar]at e3;simp only[cond_true,e1,za0];rw[Gk e2 (by unfold Ax;omega)];simp only[za0];have hv:(val r).toNat=(x+y).natAbs:=by
   by_cases h1:x<0
   ·have:y<0:=by simpa[h1]using hs
    omega
   ·have:¬y<0:=by simpa[h1]using hs
    omega
  rw[hv]
  congr 2
  by_cases h2:y<0
  ·have h1:x<0:=by simpa[h2]using hs
   rw[zp h2,zp (show x+y<0 by omega),zp (show(x+y).natAbs≠0 by omega)];rfl
  ·have h1:¬x<0:=by simpa[h2]using hs
   rw[zq h2,zq (show ¬x+y<0 by omega)];rfl
 ·have hb:(decide (x<0)==decide (y<0))=false:=by simpa using hs
  rw[hb];simp only[cond_false];rw[Qh (by unfold Ax;omega) (by unfold Ax;omega)];simp only[za0];have hxy:(x<0/\¬y<0)\/(¬x<0/\y<0):=by
   by_cases h1:x<0<;>by_cases h2:y<0<;>simp[h1,h2]at hs⊢
  rcases ze4 x.natAbs y.natAbs with hlt|hge
  ·rw[Et (by omega),zq (by omega)];simp only[cond_false];have hl:(lim x.natAbs).length<=(lim y.natAbs).length:=An.2 (by have:=An.1 (za8 (lim y.natAbs).length);omega);rw[R9 (AH _) (AH _) hl (by omega) (by rw[Ar,Ar];omega)];simp only[za0,Ar];have e:((y.natAbs:Int)-(x.natAbs:Int)).toNat=(x+y).natAbs:=by omega
   rw[e,Gk (AH _) (by
    have:(lim (x+y).natAbs).length<=(lim y.natAbs).length:=An.2 (by have:=An.1 (za8 (lim y.natAbs).length);omega);unfold Ax;omega)]
   simp only[za0,Ar,zc8]
   congr 2
   by_cases h2:y<0
   ·rw[zp h2,zp (show x+y<0 by omega),zp (show(x+y).natAbs≠0 by omega)];rfl
   ·rw[zq h2,zq (show ¬x+y<0 by omega)];rfl
  ·have hc:Dh (x.natAbs:Int) (y.natAbs:Int)>=0:=by unfold Dh;rw[zw (by omega)];split<;>omega
   rw[zp hc];simp only[cond_true];have hl:(lim y.natAbs).length<=(lim x.natAbs).length:=An.2 (by have:=An.1 (za8 (lim x.natAbs).length);omega);rw[R9 (AH _) (AH _) hl (by omega) (by rw[Ar,Ar];omega)];simp only[za0,Ar];have e:((x.natAbs:Int)-(y.natAbs:Int)).toNat=(x+y).natAbs:=by omega
   rw[e,Gk (AH _) (by
    have:(lim (x+y).natAbs).length<=(lim x.natAbs).length:=An.2 (by have:=An.1 (za8 (lim x.natAbs).length);omega);unfold Ax;omega)]
   simp only[za0,Ar,zc8]
   congr 2
   by_cases h2:x<0
   ·rw[zp h2];by_cases h3:x+y<0
    ·rw[zp h3,zp (show(x+y).natAbs≠0 by omega)];rfl
    ·rw[zq h3,zq (show ¬(x+y).natAbs≠0 by omega)];rfl
   ·rw[zq h2,zq (show ¬x+y<0 by omega)];rfl
theorem Pi {x y : Int} {k : Nat} (hk : k <= 90000) (hx : (x.natAbs : Int) < B k) (hy : (y.natAbs : Int) < B k) (h0 : y ≠ 0) : Fs (big x) (big y) = some (rqF (Rat.divInt x y)) := by
  obtain ⟨p1, p2⟩ := N0 (x := x) h0;have hg := A0g (x := x) hy h0;have hg0 := A5L (x := x) h0;have hl : (lim (Int.gcd x y)).length <= k := An.2 (by rwa [zf1] at hg);unfold Fs;rw [A0O hk hx hy];simp only [za0];rw [Gk (AH _) (by unfold Ax; omega), Ar, zc8];simp only [za0, Bool.false_and];rw [<- Hi];simp only [AI, Ao6 hk hx hg hg0, Ao6 hk hy hg hg0, za0];have t1 := Qc x (Int.gcd x y : Nat);have t2 := Qc y (Int.gcd x y : Nat);obtain ⟨c, hc⟩ : ((Int.gcd x y : Nat) : Int) ∣ y := Int.gcd_dvd_right ..
  have e2 : y.tdiv (Int.gcd x y : Nat) = c := by conv => lhs; lhs; rw [hc]
                                                 exact Int.mul_tdiv_cancel_left _ hg0
  have hsg : (y < 0) ↔ c < 0 := by
    have hp : (0 : Int) < (Int.gcd x y : Nat) := by omega
    generalize ((Int.gcd x y : Nat) : Int) = g at *
    constructor
    · intro h
      rcases Int.lt_or_le c 0 with e | e
      · exact e
      · have := zf6 (ze9 hp) e; omega
    · intro h; have := Int.mul_neg_of_pos_of_neg hp h; omega
  rw [show (big (y.tdiv (Int.gcd x y : Nat))).1 = decide (y.tdiv (Int.gcd x y : Nat) < 0) from rfl];by_cases hn : y < 0
  · rw [zr hn, Int.tdiv_neg] at p1 p2
    rw [zp (by rw [e2]; exact hsg.1 hn)];simp only [cond_true];rw [WT (show k <= 1000000 by omega) (by omega), WT (show k <= 1000000 by omega) (by omega)];simp only [za0, p1, p2];rfl
  · rw [zw hn] at p1 p2
    rw [zq (by rw [e2]; exact fun h => hn (hsg.2 h))];simp only [cond_false, p1, p2];rfl
theorem A6r{q:Rat}{k:Nat}(hk:k<=1000000)(hq:Sz k q):PY (rqF q)=some (rqF (-q)):=by
 unfold PY;simp only[Ws,WT hk hq.1,za0];rfl
section
variable {p q:Rat} {k:Nat} (hk:k<=20000) (hp:Sz k p) (hq:Sz k q)
include hk hp hq
theorem S6:G7 (rqF p) (rqF q)=some (rqF (p+q)):=by
 unfold G7;simp only[Ws,Ab2,QE,JK (k:=k) (by omega) hp.1 (Cz hq.2),JK (k:=k) (by omega) hq.1 (Cz hp.2),JK (k:=k) (by omega) (Cz hp.2) (Cz hq.2),za0,AI];rw[A0z (k:=k+k) (by omega) (Ji hp.1 (Cz hq.2)) (Ji hq.1 (Cz hp.2))];simp only[za0,AI];rw[Pi (k:=k+k+1) (by omega) (TP hp hq) (upB (Ji (Cz hp.2) (Cz hq.2)) (by omega)) (NY p q),<-A3K];rfl
theorem W2:Ic (rqF p) (rqF q)=some (rqF (p*q)):=by
 unfold Ic;simp only[Ws,Ab2,QE,JK (k:=k) (by omega) hp.1 hq.1,JK (k:=k) (by omega) (Cz hp.2) (Cz hq.2),za0,AI];rw[Pi (k:=k+k) (by omega) (Ji hp.1 hq.1) (Ji (Cz hp.2) (Cz hq.2)) (NY p q),<-A40];rfl
theorem A0S(h0:q≠0):Mn (rqF p) (rqF q)=some (rqF (p/q)):=by
 unfold Mn;simp only[Ws,Ab2,QE,JK (k:=k) (by omega) hp.1 (Cz hq.2),JK (k:=k) (by omega) (Cz hp.2) hq.1,za0,AI];rw[Pi (k:=k+k) (by omega) (Ji hp.1 (Cz hq.2)) (Ji (Cz hp.2) hq.1) (by
  intro h;rcases Int.mul_eq_zero.1 h with h|h
  ·exact XZ _ h
  ·exact h0 (Rat.num_eq_zero.1 h)),<-A5c]
 rfl
end
theorem W6{p q:Rat}{k:Nat}(hk:k<=20000)(hp:Sz k p)(hq:Sz k q):H3 (rqF p) (rqF q)=some (rqF (p-q)):=by
 unfold H3;simp only[AO,A6r (k:=k) (by omega) hq,za0,S6 hk hp (AP0 hq)];rw[Rat.sub_eq_add_neg]
theorem A59{x y:Int}{k:Nat}(hk:k<=900000)(hx:(x.natAbs:Int)<B k)(hy:(y.natAbs:Int)<B k):Qy (big x) (big y)=some (big (x-y)):=by
 unfold Qy;simp only[AI,WT (k:=k) (by omega) hy,za0];rw[A0z (k:=k) (by omega) hx (A6P hy)];simp only[za0,AI,Int.sub_eq_add_neg]
theorem A1x{q:Rat}{k:Nat}(hk:k<=80000)(h1:1<=k)(hq:Sz k q):Lk (rqF q)=some (big q.floor):=by
 have hd:=q.den_pos;have hf:=VY (x:=q.num) (d:=(q.den:Int)) (by omega);rw[<-Rat.floor_def]at hf;have ht:=upB (m:=k+1) (k:=k) (x:=q.num.tdiv (q.den:Int)) (by have:=Qc q.num (q.den:Int);have:=hq.1;omega) (by omega);unfold Lk;simp only[Ws,Ab2,QE,Ao6 (k:=k) (by omega) hq.1 (Cz hq.2) (XZ q),za0,AI];rw[show(big (q.num.tmod (q.den:Int))).1=decide (q.num.tmod (q.den:Int)<0)from rfl];by_cases h:q.num.tmod (q.den:Int)<0
 ·rw[zr h]at hf;rw[zp h];simp only[cond_true,AI6,za0,AI];rw[A59 (k:=k+1) (by omega) ht (AN0 (by omega)),<-hf];rfl
 ·rw[zw h]at hf;rw[zq h,<-hf];rfl
theorem O6{q:Rat}{k:Nat}(hk:k<=1000000)(hq:Sz k q):Eu (rqF q)=some (LW q):=by
 unfold Eu LW;have e1:((((rqF q).2.1.length:Nat):Int)>40)↔¬((q.num.natAbs:Int)<B 40):=by
  rw[<-An];show((((lim q.num.natAbs).length:Nat):Int)>40)↔_;omega
 have e2:((((rqF q).2.2.2.length:Nat):Int)>40)↔¬((q.den:Int)<B 40):=by
  rw[<-An];have:(rqF q).2.2.2=lim q.den:=by show(big (q.den:Int)).2=_;rw[Hi]
  rw[this];omega
 by_cases h1:(q.num.natAbs:Int)<B 40
 ·rw[zq (fun h=>e1.1 h h1)];by_cases h2:(q.den:Int)<B 40
  ·rw[zq (fun h=>e2.1 h h2),zr ⟨h1,h2⟩];simp only[cond_false];rw[show(rqF q).1=(big q.num).1 from rfl,show(rqF q).2.1=(big q.num).2 from rfl,show(rqF q).2.2.2=(big (q.den:Int)).2 from rfl,Ae5 (k:=40) (by omega) h1,Ae1 (k:=40) (by omega) h2];rfl
  ·rw[zp (e2.2 h2),zw (fun h=>h2 h.2)];rfl
 ·rw[zp (e1.2 h1),zw (fun h=>h1 h.1)];rfl
theorem GQ{q:Rat}(h:Sz 40 q):LW q=(rqF q,true):=zr h
theorem Qg{q:Rat}(h:¬Sz 40 q):LW q=(zF,false):=zw h
section
variable {p q:Rat} (hp:Sz 40 p) (hq:Sz 40 q)
include hp hq
end
section
variable {a b:RF} (ha:BrF a) (hb:BrF b) (h:(Cq (toQ a)&&Cq (toQ b))=false)
include ha hb h
end
theorem B4:B 4=18446744073709551616:=rfl
theorem Ac4{a:RF}(h1:a.2.1.length<=1000000)(h2:a.2.2.2.length<=1000000):CO a a=some true:=by
 unfold CO;rw[Ae9 (a:=(a.1,a.2.1)) h1,Ae9 (a:=(a.2.2.1,a.2.2.2)) h2];rfl
theorem M4{q:Rat}{k:Nat}(hk:k<=1000000)(h:Sz k q):CO (rqF q) (rqF q)=some true:=
 Ac4 (ze7 (An.2 h.1) hk) (ze7 (An.2 (Cz h.2)) hk)
theorem Ay1:CO zF zF=some true:=Ac4 (by simp[zF]) (by simp[zF])
end
section
open Go
def ShF(a:RF):Prop:=a.2.1.length<=100/\a.2.2.2.length<=100
theorem ShF.br{a:RF}(h:ShF a):BrF a:=by unfold ShF at h;unfold BrF Ax;omega
end
section
open Go
end
section
open Go
end
section
open Go
abbrev Q2:=Rat×Rat
def crd(b:Bool)(p:Q2):Rat:=if b then p.2 else p.1
def ins(b high:Bool)(s:Rat)(p:Q2):Bool:=if high then decide (s<=crd b p)else decide (crd b p<=s)
def C5(a c:Q2)(t:Rat):Q2:=(a.1+t*(c.1-a.1),a.2+t*(c.2-a.2))
def K3(b:Bool)(s:Rat)(a c:Q2):Q2:=C5 a c ((s-crd b a)/(crd b c-crd b a))
def I6(b high:Bool)(s:Rat)(a c:Q2):List Q2:=(if ins b high s a=ins b high s c then []else [K3 b s a c])++(if ins b high s c then [c]else [])
def Bd(b high:Bool)(s:Rat):Q2->List Q2->List Q2
 |_,[]=>[]
 |a,c::l=>I6 b high s a c++Bd b high s c l
def EN(l:List Q2):Q2:=l.getLast?.getD (0,0)
def Bi(b high:Bool)(s:Rat)(l:List Q2):List Q2:=Bd b high s (EN l) l
def crs(p q:Q2):Rat:=p.1*q.2-q.1*p.2
def chn(f:Q2->Q2->Rat):Q2->List Q2->Rat
 |_,[]=>0
 |a,c::l=>f a c+chn f c l
def Fc(l:List Q2):Rat:=chn crs (EN l) l
theorem Ap2{b:Bool}{s:Rat}{a c:Q2}(h:crd b c≠crd b a):crd b (K3 b s a c)=s:=by
 have hd:crd b c-crd b a≠0:=fun e=>h (by grind)
 have hm:=Rat.div_mul_cancel hd (a:=s-crd b a);unfold K3 C5;cases b with
 |true=>
  unfold crd at*
  simp at*
  rw[hm];grind
 |false=>
  unfold crd at*
  simp at*
  rw[hm];grind
theorem LL{b high:Bool}{s:Rat}{a c:Q2}(h:ins b high s a≠ins b high s c):crd b c≠crd b a:=by
 intro e
 apply h
 unfold ins;rw[e]
theorem tri(x y:Rat):x<y\/x=y\/y<x:=by
 rcases Rat.le_total (a:=x) (b:=y)with h|h
 ·by_cases e:x=y
  ·exact .inr (.inl e)
  ·exact .inl (Rat.lt_of_le_of_ne h e)
 ·by_cases e:x=y
  ·exact .inr (.inl e)
  ·exact .inr (.inr (Rat.lt_of_le_of_ne h (fun e'=>e e'.symm)))
theorem Zf{b:Bool}{s:Rat}{p:Q2}:ins b false s p=decide (crd b p<=s):=rfl
theorem AV5{b:Bool}{s:Rat}{p:Q2}:ins b true s p=decide (s<=crd b p):=rfl
def IU:Q2->List Q2->Q2
 |a,[]=>a
 |_,c::l=>IU c l
theorem RX(f:Q2->Q2->Rat):∀(a:Q2)(l m:List Q2),chn f a (l++m)=chn f a l+chn f (IU a l) m
 |a,[],m=>by simp[chn,IU,Rat.zero_add]
 |a,c::l,m=>by
  rw[zd8,chn,chn,RX f c l m,IU,Rat.add_assoc]
theorem Vx:∀(a:Q2)(l m:List Q2),IU a (l++m)=IU (IU a l) m
 |a,[],m=>rfl
 |a,c::l,m=>by rw[zd8,IU,Vx c l m,IU]
theorem Qs(a:Q2):∀(l:List Q2),l≠[]->IU a l=EN l
 |[],h=>absurd rfl h
 |[c],_=>rfl
 |c::d::l,_=>by
  rw[IU,Qs c (d::l) (by simp)];unfold EN;rw[List.getLast?_cons_cons]
def At(b high:Bool)(s:Rat)(a q:Q2):Prop:=if ins b high s a=true then q=a else crd b q=s
theorem A52(b high:Bool)(s:Rat)(a:Q2):∃q,At b high s a q:=by
 unfold At;by_cases h:ins b high s a=true
 ·exact⟨a,by rw[zr h]⟩
 ·refine⟨(s,s),?_⟩
  rw[zw h];unfold crd;cases b<;>rfl
theorem TJ(l:List Q2):IU (EN l) l=EN l:=by
 cases l with
 |nil=>rfl
 |cons c l=>exact Qs _ _ (by simp)
theorem A0e(f g h:Q2->Q2->Rat)(e:∀a c,f a c+g a c=h a c):∀(a:Q2)(l:List Q2),chn f a l+chn g a l=chn h a l
 |a,[]=>by simp only[chn];grind
 |a,c::l=>by
  have h1:=A0e f g h e c l;have h2:=e a c;simp only[chn]
  grind
theorem A58{b high:Bool}{s:Rat}{a c:Q2}:∀p∈I6 b high s a c,ins b high s p=true:=by
 intro p hp;unfold I6 at hp;rcases zb2.1 hp with hp|hp
 ·by_cases e:ins b high s a=ins b high s c
  ·rw[zr e]at hp;cases hp
  ·rw[zw e]at hp;rw[zd1.1 hp];have:=Ap2 (s:=s) (LL e);unfold ins;rw[this];cases high<;>simp[Rat.le_refl]
 ·by_cases e:ins b high s c=true
  ·rw[zr e]at hp;rw[zd1.1 hp];exact e
  ·rw[zw e]at hp;cases hp
theorem Li{b high:Bool}{s:Rat}:∀(l:List Q2)(a:Q2),∀p∈Bd b high s a l,ins b high s p=true
 |[],a,p,h=>by cases h
 |c::l,a,p,h=>by
  rw[Bd]at h;rcases zb2.1 h with h|h
  ·exact A58 p h
  ·exact Li l c p h
theorem We{b high:Bool}{s:Rat}:∀(l:List Q2)(a:Q2),ins b high s a=true->(∀p∈l,ins b high s p=true)->Bd b high s a l=l
 |[],a,_,_=>rfl
 |c::l,a,ha,hl=>by
  have hc:=hl c (by simp);rw[Bd,We l c hc (fun p hp=>hl p (ze6 _ hp))];unfold I6;rw[ha,hc,zr rfl,zr rfl];rfl
theorem Un{l:List Q2}(h:l≠[]):EN l∈l:=by
 unfold EN;cases hl:l.getLast? with
 |none=>exact absurd (List.getLast?_eq_none_iff.1 hl) h
 |some x=>exact List.mem_of_getLast? hl
theorem Ar8{b high:Bool}{s:Rat}{l:List Q2}(h:∀p∈l,ins b high s p=true):Bi b high s l=l:=by
 cases hl:l with
 |nil=>rfl
 |cons c m=>
  rw[<-hl];exact We l _ (h _ (Un (by rw[hl];simp))) h
theorem A5R(f:Q2->Q2->Rat)(a:Q2)(l:List Q2)(c:Q2):chn f a (l++[c])=chn f a l+f (IU a l) c:=by
 rw[RX];simp only[chn];grind
end
section
open Go
abbrev SF:=Bool×(List Int×(Bool×(List Int×(Bool×(List Int×(Bool×List Int))))))
abbrev RQ:=(Bool×List Int)×(Bool×List Int)
abbrev RPt:=RQ×RQ
def fl(x:RPt):SF:=(x.1.1.1,(x.1.1.2,(x.1.2.1,(x.1.2.2,(x.2.1.1,(x.2.1.2,x.2.2))))))
def un(s:SF):RPt:=(((s.1,s.2.1),(s.2.2.1,s.2.2.2.1)),((s.2.2.2.2.1,s.2.2.2.2.2.1),s.2.2.2.2.2.2))
def fx(x:RPt):RF:=(x.1.1.1,(x.1.1.2,x.1.2))
def fy(x:RPt):RF:=(x.2.1.1,(x.2.1.2,x.2.2))
theorem A1G(x:RPt):(x.1.1.1,(x.1.1.2,(x.1.2.1,(x.1.2.2,(x.2.1.1,(x.2.1.2,x.2.2))))))=fl x:=(rfl)
theorem AT3(s:SF):(((s.1,s.2.1),(s.2.2.1,s.2.2.2.1)),((s.2.2.2.2.1,s.2.2.2.2.2.1),s.2.2.2.2.2.2))=un s:=(rfl)
theorem A6a(x:RPt):(x.1.1.1,(x.1.1.2,x.1.2))=fx x:=(rfl)
theorem A7h(x:RPt):(x.2.1.1,(x.2.1.2,x.2.2))=fy x:=(rfl)
theorem Yq(x:RPt):un (fl x)=x:=(rfl)
theorem Q5(x:RPt):((fl x).1,((fl x).2.1,((fl x).2.2.1,(fl x).2.2.2.1)))=fx x:=(rfl)
theorem Rf(x:RPt):(fl x).2.2.2.2=fy x:=(rfl)
def rp(p:Q2):RPt:=(rq p.1,rq p.2)
theorem Jk(p:Q2):fx (rp p)=rqF p.1:=(rfl)
theorem Jo(p:Q2):fy (rp p)=rqF p.2:=(rfl)
def shQ(n:Nat)(a:RF):Bool:=decide (a.2.1.length<=n)&&decide (a.2.2.2.length<=n)
def Gt(x:RPt):Bool:=(Cq x.1&&Cq x.2)&&(shQ 8 (fx x)&&shQ 8 (fy x))
def BrP(x:RPt):Prop:=BrF (fx x)/\BrF (fy x)
def SzP(k:Nat)(p:Q2):Prop:=Sz k p.1/\Sz k p.2
theorem SzP.mono{k m:Nat}{p:Q2}(h:SzP k p)(hkm:k<=m):SzP m p:=⟨h.1.mono hkm,h.2.mono hkm⟩
theorem VU{q:Rat}{n:Nat}(hn:n<=100):shQ n (rqF q)=decide (Sz n q):=by
 unfold shQ;rw[<-Bool.decide_and];refine decide_eq_decide.2 ?_
 unfold Sz;have h1:= @An q.num.natAbs n;have h2:= @An q.den n;have e2:(rqF q).2.2.2=lim q.den:=by show(big (q.den:Int)).2=_;rw[Hi]
 rw[e2,<-h2,<-h1];rfl
theorem AS4(x:RPt):toQ (fx x)=x.1:=(rfl)
theorem AU1(x:RPt):toQ (fy x)=x.2:=(rfl)
theorem RJ{x:RPt}:Gt x=true↔∃p,SzP 8 p/\x=rp p:=by
 constructor
 ·intro h;unfold Gt at h;simp only[za2]at h;obtain⟨⟨h1,h2⟩,h3,h4⟩:=h;obtain⟨a,ha,e1⟩:=Mf.1 h1;obtain⟨c,hc,e2⟩:=Mf.1 h2;have exy:x=(rq a,rq c):=by rw[<-e1,<-e2]
  have ex:fx x=rqF a:=by rw[exy];rfl
  have ey:fy x=rqF c:=by rw[exy];rfl
  rw[ex,VU (by omega)]at h3;rw[ey,VU (by omega)]at h4;exact⟨(a,c),⟨of_decide_eq_true h3,of_decide_eq_true h4⟩,by unfold rp;rw[<-e1,<-e2]⟩
 ·rintro⟨p,hp,rfl⟩;unfold Gt;rw[Jk,Jo,VU (by omega),VU (by omega),zp hp.1,zp hp.2,Bool.and_true,Bool.and_true,za2];exact⟨Oz (hp.1.mono (by omega)),Oz (hp.2.mono (by omega))⟩
def G8(l:List RPt):Bool:=decide (l.length<=40)&&l.all Gt
def SzR(ps:List Q2):Prop:=ps.length<=40/\∀p∈ps,SzP 8 p
theorem A18{l:List RPt}:G8 l=true↔∃ps:List Q2,SzR ps/\l=ps.map rp:=by
 unfold G8;rw[za2,decide_eq_true_eq];constructor
 ·rintro⟨h1,h2⟩;have key:∀l:List RPt,l.all Gt=true->∃ps:List Q2,(∀p∈ps,SzP 8 p)/\l=ps.map rp:=by
   intro l
   induction l with
   |nil=>intro _;exact⟨[],by simp,rfl⟩
   |cons x l ih=>
    intro h;rw[zd3,za2]at h;obtain⟨p,hp,e⟩:=RJ.1 h.1;obtain⟨ps,hps,e2⟩:=ih h.2;refine⟨p::ps,?_,by rw[zb9,<-e,<-e2]⟩
    intro q hq;rcases zc6.1 hq with rfl|hq
    ·exact hp
    ·exact hps q hq
  obtain⟨ps,hps,e⟩:=key l h2;exact⟨ps,⟨by rw[e,zd0]at h1;exact h1,hps⟩,e⟩
 ·rintro⟨ps,⟨h1,h2⟩,rfl⟩;refine⟨by rw[zd0];exact h1,?_⟩
  rw[za5];intro x hx;obtain⟨p,hp,rfl⟩:=zd2.1 hx;exact RJ.2 ⟨p,h2 p hp,rfl⟩
theorem M0(a:RF)(n:Nat):Cp a (n:Int)=some (shQ n a):=by
 unfold Cp shQ;by_cases h:a.2.1.length<=n
 ·rw[zp (show((a.2.1.length:Nat):Int)<=(n:Int) by omega),cT,zp h,ze5]
  congr 1
  exact decide_eq_decide.2 (by omega)
 ·rw[zq (show ¬((a.2.1.length:Nat):Int)<=(n:Int) by omega),cF,zq h,Bool.false_and]
theorem A0Q{x:RPt}(h:BrP x):GV (fl x) 8=some (Gt x):=by
 have hl:FE [x.1,x.2]=some (Cq x.1&&Cq x.2):=by
  rw[Ur (by simp) (by
   intro a ha;simp at ha;rcases ha with rfl|rfl
   ·exact h.1
   ·exact h.2)]
  simp
 have e:((((fl x).1,(fl x).2.1),((fl x).2.2.1,(fl x).2.2.2.1)):RQ)=x.1:=rfl;have e':((((fl x).2.2.2.2.1,(fl x).2.2.2.2.2.1),(fl x).2.2.2.2.2.2):RQ)=x.2:=rfl;unfold GV Gt;simp only[AI];rw[e,e',hl,obs];have s1:=M0 (fx x) 8;have s2:=M0 (fy x) 8;rw[show((8:Nat):Int)=8 from rfl]at s1 s2;cases hg:Cq x.1&&Cq x.2 with
 |false=>rfl
 |true=>
  rw[cT]
  try simp only[Q5,Rf]
  rw[s1,obs,ze5];cases shQ 8 (fx x)with
  |false=>rfl
  |true=>rw[cT,s2,obs,ze5]
theorem C0{l:List RPt}(hl:l.length<=100000)(hb:∀x∈l,BrP x):EB l=some (G8 l):=by
 have hc:Bg l=some (!(l.all Gt)):=by
  unfold Bg Ct;have key:=EM (body:=fun(s:((List RPt)×(Int×Int)))=>Ay s.1 s.2.1 s.2.2) (l:=l) (st:=fun k=>(l,(l.length:Int),(k:Int))) (p:=Gt) (fin:=.inl ()) (bad:=fun k=>.inr (k:Int))
   (fun k a hk hp=>by
    have:=Dt hk;show Ay l (l.length:Int) (k:Int)=_;unfold Ay He;simp only[HS hk,cT,Af,hk,obs,AI];rw[A1G,A0Q (hb a (za3 hk)),obs,hp,obs,nT,cF,AA (by omega)])
   (fun k a hk hp=>by
    show Ay l (l.length:Int) (k:Int)=_;unfold Ay He;simp only[HS hk,cT,Af,hk,obs,AI];rw[A1G,A0Q (hb a (za3 hk)),obs,hp,obs,nF,cT])
   (by
    show Ay l (l.length:Int) (l.length:Int)=_;unfold Ay;simp only[P7,cF])
  rw[show((0:Nat):Int)=0 from rfl]at key;cases hall:l.all Gt with
  |true=>rw[key.1 hall];rfl
  |false=>
   obtain⟨k,_,h⟩:=key.2 hall;rw[h];simp only[za0,za9];have:decide ((k:Int)>=0)=true:=by simp
   rw[this];rfl
 unfold EB G8;by_cases h:l.length<=40
 ·rw[zp (by omega),cT,hc,obs,zp h,Bool.not_not,ze5]
 ·rw[zq (by omega),cF,zq h,Bool.false_and]
theorem Qd{a:RF}(h:BrF a):IZ a=some (Cq (toQ a)&&shQ 8 a):=by
 unfold IZ shQ;simp only[AO,AI];by_cases h1:a.2.1.length<=8
 ·rw[zp (by omega),cT,zp h1,ze5];by_cases h2:a.2.2.2.length<=8
  ·rw[zp (by omega),cT,zp h2,Bool.and_true,Ae8 h,obs]
  ·rw[zq (by omega),cF,zq h2,Bool.and_false]
 ·rw[zq (by omega),cF,zq h1,Bool.false_and,Bool.and_false]
theorem Y2{a:RF}(h:BrF a):HB a=some (Cq (toQ a)&&shQ 2 a):=by
 unfold HB shQ;simp only[AO,AI];by_cases h1:a.2.1.length<=2
 ·rw[zp (by omega),cT,zp h1,ze5];by_cases h2:a.2.2.2.length<=2
  ·rw[zp (by omega),cT,zp h2,Bool.and_true,Ae8 h,obs]
  ·rw[zq (by omega),cF,zq h2,Bool.and_false]
 ·rw[zq (by omega),cF,zq h1,Bool.false_and,Bool.and_false]
theorem Gv{l:List RPt}(hl:l.length<=100000)(hb:∀x∈l,BrP x):HG l=some (G8 l):=by
 have key:=EM (body:=fun(s:((List RPt)×((List RPt)×(Int×Int))))=>CL s.1 s.2.1 s.2.2.1 s.2.2.2) (l:=l) (st:=fun k=>(l,l,(l.length:Int),(k:Int))) (p:=Gt) (fin:=.inl l) (bad:=fun k=>.inr false)
  (fun k a hk hp=>by
   have:=Dt hk;have hba:=hb a (za3 hk);unfold Gt at hp;simp only[za2]at hp;show CL l l (l.length:Int) (k:Int)=_;unfold CL;simp only[HS hk,cT,Af,hk,obs,AI];rw[A6a,A7h,Qd hba.1,obs,AS4,hp.1.1,hp.2.1,Bool.and_self,nT,cF,Qd hba.2,obs,AU1,hp.1.2,hp.2.2,Bool.and_self,nT,cF,AA (by omega)])
  (fun k a hk hp=>by
   have hba:=hb a (za3 hk);show CL l l (l.length:Int) (k:Int)=_;unfold CL;simp only[HS hk,cT,Af,hk,obs,AI];rw[A6a,A7h,Qd hba.1,obs,AS4];cases h1:Cq a.1&&shQ 8 (fx a)with
   |false=>rw[nF,cT]
   |true=>
    have h2:(Cq a.2&&shQ 8 (fy a))=false:=by
     unfold Gt at hp;rw[za2]at h1;rw[h1.1,h1.2,ze5,ze5]at hp;exact hp
    rw[nT,cF,Qd hba.2,obs,AU1,h2,nF,cT])
  (by
   show CL l l (l.length:Int) (l.length:Int)=_;unfold CL;simp only[P7,cF])
 rw[show((0:Nat):Int)=0 from rfl]at key;unfold HG G8;cases hall:l.all Gt with
 |true=>
  rw[key.1 hall,obs,sEl,Bool.and_true]
  congr 1
  exact decide_eq_decide.2 (by omega)
 |false=>
  obtain⟨k,_,h⟩:=key.2 hall;rw[h,obs,sEr,Bool.and_false]
end
section
open Go
theorem Aa4{l:List RPt}{x:RPt}(h:l.length<=100000):CZ 128 8 l [x]=some (l++[x]):=D2 (by simp[Ae];omega) (by simp[Ae];omega)
theorem WW(p:Q2)(b:Bool):BX (fl (rp p)) b=some (rqF (crd b p)):=by cases b<;>rfl
theorem Ax1(p:Q2)(b:Bool):HP (fl (rp p)) b=some (rqF (crd b p)):=by cases b<;>rfl
theorem Fj{k:Nat}{p:Q2}(h:SzP k p)(b:Bool):Sz k (crd b p):=by cases b;exact h.1;exact h.2
theorem Ak1:A4 (1:Int)=some (rqF 1):=by rw[IJ (by omega) (by omega)];rfl
section
variable {a c:Q2} {t:Rat} (ha:SzP 8 a) (hc:SzP 8 c) (ht:Sz 34 t)
include ha hc ht
end
section
variable {a c:Q2} {s:Rat} {b:Bool} (ha:SzP 8 a) (hc:SzP 8 c) (hs:Sz 8 s) (hne:crd b c≠crd b a)
include ha hc hs hne
end
theorem A1f{k n:Nat}(hk:k<n)(hn:n<=100000):Int.tmod (zi zj (zi zj ((k:Int)+(n:Int))-1)) (n:Int)=(((k+n-1)%n:Nat):Int):=by
 rw[Ab (n:=(k:Int)+(n:Int)) (by omega) (by omega),Ab (by omega) (by omega),zb7 (by omega)];rw[show(k:Int)+(n:Int)-1=((k+n-1:Nat):Int) by omega];rfl
theorem Ag4{k n:Nat}(hk:k<n):(k+1+n-1)%n=k:=by
 rw[show k+1+n-1=k+n by omega,Nat.add_mod_right,Nat.mod_eq_of_lt hk]
theorem IE{ps:List Q2}{k:Nat}{p:Q2}(h:ps[k]? =some p):AD (ps.map rp) (k:Int)=some (rp p):=by
 rw[Af,zc9,h];rfl
theorem Zk(b high:Bool)(s:Rat)(a c:Q2):(I6 b high s a c).length<=2:=by
 unfold I6;rw[zc3]
 split<;>split<;>simp
section
variable {ps:List Q2} {s:Rat} (hps:SzR ps) (hs:Sz 8 s) (b high:Bool)
include hps hs
end
end
section
open Go
theorem At9{p q:Q2}(h:rp p=rp q):p=q:=by
 unfold rp at h;have h1:=A5j (congrArg Prod.fst h);have h2:=A5j (congrArg Prod.snd h);exact Prod.ext h1 h2
theorem Ai9(p:Q2):Gt (rp p)=true↔SzP 8 p:=by
 rw[RJ];constructor
 ·rintro⟨q,hq,e⟩;rw[At9 e];exact hq
 ·intro h;exact⟨p,h,rfl⟩
theorem GT{m:List Q2}:G8 (m.map rp)=true↔SzR m:=by
 unfold G8 SzR;rw[za2,decide_eq_true_eq,zd0,za5];constructor
 ·rintro⟨h1,h2⟩;exact⟨h1,fun p hp=>(Ai9 p).1 (h2 _ (List.mem_map_of_mem hp))⟩
 ·rintro⟨h1,h2⟩;refine⟨h1,fun x hx=> ?_⟩
  obtain⟨p,hp,rfl⟩:=zd2.1 hx;exact(Ai9 p).2 (h2 p hp)
theorem Zo{p:Q2}{k:Nat}(hk:k<=1000000)(h:SzP k p):BrP (rp p):=⟨YN hk h.1,YN hk h.2⟩
theorem OX{m:List Q2}{k:Nat}(hk:k<=1000000)(h:∀p∈m,SzP k p):∀x∈m.map rp,BrP x:=by
 intro x hx;obtain⟨p,hp,rfl⟩:=zd2.1 hx;exact Zo hk (h p hp)
theorem Ag2{q:Rat}{k:Nat}(hk:k<=1000000)(h:Sz k q):J6 (rqF q)=some (rqF q):=by
 unfold J6;rw[show(rqF q).1=(big q.num).1 from rfl,show(rqF q).2.1=(big q.num).2 from rfl,show(rqF q).2.2.2=(big (q.den:Int)).2 from rfl,AZ7 hk h.1,WH hk h.2];rfl
theorem A3t{p:Q2}(h:SzP 8 p):Nn (fl (rp p))=some (fl (rp p)):=by
 unfold Nn;simp only[AO,AI,Q5,Rf,Jk,Jo];rw[Ag2 (by omega) h.1,obs,Ag2 (by omega) h.2,obs];rfl
theorem A2e{m:List Q2}(h:SzR m):Lj (m.map rp)=some (m.map rp):=by
 have h40:=h.1;obtain⟨h1,h2⟩:=J2 (l:=m) (body:=fun(s:((List RPt)×((List RPt)×(Int×Int))))=>DU s.1 s.2.1 s.2.2.1 s.2.2.2)
  (st:=fun k (b:List Q2)=>(b.map rp,(m.map rp,((m.length:Int),(k:Int))))) (step:=fun b p=>b++[p]) (fin:=fun b=>b.map rp) (I:=fun k b=>b.length=k)
  (by
   rintro k b p hk hI;have hkl:=Dt hk;have hp:=h.2 p (za3 hk);refine⟨?_,by simp[hI]⟩
   show DU (b.map rp) (m.map rp) (m.length:Int) (k:Int)=_;unfold DU;rw[zp (by omega),cT,IE hk,obs];simp only[AI,A1G];rw[A3t hp,obs,AT3,Yq,Aa4 (by simp;omega),obs,AA (by omega)];simp)
  (by
   rintro b _;show DU (b.map rp) (m.map rp) (m.length:Int) (m.length:Int)=_;unfold DU;rw[zq (by omega)];rfl) [] rfl
 have e:m.foldl (fun b p=>b++[p]) []=m:=by
  have:∀(l acc:List Q2),l.foldl (fun b p=>b++[p]) acc=acc++l:=by
   intro l
   induction l with
   |nil=>intro acc;simp
   |cons x l ih=>intro acc;rw[List.foldl_cons,ih];simp
  rw[this];rfl
 rw[e]at h1;have h1':Ad (fun(s:((List RPt)×((List RPt)×(Int×Int))))=>DU s.1 s.2.1 s.2.2.1 s.2.2.2) ((List.nil:List RPt),(m.map rp,((m.length:Int),(0:Int))))=some (m.map rp):=h1;unfold Lj;rw[zd0,h1',obs]
theorem A1O{p:Q2}(h:SzP 8 p):Lq (fl (rp p))=some (fl (rp p),true):=by
 unfold Lq;simp only[AO,AI,Q5,Rf,Jk,Jo];rw[O6 (k:=8) (by omega) h.1,obs,O6 (k:=8) (by omega) h.2,obs,GQ (h.1.mono (by omega)),GQ (h.2.mono (by omega))];rfl
theorem A46{m:List Q2}(h:SzR m):Nh (m.map rp)=some (m.map rp,true):=by
 have h40:=h.1;obtain⟨h1,h2⟩:=J2 (l:=m) (body:=fun(s:((List RPt)×((List RPt)×(Int×Int))))=>Ez s.1 s.2.1 s.2.2.1 s.2.2.2)
  (st:=fun k (b:List Q2)=>(b.map rp,(m.map rp,((m.length:Int),(k:Int))))) (step:=fun b p=>b++[p]) (fin:=fun b=>.inl (b.map rp)) (I:=fun k b=>b.length=k)
  (by
   rintro k b p hk hI;have hkl:=Dt hk;have hp:=h.2 p (za3 hk);refine⟨?_,by simp[hI]⟩
   show Ez (b.map rp) (m.map rp) (m.length:Int) (k:Int)=_;unfold Ez;rw[zp (by omega),cT,IE hk,obs];simp only[AI,A1G];rw[A1O hp,obs];simp only;rw[nT,cF,AT3,Yq,Aa4 (by simp;omega),obs,AA (by omega)];simp)
  (by
   rintro b _;show Ez (b.map rp) (m.map rp) (m.length:Int) (m.length:Int)=_;unfold Ez;rw[zq (by omega)];rfl) [] rfl
 have e:m.foldl (fun b p=>b++[p]) []=m:=by
  have:∀(l acc:List Q2),l.foldl (fun b p=>b++[p]) acc=acc++l:=by
   intro l
   induction l with
   |nil=>intro acc;simp
   |cons x l ih=>intro acc;rw[List.foldl_cons,ih];simp
  rw[this];rfl
 rw[e]at h1;have h1':Ad (fun(s:((List RPt)×((List RPt)×(Int×Int))))=>Ez s.1 s.2.1 s.2.2.1 s.2.2.2) ((List.nil:List RPt),(m.map rp,((m.length:Int),(0:Int))))=some (.inl (m.map rp)):=h1;unfold Nh;rw[zd0,h1',obs,sEl]
def WA(m:List Q2):List RPt×Bool:=if G8 (m.map rp)=true then(m.map rp,true)else([],false)
theorem Z3{m:List Q2}{k:Nat}(hk:k<=1000000)(hl:m.length<=100000)(h:∀p∈m,SzP k p):Gs (m.map rp)=some (WA m):=by
 unfold Gs WA;rw[C0 (by simp;omega) (OX hk h),obs];by_cases hg:G8 (m.map rp)=true
 ·rw[zr hg,hg,nT,cF,A2e (GT.1 hg),obs]
 ·rw[zw hg,Bool.eq_false_iff.2 hg,nF,cT]
theorem A10{m:List Q2}{k:Nat}(hk:k<=1000000)(hl:m.length<=100000)(h:∀p∈m,SzP k p):Lx (m.map rp)=some (WA m):=by
 unfold Lx WA;rw[Gv (by simp;omega) (OX hk h),obs];by_cases hg:G8 (m.map rp)=true
 ·rw[zr hg,hg,nT,cF,A46 (GT.1 hg)];rfl
 ·rw[zw hg,Bool.eq_false_iff.2 hg,nF,cT]
section
variable {ps:List Q2} {s:Rat} (hps:SzR ps) (hs:Sz 2 s) (b:Bool)
include hps hs
end
section
variable {l:List RPt} {a:RF} (hl:l.length<=1000) (hb:∀x∈l,BrP x) (ha:BrF a) (h:(G8 l&&(Cq (toQ a)&&shQ 2 a))=false) (b:Bool)
include hl hb ha h
end
def A9f(ps:List Q2):Rat:=match ps with|[]=>0|a::m=>chn crs a (m++[a])
theorem Rv(ps:List Q2):A9f ps=Fc ps:=by
 cases ps with
 |nil=>rfl
 |cons a m=>
  have hl2:EN (a::m)=IU a m:=by rw[<-Qs a (a::m) (by simp)];rfl
  show chn crs a (m++[a])=chn crs (EN (a::m)) (a::m);rw[A5R,hl2,chn]
  grind
theorem A5W{p q:Q2}(hp:SzP 8 p)(hq:SzP 8 q):Sz 33 (crs p q):=(KU (KJ hp.1 hq.2) (KJ hq.1 hp.2)).mono (by omega)
section
variable {ps:List Q2} {f:Q2} (hps:SzR ps) (hf:ps[0]? =some f)
include hps hf
theorem AH0{k:Nat}(hk:k<ps.length):∃d,AD (ps.map rp) (Int.tmod (zi zj ((k:Int)+1)) (ps.length:Int))=some (rp d)/\SzP 8 d/\∃r,ps.drop (k+1)++[f]=d::r/\(k+1<ps.length->r=ps.drop (k+2)++[f])/\(k+1=ps.length->r=[]):=by
 have h40:=hps.1;rw[AA (by omega),zb7 (by omega)];by_cases h:k+1<ps.length
 ·have e:((k+1:Nat):Int)%(ps.length:Int)=((k+1:Nat):Int):=Int.emod_eq_of_lt (by omega) (by omega);rw[e];have hg:ps[k+1]? =some ps[k+1]:=za1 h;exact⟨ps[k+1],IE hg,hps.2 _ (za3 hg),ps.drop (k+2)++[f],by rw[zb1 h,zd8],fun _=>rfl,fun h'=>by omega⟩
 ·have e:((k+1:Nat):Int)%(ps.length:Int)=((0:Nat):Int):=by rw[show k+1=ps.length by omega];exact Int.emod_self
  rw[e];refine⟨f,IE hf,hps.2 _ (za3 hf),[],?_,fun h'=>absurd h' h,fun _=>rfl⟩
  rw[zd7 (by omega)];rfl
theorem AA0:∀(m k:Nat)(acc:Rat),k+m=ps.length->Sz (34*k+1) acc->
  ∃r,Ad (fun(s:(RF×(RF×((List RPt)×((List RPt)×(Int×Int))))))=>Bx s.1 s.2.1 s.2.2.1 s.2.2.2.1 s.2.2.2.2.1 s.2.2.2.2.2) (zF,(rqF acc,(ps.map rp,(ps.map rp,((ps.length:Int),(k:Int))))))=some (zF,rqF r)/\Sz 1361 r/\
   r=acc+(match ps.drop k with|[]=>0|c::_=>chn crs c (ps.drop (k+1)++[f])):=by
 have h40:=hps.1;intro m
 induction m with
 |zero=>
  intro k acc hk hacc;refine⟨acc,Ak ?_,hacc.mono (by omega),?_⟩
  ·show Bx zF (rqF acc) (ps.map rp) (ps.map rp) (ps.length:Int) (k:Int)=_;unfold Bx;rw[zq (by omega)];rfl
  ·rw[zd7 (show ps.length<=k by omega)];simp only
   grind
 |succ m ih=>
  intro k acc hk hacc;have hlt:k<ps.length:=by omega
  have hd:ps.drop k=ps[k]::ps.drop (k+1):=zb1 hlt;have hg:ps[k]? =some ps[k]:=za1 hlt;generalize ps[k]=c at hd hg;have sc:=hps.2 c (za3 hg);obtain⟨d,hdg,sd,r,hr,hr1,hr2⟩:=AH0 hps hf hlt;have hx:=A5W sc sd;have hsum:Sz (34*(k+1)+1) (acc+crs c d):=(Ph hacc hx).mono (by omega);have hgo:Bx zF (rqF acc) (ps.map rp) (ps.map rp) (ps.length:Int) (k:Int)=some (.inl (zF,(rqF (acc+crs c d),(ps.map rp,(ps.map rp,((ps.length:Int),((k+1:Nat):Int))))))):=by
   unfold Bx;have hz:(((ps.length:Nat):Int)==0)=false:=beq_eq_false_iff_ne.2 (by omega);rw[zp (by omega),cT,IE hg,obs,zd0,hz,cF,hdg,obs];simp only[AO,AI,A6a,A7h,Jk,Jo];rw[Io (k:=8) (by omega) sc.1 sd.2,obs,Io (k:=8) (by omega) sd.1 sc.2,obs]
   try simp only[AO]
   rw[Ql (k:=16) (by omega) ((KJ sc.1 sd.2).mono (by omega)) ((KJ sd.1 sc.2).mono (by omega)),obs]
   try simp only[AO]
   rw[show c.1*d.2-d.1*c.2=crs c d from rfl,GY (k:=1400) (by omega) (hacc.mono (by omega)) (hx.mono (by omega)),obs,AA (by omega)]
  obtain⟨q,g1,g2,g3⟩:=ih (k+1) (acc+crs c d) (by omega) hsum;refine⟨q,(AP (f:=fun(s:(RF×(RF×((List RPt)×((List RPt)×(Int×Int))))))=>Bx s.1 s.2.1 s.2.2.1 s.2.2.2.1 s.2.2.2.2.1 s.2.2.2.2.2) (s:=(zF,(rqF acc,(ps.map rp,(ps.map rp,((ps.length:Int),(k:Int))))))) hgo).trans g1,g2,?_⟩
  rw[g3,hd];simp only;rw[hr,chn];by_cases h:k+1<ps.length
  ·rw[hr1 h];have hd2:ps.drop (k+1)=ps[k+1]::ps.drop (k+2):=zb1 h;rw[hd2]at hr⊢
   have:d=ps[k+1]:=by rw[zd8]at hr;exact(List.cons.inj hr).1.symm
   rw[this];simp only
   grind
  ·rw[hr2 (by omega),zd7 (show ps.length<=k+1 by omega)];simp only[chn]
   grind
theorem AA5:∀(m k:Nat)(acc:Rat),k+m=ps.length->Sz (34*k+1) acc->
  ∃r,Ad (fun(s:(RF×(RF×((List RPt)×((List RPt)×(Int×Int))))))=>BO s.1 s.2.1 s.2.2.1 s.2.2.2.1 s.2.2.2.2.1 s.2.2.2.2.2) (zF,(rqF acc,(ps.map rp,(ps.map rp,((ps.length:Int),(k:Int))))))=some (zF,rqF r)/\Sz 1361 r/\
   r=acc+(match ps.drop k with|[]=>0|c::_=>chn crs c (ps.drop (k+1)++[f])):=by
 have h40:=hps.1;intro m
 induction m with
 |zero=>
  intro k acc hk hacc;refine⟨acc,Ak ?_,hacc.mono (by omega),?_⟩
  ·show BO zF (rqF acc) (ps.map rp) (ps.map rp) (ps.length:Int) (k:Int)=_;unfold BO;rw[zq (by omega)];rfl
  ·rw[zd7 (show ps.length<=k by omega)];simp only
   grind
 |succ m ih=>
  intro k acc hk hacc;have hlt:k<ps.length:=by omega
  have hd:ps.drop k=ps[k]::ps.drop (k+1):=zb1 hlt;have hg:ps[k]? =some ps[k]:=za1 hlt;generalize ps[k]=c at hd hg;have sc:=hps.2 c (za3 hg);obtain⟨d,hdg,sd,r,hr,hr1,hr2⟩:=AH0 hps hf hlt;have hx:=A5W sc sd;have hsum:Sz (34*(k+1)+1) (acc+crs c d):=(Ph hacc hx).mono (by omega);have hgo:BO zF (rqF acc) (ps.map rp) (ps.map rp) (ps.length:Int) (k:Int)=some (.inl (zF,(rqF (acc+crs c d),(ps.map rp,(ps.map rp,((ps.length:Int),((k+1:Nat):Int))))))):=by
   unfold BO;have hz:(((ps.length:Nat):Int)==0)=false:=beq_eq_false_iff_ne.2 (by omega);rw[zp (by omega),cT,IE hg,obs,zd0,hz,cF,hdg,obs];simp only[AO,AI,A6a,A7h,Jk,Jo];rw[W2 (k:=8) (by omega) sc.1 sd.2,obs,W2 (k:=8) (by omega) sd.1 sc.2,obs]
   try simp only[AO]
   rw[W6 (k:=16) (by omega) ((KJ sc.1 sd.2).mono (by omega)) ((KJ sd.1 sc.2).mono (by omega)),obs]
   try simp only[AO]
   rw[show c.1*d.2-d.1*c.2=crs c d from rfl,S6 (k:=1400) (by omega) (hacc.mono (by omega)) (hx.mono (by omega)),obs,AA (by omega)]
  obtain⟨q,g1,g2,g3⟩:=ih (k+1) (acc+crs c d) (by omega) hsum;refine⟨q,(AP (f:=fun(s:(RF×(RF×((List RPt)×((List RPt)×(Int×Int))))))=>BO s.1 s.2.1 s.2.2.1 s.2.2.2.1 s.2.2.2.2.1 s.2.2.2.2.2) (s:=(zF,(rqF acc,(ps.map rp,(ps.map rp,((ps.length:Int),(k:Int))))))) hgo).trans g1,g2,?_⟩
  rw[g3,hd];simp only;rw[hr,chn];by_cases h:k+1<ps.length
  ·rw[hr1 h];have hd2:ps.drop (k+1)=ps[k+1]::ps.drop (k+2):=zb1 h;rw[hd2]at hr⊢
   have:d=ps[k+1]:=by rw[zd8]at hr;exact(List.cons.inj hr).1.symm
   rw[this];simp only
   grind
  ·rw[hr2 (by omega),zd7 (show ps.length<=k+1 by omega)];simp only[chn]
   grind
end
end
section
open Go
theorem PX:A4 (0:Int)=some (rqF 0):=by rw[IJ (by omega) (by omega)];rfl
theorem Af1:A4 (2:Int)=some (rqF 2):=by rw[IJ (by omega) (by omega)];rfl
theorem Aj9:CU (0:Int)=some (rqF 0):=by rw[Qm (by omega) (by omega)];rfl
theorem A2y:CU (2:Int)=some (rqF 2):=by rw[Qm (by omega) (by omega)];rfl
theorem S2:Sz 1361 (2:Rat):=by
 have h:(((2:Int)).natAbs:Int)<B 1361:=Int.lt_of_lt_of_le (by rw[B1];decide:(((2:Int)).natAbs:Int)<B 1) (KH (by omega));have:=Aq2 (z:=2) h (by omega);exact this
theorem S0r:Sz 1 (0:Rat):=by
 have h:(((0:Int)).natAbs:Int)<B 1:=by rw[B1];decide
 have:=Aq2 (z:=0) h (by omega);exact this
theorem UU:(2:Rat)≠0:=by decide
theorem Vm{ps:List Q2}(hps:SzR ps):Hu (ps.map rp)=some (rqF (Fc ps/2))/\Sz 2722 (Fc ps/2):=by
 have h40:=hps.1;have key:∃r,Ad (fun(s:(RF×(RF×((List RPt)×((List RPt)×(Int×Int))))))=>Bx s.1 s.2.1 s.2.2.1 s.2.2.2.1 s.2.2.2.2.1 s.2.2.2.2.2) (zF,(rqF 0,(ps.map rp,(ps.map rp,((ps.length:Int),(0:Int))))))=some (zF,rqF r)/\Sz 1361 r/\r=Fc ps:=by
  cases ps with
  |nil=>
   refine⟨0,Ak ?_,S0r.mono (by omega),rfl⟩
   show Bx zF (rqF 0) [] [] 0 0=_;unfold Bx;rfl
  |cons f m=>
   obtain⟨r,h1,h2,h3⟩:=AA0 hps (f:=f) rfl (f::m).length 0 0 (by omega) S0r;refine⟨r,h1,h2,?_⟩
   rw[h3,<-Rv];show(0:Rat)+chn crs f (m++[f])=chn crs f (m++[f])
   grind
 obtain⟨r,h1,h2,h3⟩:=key;rw[h3]at h1 h2;refine⟨?_,(Aw4 h2 S2 UU).mono (by omega)⟩
 have g1:Ad (fun(s:(RF×(RF×((List RPt)×((List RPt)×(Int×Int))))))=>Bx s.1 s.2.1 s.2.2.1 s.2.2.2.1 s.2.2.2.2.1 s.2.2.2.2.2) ((false,([],(false,[]))),(rqF 0,(ps.map rp,(ps.map rp,((ps.length:Int),(0:Int))))))=some (zF,rqF (Fc ps)):=h1;have hh:DK (rqF (Fc ps))=some (rqF (Fc ps/2)):=by
  unfold DK;simp only[AO];rw[Af1,obs]
  try simp only[AO]
  rw[UV (k:=1361) (by omega) h2 S2 UU,obs]
 unfold Hu;rw[PX,obs]
 try simp only[AO]
 rw[zd0,g1,obs]
 try simp only[AO]
 rw[hh,obs]
theorem U6{ps:List Q2}(hps:SzR ps):IW (ps.map rp)=some (rqF (Fc ps/2))/\Sz 2722 (Fc ps/2):=by
 have h40:=hps.1;have key2:∃r,Ad (fun(s:(RF×(RF×((List RPt)×((List RPt)×(Int×Int))))))=>BO s.1 s.2.1 s.2.2.1 s.2.2.2.1 s.2.2.2.2.1 s.2.2.2.2.2) (zF,(rqF 0,(ps.map rp,(ps.map rp,((ps.length:Int),(0:Int))))))=some (zF,rqF r)/\Sz 1361 r/\r=Fc ps:=by
  cases ps with
  |nil=>
   refine⟨0,Ak ?_,S0r.mono (by omega),rfl⟩
   show BO zF (rqF 0) [] [] 0 0=_;unfold BO;rfl
  |cons f m=>
   obtain⟨r,h1,h2,h3⟩:=AA5 hps (f:=f) rfl (f::m).length 0 0 (by omega) S0r;refine⟨r,h1,h2,?_⟩
   rw[h3,<-Rv];show(0:Rat)+chn crs f (m++[f])=chn crs f (m++[f])
   grind
 obtain⟨r,h1,h2,h3⟩:=key2;rw[h3]at h1 h2;refine⟨?_,(Aw4 h2 S2 UU).mono (by omega)⟩
 have g1:Ad (fun(s:(RF×(RF×((List RPt)×((List RPt)×(Int×Int))))))=>BO s.1 s.2.1 s.2.2.1 s.2.2.2.1 s.2.2.2.2.1 s.2.2.2.2.2) ((false,([],(false,[]))),(rqF 0,(ps.map rp,(ps.map rp,((ps.length:Int),(0:Int))))))=some (zF,rqF (Fc ps)):=h1;unfold IW;rw[Aj9,obs]
 try simp only[AO]
 rw[zd0,g1,obs]
 try simp only[AO]
 rw[A2y,obs]
 try simp only[AO]
 rw[A0S (k:=1361) (by omega) h2 S2 UU,obs]
theorem AU5{ps:List Q2}(hps:SzR ps):HE (ps.map rp)=some (LW (Fc ps/2)):=by
 have hp:=hps.1;unfold HE;rw[C0 (by simp;omega) (OX (k:=8) (by omega) hps.2),obs,GT.2 hps,nT,cF,(Vm hps).1,obs];simp only[AO,AI];rw[JN,obs]
def ShP(x:RPt):Prop:=ShF (fx x)/\ShF (fy x)
theorem ShP.br{x:RPt}(h:ShP x):BrP x:=⟨h.1.br,h.2.br⟩
end
section
open Go
structure Val (E:Q2->Q2->Rat):Prop where
 anti:∀p q,E p q= -(E q p)
 split:∀p q t,0<=t->t<=1->E p (C5 p q t)+E (C5 p q t) q=E p q
theorem Val.self{E:Q2->Q2->Rat}(h:Val E)(p:Q2):E p p=0:=by
 have:=h.anti p p
 grind
theorem M3:Val crs:=⟨fun p q=>by unfold crs;grind,fun p q t _ _=>by unfold crs C5;simp only;grind⟩
theorem ZK(a c:Q2):C5 a c 0=a:=by unfold C5;rw[Rat.zero_mul,Rat.zero_mul,Rat.add_zero,Rat.add_zero]
theorem A0a(a c:Q2):C5 a c 1=c:=by
 unfold C5;rw[Rat.one_mul,Rat.one_mul,show a.1+(c.1-a.1)=c.1 by grind,show a.2+(c.2-a.2)=c.2 by grind]
theorem A0y(a c:Q2)(t u:Rat):C5 a (C5 a c t) u=C5 a c (u*t):=by
 unfold C5;simp only;rw[show a.1+u*(a.1+t*(c.1-a.1)-a.1)=a.1+u*t*(c.1-a.1) by grind,show a.2+u*(a.2+t*(c.2-a.2)-a.2)=a.2+u*t*(c.2-a.2) by grind]
theorem SI(b:Bool)(a c:Q2)(t:Rat):crd b (C5 a c t)=crd b a+t*(crd b c-crd b a):=by cases b<;>rfl
theorem XF{x y:Rat}(h0:0<=x)(h:x<=y)(hy:0<y):0<=x/y/\x/y<=1:=by
 have e:x/y*y=x:=Rat.div_mul_cancel (by intro h;rw[h]at hy;exact absurd hy (Rat.lt_irrefl));constructor
 ·refine Rat.le_of_mul_le_mul_right (c:=y) ?_ hy
  rw[e,Rat.zero_mul];exact h0
 ·refine Rat.le_of_mul_le_mul_right (c:=y) ?_ hy
  rw[e,Rat.one_mul];exact h
theorem Val.three{E:Q2->Q2->Rat}(h:Val E){a c:Q2}{t u:Rat}(h0:0<=t)(h1:t<=u)(h2:u<=1):E a (C5 a c t)+E (C5 a c t) (C5 a c u)=E a (C5 a c u):=by
 by_cases hu:u=0
 ·have:t=0:=by grind
  rw[hu,this,ZK,h.self];grind
 ·have hu0:0<u:=by grind
  obtain⟨d0,d1⟩:=XF h0 h1 hu0;have e:t/u*u=t:=Rat.div_mul_cancel hu;have:=h.split a (C5 a c u) (t/u) d0 d1;rw[A0y,e]at this;exact this
def prj(b:Bool)(s:Rat)(p:Q2):Q2:=if b then(p.1,s)else(s,p.2)
theorem A4j{b:Bool}{s:Rat}{p:Q2}(h:crd b p=s):prj b s p=p:=by
 unfold crd at h;unfold prj;cases b
 ·simp at h⊢;rw[<-h]
 ·simp at h⊢;rw[<-h]
theorem A6v(b:Bool)(s:Rat)(p:Q2):crd b (prj b s p)=s:=by cases b<;>rfl
theorem Au1{b:Bool}{p q:Q2}(h1:crd b p=crd b q)(h2:crd (!b) p=crd (!b) q):p=q:=by
 unfold crd at h1 h2;cases b<;>simp at h1 h2
 ·exact Prod.ext h1 h2
 ·exact Prod.ext h2 h1
theorem Val.mid{E:Q2->Q2->Rat}(h:Val E){b:Bool}{s:Rat}{p q r:Q2}(hp:crd b p=s)(hq:crd b q=s)(hr:crd b r=s)(h1:crd (!b) p<=crd (!b) q)(h2:crd (!b) q<=crd (!b) r):E p q+E q r=E p r:=by
 by_cases e:crd (!b) p=crd (!b) r
 ·have e1:p=q:=Au1 (by rw[hp,hq]) (by grind);have e2:q=r:=Au1 (by rw[hq,hr]) (by grind);rw[e1,e2,h.self];grind
 ·have hlt:0<crd (!b) r-crd (!b) p:=by grind
  obtain⟨d0,d1⟩:=XF (x:=crd (!b) q-crd (!b) p) (y:=crd (!b) r-crd (!b) p) (by grind) (by grind) hlt;have hd:(crd (!b) q-crd (!b) p)/(crd (!b) r-crd (!b) p)*(crd (!b) r-crd (!b) p)=crd (!b) q-crd (!b) p:=Rat.div_mul_cancel (fun h=>by grind);have hm:C5 p r ((crd (!b) q-crd (!b) p)/(crd (!b) r-crd (!b) p))=q:=by
   refine Au1 (b:=b) ?_ ?_
   ·rw[SI,hp,hq,hr];grind
   ·rw[SI,hd];grind
  have:=h.split p r _ d0 d1;rw[hm]at this;exact this
theorem Val.line{E:Q2->Q2->Rat}(h:Val E){b:Bool}{s:Rat}{p q r:Q2}(hp:crd b p=s)(hq:crd b q=s)(hr:crd b r=s):E p q+E q r=E p r:=by
 have a1:=h.anti p q;have a2:=h.anti q r;have a3:=h.anti p r;rcases Rat.le_total (a:=crd (!b) p) (b:=crd (!b) q)with k1|k1<;>rcases Rat.le_total (a:=crd (!b) q) (b:=crd (!b) r)with k2|k2<;>rcases Rat.le_total (a:=crd (!b) p) (b:=crd (!b) r)with k3|k3
 ·exact h.mid hp hq hr k1 k2
 ·exact h.mid hp hq hr k1 k2
 ·have:=h.mid hp hr hq k3 k2
  grind
 ·have:=h.mid hr hp hq k3 k1
  grind
 ·have:=h.mid hq hp hr k1 k3
  grind
 ·have:=h.mid hq hr hp k2 k3
  grind
 ·have:=h.mid hr hq hp k2 k1
  grind
 ·have:=h.mid hr hq hp k2 k1
  grind
section
variable (E:Q2->Q2->Rat) (b high:Bool) (s:Rat)
def phi(p:Q2):Rat:=E (prj b s (0,0)) (prj b s p)
def gE(p q:Q2):Rat:=E p q-(phi E b s q-phi E b s p)
def BV(a c:Q2):Rat:=
 bif ins b high s a then(bif ins b high s c then gE E b s a c else gE E b s a (K3 b s a c))else(bif ins b high s c then gE E b s (K3 b s a c) c else 0)
end
section
variable {E:Q2->Q2->Rat} (h:Val E) {b high:Bool} {s:Rat}
include h
theorem At0{p q:Q2}(hp:crd b p=s)(hq:crd b q=s):gE E b s p q=0:=by
 unfold gE phi;rw[A4j hp,A4j hq];have:=h.line (b:=b) (s:=s) (p:=prj b s (0,0)) (q:=p) (r:=q) (A6v b s _) hp hq
 grind
theorem A0p(p:Q2):gE E b s p p=0:=by unfold gE;rw[h.self];grind
theorem Ax4(p q:Q2):gE E b s p q= -(gE E b s q p):=by
 unfold gE;have:=h.anti p q
 grind
theorem YD(p q:Q2)(t:Rat)(h0:0<=t)(h1:t<=1):gE E b s p (C5 p q t)+gE E b s (C5 p q t) q=gE E b s p q:=by
 have:=h.split p q t h0 h1;unfold gE;generalize C5 p q t=m at*
 grind
theorem A5Y{a c:Q2}{t u:Rat}(h0:0<=t)(h1:t<=u)(h2:u<=1):gE E b s a (C5 a c t)+gE E b s (C5 a c t) (C5 a c u)=gE E b s a (C5 a c u):=by
 have:=h.three (a:=a) (c:=c) h0 h1 h2;unfold gE;generalize C5 a c t=m at*
 generalize C5 a c u=n at*
 grind
theorem A4r{a c q:Q2}(hA:At b high s a q):chn (gE E b s) q (I6 b high s a c)=BV E b high s a c/\At b high s c (IU q (I6 b high s a c)):=by
 unfold At at hA⊢
 unfold I6 BV;have hm:ins b high s a≠ins b high s c->crd b (K3 b s a c)=s:=fun h=>Ap2 (LL h)
 cases h1:ins b high s a<;>cases h2:ins b high s c<;>rw[h1]at hA hm<;>rw[h2]at hm<;>simp only[if_true,zc1,if_false,reduceCtorEq]at hA⊢
 ·simp only[List.nil_append,chn,IU,cond_false,if_true,ze2];exact⟨trivial,hA⟩
 ·have hm:=hm (by simp);simp only[zd8,List.nil_append,chn,IU,cond_false,cond_true];rw[At0 h hA hm];refine⟨by grind,trivial⟩
 ·have hm:=hm (by simp);simp only[ze2,chn,IU,cond_false,cond_true];rw[hA];exact⟨by grind,hm⟩
 ·simp only[List.nil_append,chn,IU,cond_true,if_true];rw[hA];exact⟨by grind,trivial⟩
theorem YJ:∀(l:List Q2)(a q:Q2),At b high s a q->chn (gE E b s) q (Bd b high s a l)=chn (BV E b high s) a l/\At b high s (IU a l) (IU q (Bd b high s a l))
 |[],a,q,hA=>⟨rfl,hA⟩
 |c::l,a,q,hA=>by
  obtain⟨h1,h2⟩:=A4r h (c:=c) hA;obtain⟨h3,h4⟩:=YJ l c _ h2;rw[Bd,RX,Vx,h1,h3];exact⟨rfl,h4⟩
end
theorem AS2(E:Q2->Q2->Rat)(b:Bool)(s:Rat):∀(a:Q2)(l:List Q2),chn (gE E b s) a l=chn E a l-(phi E b s (IU a l)-phi E b s a)
 |a,[]=>by simp only[chn,IU];grind
 |a,c::l=>by
  rw[chn,chn,AS2 E b s c l,IU];unfold gE;generalize phi E b s (IU c l)=x;generalize phi E b s a=y;generalize phi E b s c=z
  grind
def Ns(E:Q2->Q2->Rat)(l:List Q2):Rat:=chn E (EN l) l
theorem A2I(l:List Q2):Fc l=Ns crs l:=rfl
theorem D8{E:Q2->Q2->Rat}(h:Val E)(b high:Bool)(s:Rat)(l:List Q2):Ns E (Bi b high s l)=Ns (BV E b high s) l:=by
 obtain⟨q,hq⟩:=A52 b high s (EN l);obtain⟨h1,h2⟩:=YJ h l (EN l) q hq;rw[TJ]at h2;unfold Ns;by_cases he:Bi b high s l=[]
 ·have he':Bd b high s (EN l) l=[]:=he;rw[he];rw[he']at h1;rw[<-h1];rfl
 ·have hl:IU q (Bd b high s (EN l) l)=EN (Bi b high s l):=Qs _ _ he;rw[hl]at h2;obtain⟨h3,_⟩:=YJ h l (EN l) _ h2;have h4:=AS2 E b s (EN (Bi b high s l)) (Bi b high s l);rw[TJ]at h4;have h5:chn (gE E b s) (EN (Bi b high s l)) (Bi b high s l)=chn (BV E b high s) (EN l) l:=h3;rw[h5]at h4;rw[h4]
  grind
theorem A3e(E:Q2->Q2->Rat)(b:Bool)(s:Rat)(l:List Q2):Ns E l=Ns (gE E b s) l:=by
 unfold Ns;rw[AS2,TJ]
 grind
theorem A0I{b:Bool}{s:Rat}{a c:Q2}{t:Rat}(ht:t≠0)(hc:crd b c≠crd b a):K3 b s a (C5 a c t)=K3 b s a c:=by
 unfold K3;rw[A0y,SI]
 congr 1
 have hd:crd b c-crd b a≠0:=fun e=>hc (by grind)
 have hd2:crd b a+t*(crd b c-crd b a)-crd b a≠0:=fun e=>by
  have:t*(crd b c-crd b a)=0:=by grind
  rcases Rat.mul_eq_zero.1 this with h|h
  ·exact ht h
  ·exact hd h
 have e1:=Rat.div_mul_cancel (a:=s-crd b a) hd2;have e2:=Rat.div_mul_cancel (a:=s-crd b a) hd;generalize (s-crd b a)/(crd b a+t*(crd b c-crd b a)-crd b a)=u at*
 generalize (s-crd b a)/(crd b c-crd b a)=v at*
 have e3:(u*t-v)*(crd b c-crd b a)=0:=by grind
 rcases Rat.mul_eq_zero.1 e3 with h|h
 ·grind
 ·exact absurd h hd
theorem Tv{b:Bool}{s:Rat}{a c:Q2}(hc:crd b c≠crd b a):K3 b s a c=K3 b s c a:=by
 have hd:crd b c-crd b a≠0:=fun e=>hc (by grind)
 have hd2:crd b a-crd b c≠0:=fun e=>hc (by grind)
 have e1:=Rat.div_mul_cancel (a:=s-crd b a) hd;have e2:=Rat.div_mul_cancel (a:=s-crd b c) hd2;unfold K3 C5;generalize (s-crd b a)/(crd b c-crd b a)=u at*
 generalize (s-crd b c)/(crd b a-crd b c)=v at*
 have e3:(u+v-1)*(crd b c-crd b a)=0:=by grind
 have e4:v=1-u:=by
  rcases Rat.mul_eq_zero.1 e3 with h|h
  ·grind
  ·exact absurd h hd
 rw[e4,show a.1+u*(c.1-a.1)=c.1+(1-u)*(a.1-c.1) by grind,show a.2+u*(c.2-a.2)=c.2+(1-u)*(a.2-c.2) by grind]
theorem AL6(a c:Q2)(t:Rat):C5 a c t=C5 c a (1-t):=by
 unfold C5;rw[show a.1+t*(c.1-a.1)=c.1+(1-t)*(a.1-c.1) by grind,show a.2+t*(c.2-a.2)=c.2+(1-t)*(a.2-c.2) by grind]
theorem AD4{b high:Bool}{s:Rat}{a c:Q2}{t:Rat}(h0:0<=t)(h1:t<=1)(x:Bool)(ha:ins b high s a=x)(hc:ins b high s c=x):ins b high s (C5 a c t)=x:=by
 unfold ins at*
 rw[SI];have k1:0<=1-t:=by grind
 generalize crd b a=p at*
 generalize crd b c=q at*
 have e:p+t*(q-p)=(1-t)*p+t*q:=by grind
 rw[e];have low:∀z:Rat,p<=z->q<=z->(1-t)*p+t*q<=z:=by
  intro z hp hq;have m1:=Rat.mul_le_mul_of_nonneg_left hp k1;have m2:=Rat.mul_le_mul_of_nonneg_left hq h0;have e2:(1-t)*z+t*z=z:=by grind
  grind
 have up:∀z:Rat,z<=p->z<=q->z<=(1-t)*p+t*q:=by
  intro z hp hq;have m1:=Rat.mul_le_mul_of_nonneg_left hp k1;have m2:=Rat.mul_le_mul_of_nonneg_left hq h0;have e2:(1-t)*z+t*z=z:=by grind
  grind
 have lowS:p<s->q<s->(1-t)*p+t*q<s:=by
  intro hp hq;rcases Rat.le_total (a:=p) (b:=q)with g|g
  ·have:=low q g Rat.le_refl
   grind
  ·have:=low p Rat.le_refl g
   grind
 have upS:s<p->s<q->s<(1-t)*p+t*q:=by
  intro hp hq;rcases Rat.le_total (a:=p) (b:=q)with g|g
  ·have:=up p Rat.le_refl g
   grind
  ·have:=up q g Rat.le_refl
   grind
 cases high<;>cases x<;>simp only[if_true,zc1,if_false,decide_eq_true_eq,decide_eq_false_iff_not,Rat.not_le]at ha hc⊢
 ·exact upS ha hc
 ·exact low s ha hc
 ·exact lowS ha hc
 ·exact up s ha hc
section
variable {E:Q2->Q2->Rat} (h:Val E) {b high:Bool} {s:Rat}
include h
theorem Ys(a:Q2):BV E b high s a a=0:=by
 unfold BV;cases ins b high s a
 ·rfl
 ·simp only[cond_true];exact A0p h a
theorem Nq(a c:Q2):BV E b high s a c= -(BV E b high s c a):=by
 unfold BV;cases h1:ins b high s a<;>cases h2:ins b high s c<;>simp only[cond_true,cond_false]
 ·grind
 ·have hne:=LL (b:=b) (high:=high) (s:=s) (a:=a) (c:=c) (by rw[h1,h2];simp);rw[Tv hne];exact Ax4 h _ _
 ·have hne:=LL (b:=b) (high:=high) (s:=s) (a:=a) (c:=c) (by rw[h1,h2];simp);rw[Tv hne];exact Ax4 h _ _
 ·exact Ax4 h _ _
theorem Pu{a c:Q2}{t:Rat}(h0:0<=t)(h1:t<=1)(ha:ins b high s a=true):BV E b high s a (C5 a c t)+BV E b high s (C5 a c t) c=BV E b high s a c:=by
 by_cases ht0:t=0
 ·rw[ht0,ZK,Ys h];grind
 by_cases ht1:t=1
 ·rw[ht1,A0a,Ys h];grind
 cases hc:ins b high s c with
 |true=>
  have hm:=AD4 h0 h1 true ha hc;unfold BV;rw[ha,hc,hm];simp only[cond_true];exact YD h a c t h0 h1
 |false=>
  have hne:=LL (b:=b) (high:=high) (s:=s) (a:=a) (c:=c) (by rw[ha,hc];simp);cases hm:ins b high s (C5 a c t)with
  |false=>
   have e:=A0I (b:=b) (s:=s) ht0 hne;unfold BV;rw[ha,hc,hm];simp only[cond_true,cond_false];rw[e];grind
  |true=>
   have hne2:=LL (b:=b) (high:=high) (s:=s) (a:=C5 a c t) (c:=c) (by rw[hm,hc];simp);have e:K3 b s (C5 a c t) c=K3 b s a c:=by
    rw[Tv hne2,AL6 a c t,A0I (fun h=>ht1 (by grind)) (fun h=>hne h.symm),<-Tv hne]
   unfold BV;rw[ha,hc,hm];simp only[cond_true,cond_false];rw[e];have hd:crd b c-crd b a≠0:=fun e=>hne (by grind)
   have e1:=Rat.div_mul_cancel (a:=s-crd b a) hd;have hcm:=SI b a c t;unfold ins at ha hc hm;have hu:t<=(s-crd b a)/(crd b c-crd b a)/\(s-crd b a)/(crd b c-crd b a)<=1:=by
    rw[hcm]at hm;generalize (s-crd b a)/(crd b c-crd b a)=u at*
    generalize crd b a=p at*
    generalize crd b c=q at*
    cases high with
    |false=>
     simp only[zc1,if_false,decide_eq_true_eq,decide_eq_false_iff_not,Rat.not_le]at ha hc hm;have hpos:0<q-p:=by grind
     constructor
     ·refine Rat.le_of_mul_le_mul_right (c:=q-p) ?_ hpos
      rw[e1];grind
     ·refine Rat.le_of_mul_le_mul_right (c:=q-p) ?_ hpos
      rw[e1];grind
    |true=>
     simp only[if_true,decide_eq_true_eq,decide_eq_false_iff_not,Rat.not_le]at ha hc hm;have hpos:0<p-q:=by grind
     have e2:u*(p-q)=p-s:=by grind
     constructor
     ·refine Rat.le_of_mul_le_mul_right (c:=p-q) ?_ hpos
      rw[e2];grind
     ·refine Rat.le_of_mul_le_mul_right (c:=p-q) ?_ hpos
      rw[e2];grind
   exact A5Y h h0 hu.1 hu.2
theorem JS:Val (BV E b high s):=by
 refine⟨Nq h,fun a c t h0 h1=> ?_⟩
 cases ha:ins b high s a with
 |true=>exact Pu h h0 h1 ha
 |false=>
  cases hc:ins b high s c with
  |true=>
   have:=Pu h (a:=c) (c:=a) (t:=1-t) (by grind) (by grind) hc;rw[<-AL6 a c t]at this;have a1:=Nq h (b:=b) (high:=high) (s:=s) a (C5 a c t);have a2:=Nq h (b:=b) (high:=high) (s:=s) (C5 a c t) c;have a3:=Nq h (b:=b) (high:=high) (s:=s) a c
   grind
  |false=>
   have hm:=AD4 h0 h1 false ha hc;unfold BV;rw[ha,hc,hm];simp only[cond_false]
   grind
theorem AQ4(a c:Q2):BV E b false s a c+BV E b true s a c=gE E b s a c:=by
 have hcut:K3 b s a c=C5 a c ((s-crd b a)/(crd b c-crd b a)):=rfl;have ha:crd b a=s->K3 b s a c=a:=by
  intro h1;rw[hcut,h1,show s-s=(0:Rat) by grind,Rat.div_def,Rat.zero_mul,ZK]
 have hcc:crd b c=s->crd b c≠crd b a->K3 b s a c=c:=by
  intro h1 h2;have hd:crd b c-crd b a≠0:=fun e=>h2 (by grind)
  rw[hcut,<-h1,Rat.div_def,Rat.mul_inv_cancel _ hd,A0a]
 have hself:=A0p h (b:=b) (s:=s);have hline:= @At0 E h b s a c;have flo:∀p:Q2,crd b p<s->ins b false s p=true/\ins b true s p=false:=fun p h=>⟨zp (Rat.le_of_lt h),zq (by grind)⟩
 have fon:∀p:Q2,crd b p=s->ins b false s p=true/\ins b true s p=true:=fun p h=>⟨zp (by rw[h];exact Rat.le_refl),zp (by rw[h];exact Rat.le_refl)⟩
 have fhi:∀p:Q2,s<crd b p->ins b false s p=false/\ins b true s p=true:=fun p h=>⟨zq (by grind),zp (Rat.le_of_lt h)⟩
 have strict:∀x y:Rat,0<x->x<y->0<=x/y/\x/y<=1:=fun x y h1 h2=>XF (Rat.le_of_lt h1) (Rat.le_of_lt h2) (by grind)
 unfold BV;rcases tri (crd b a) s with h1|h1|h1
 ·obtain⟨a1,a2⟩:=flo a h1;rcases tri (crd b c) s with h2|h2|h2
  ·obtain⟨c1,c2⟩:=flo c h2;simp only[a1,a2,c1,c2,cond_true,cond_false,Rat.add_zero]
  ·obtain⟨c1,c2⟩:=fon c h2;simp only[a1,a2,c1,c2,cond_true,cond_false];rw[hcc h2 (by rw[h2];intro e;rw[e]at h1;exact absurd h1 (Rat.lt_irrefl)),hself,Rat.add_zero]
  ·obtain⟨c1,c2⟩:=fhi c h2;simp only[a1,a2,c1,c2,cond_true,cond_false];obtain⟨d0,d1⟩:=XF (x:=s-crd b a) (y:=crd b c-crd b a) (by grind) (by grind) (by grind);exact YD h a c _ d0 d1
 ·obtain⟨a1,a2⟩:=fon a h1;rcases tri (crd b c) s with h2|h2|h2
  ·obtain⟨c1,c2⟩:=flo c h2;simp only[a1,a2,c1,c2,cond_true,cond_false];rw[ha h1,hself,Rat.add_zero]
  ·obtain⟨c1,c2⟩:=fon c h2;simp only[a1,a2,c1,c2,cond_true,cond_false];rw[hline h1 h2,Rat.add_zero]
  ·obtain⟨c1,c2⟩:=fhi c h2;simp only[a1,a2,c1,c2,cond_true,cond_false];rw[ha h1,hself,Rat.zero_add]
 ·obtain⟨a1,a2⟩:=fhi a h1;have hdd:(s-crd b a)/(crd b c-crd b a)=(crd b a-s)/(crd b a-crd b c):=by
   by_cases hd:crd b c-crd b a=0
   ·have hd':crd b a-crd b c=0:=by grind
    rw[hd,hd',Rat.div_def,Rat.div_def,Rat.inv_zero,Rat.mul_zero,Rat.mul_zero]
   ·have e1:=Rat.div_mul_cancel (a:=s-crd b a) hd;have e2:=Rat.div_mul_cancel (a:=crd b a-s) (b:=crd b a-crd b c) (fun e=>hd (by grind));generalize (s-crd b a)/(crd b c-crd b a)=u at*
    generalize (crd b a-s)/(crd b a-crd b c)=v at*
    have e3:(u-v)*(crd b c-crd b a)=0:=by grind
    rcases Rat.mul_eq_zero.1 e3 with h|h
    ·grind
    ·exact absurd h hd
  rcases tri (crd b c) s with h2|h2|h2
  ·obtain⟨c1,c2⟩:=flo c h2;simp only[a1,a2,c1,c2,cond_true,cond_false];obtain⟨d0,d1⟩:=XF (x:=crd b a-s) (y:=crd b a-crd b c) (by grind) (by grind) (by grind);rw[Rat.add_comm,hcut,hdd];exact YD h a c _ d0 d1
  ·obtain⟨c1,c2⟩:=fon c h2;simp only[a1,a2,c1,c2,cond_true,cond_false];rw[hcc h2 (by rw[h2];intro e;rw[e]at h1;exact absurd h1 (Rat.lt_irrefl)),hself,Rat.zero_add]
  ·obtain⟨c1,c2⟩:=fhi c h2;simp only[a1,a2,c1,c2,cond_true,cond_false,Rat.zero_add]
end
theorem X7{E:Q2->Q2->Rat}(h:Val E)(b:Bool)(s:Rat)(l:List Q2):Ns E (Bi b false s l)+Ns E (Bi b true s l)=Ns E l:=by
 rw[D8 h,D8 h,A3e E b s l];exact A0e _ _ (gE E b s) (AQ4 h) _ _
end
section
open Go
theorem AH3{E:Q2->Q2->Rat}(h:Val E){b:Bool}{s:Rat}:∀(l:List Q2)(a:Q2),crd b a=s->(∀p∈l,crd b p=s)->chn (gE E b s) a l=0
 |[],a,_,_=>rfl
 |c::l,a,ha,hl=>by
  have hc:=hl c (by simp);rw[chn,At0 h ha hc,AH3 h l c hc (fun p hp=>hl p (ze6 _ hp))]
  grind
theorem A36{E:Q2->Q2->Rat}(h:Val E){b:Bool}{s:Rat}{l:List Q2}(hl:∀p∈l,crd b p=s):Ns E l=0:=by
 rw[A3e E b s];cases hm:l with
 |nil=>rfl
 |cons c m=>
  have hne:l≠[]:=by rw[hm];simp
  rw[<-hm];exact AH3 h l _ (hl _ (Un hne)) hl
theorem Ai8{b high:Bool}{s:Rat}:∀(l:List Q2)(a:Q2)(p:Q2),p∈Bd b high s a l->(p∈l/\ins b high s p=true)\/crd b p=s
 |[],a,p,h=>by cases h
 |c::l,a,p,h=>by
  rw[Bd]at h;rcases zb2.1 h with h|h
  ·unfold I6 at h;rcases zb2.1 h with h|h
   ·by_cases e:ins b high s a=ins b high s c
    ·rw[zr e]at h;cases h
    ·rw[zw e]at h;rw[zd1.1 h];exact .inr (Ap2 (LL e))
   ·by_cases e:ins b high s c=true
    ·rw[zr e]at h;rw[zd1.1 h];exact .inl ⟨by simp,e⟩
    ·rw[zw e]at h;cases h
  ·rcases Ai8 l c p h with h|h
   ·exact .inl ⟨ze6 _ h.1,h.2⟩
   ·exact .inr h
theorem A6Q{E:Q2->Q2->Rat}(h:Val E){b:Bool}{s t:Rat}(hst:s<=t)(l:List Q2):Ns E (Bi b true t (Bi b false s l))=0:=by
 refine A36 h (b:=b) (s:=t) fun p hp=> ?_
 rcases Ai8 _ _ p hp with⟨h1,h2⟩|h1
 ·have h3:=Li _ _ p h1;rw[Zf]at h3;rw[AV5]at h2;have h3:=of_decide_eq_true h3;have h2:=of_decide_eq_true h2
  grind
 ·exact h1
theorem Ak0{E:Q2->Q2->Rat}(h:Val E){b:Bool}{s t:Rat}(hst:s<=t)(l:List Q2):Ns E (Bi b true t (Bi b true s l))=Ns E (Bi b true t l):=by
 have h1:=X7 (JS h (b:=b) (high:=true) (s:=t)) b s l;rw[<-D8 h,<-D8 h,<-D8 h,A6Q h hst]at h1
 grind
def Ik(lo hi:Q2)(l:List Q2):List Q2:=Bi true false hi.2 (Bi true true lo.2 (Bi false false hi.1 (Bi false true lo.1 l)))
theorem A1z(lo hi:Q2)(mid:Rat)(h1:lo.1<=mid)(h2:mid<=hi.1)(l:List Q2):Fc (Ik lo (mid,hi.2) l)+Fc (Ik (mid,lo.2) hi l)=Fc (Ik lo hi l):=by
 have hW:Val (BV (BV crs true false hi.2) true true lo.2):=JS (JS M3);have key:∀m:List Q2,Fc (Bi true false hi.2 (Bi true true lo.2 m))=Ns (BV (BV crs true false hi.2) true true lo.2) m:=by
  intro m;rw[A2I,D8 M3,D8 (JS M3)]
 unfold Ik;simp only;rw[key,key,key];generalize BV (BV crs true false hi.2) true true lo.2=W at hW;have hU:Val (BV W false false hi.1):=JS hW;have s1:=X7 hU false mid (Bi false true lo.1 l);rw[Ak0 hU h1]at s1;have s2:Ns (BV W false false hi.1) (Bi false false mid (Bi false true lo.1 l))=Ns W (Bi false false mid (Bi false true lo.1 l)):=by
  rw[<-D8 hW];rw[Ar8 (b:=false) (high:=false) (s:=hi.1) (fun p hp=>by
   have h3:=Li _ _ p hp;rw[Zf]at h3⊢
   exact zp (Rat.le_trans (of_decide_eq_true h3) h2))]
 rw[s2,<-D8 hW,<-D8 hW]at s1;exact s1
end
section
open Go
theorem S1K:Sz 1 (1:Rat):=by have:=Aq2 (z:=1) (AN0 (k:=1) (by omega)) (by omega);exact this
def SzN(K:Nat)(ps:List Q2):Prop:=ps.length<=1000/\∀p∈ps,SzP K p
theorem PO{K:Nat}(hK:K<=2972){p:Q2}{s:Rat}(hp:SzP K p)(hs:Sz K s)(b high:Bool):Ij high b (rqF s) (fl (rp p))=some (high,(b,(rqF s,ins b high s p))):=by
 have hc:=Fj hp b;unfold Ij;simp only[AO,AI];cases high with
 |true=>
  simp only[cT];rw[WW,obs,FM (k:=K) (by omega) hc hs,obs,AV5];have:(!decide (crd b p<s))=decide (s<=crd b p):=by
   rw[Bool.eq_iff_iff];simp[Rat.not_lt]
  rw[this]
 |false=>
  simp only[cF];rw[WW,obs,FM (k:=K) (by omega) hs hc,obs,Zf];have:(!decide (s<crd b p))=decide (crd b p<=s):=by
   rw[Bool.eq_iff_iff];simp[Rat.not_lt]
  rw[this]
section
variable {K:Nat} (hK:K<=2972) {a c:Q2} {t:Rat} (ha:SzP K a) (hc:SzP K c) (ht:Sz (4*K+2) t)
include hK ha hc ht
theorem A8s:WI (fl (rp a)) (fl (rp c)) (rqF t)=some (fl (rp (C5 a c t))):=by
 have h1:Sz (4*K+4) (1-t):=(KU S1K ht).mono (by omega);have m1:∀x:Rat,Sz K x->Sz (5*K+4) ((1-t)*x):=fun x hx=>(KJ h1 hx).mono (by omega)
 have m2:∀x:Rat,Sz K x->Sz (5*K+4) (t*x):=fun x hx=>(KJ ht hx).mono (by omega)
 unfold WI;simp only[AO,AI,Q5,Rf,Jk,Jo];rw[Ak1,obs]
 try simp only[AO]
 rw[Ql (k:=4*K+2) (by omega) (S1K.mono (by omega)) ht,obs]
 try simp only[AO]
 rw[Io (k:=4*K+4) (by omega) h1 (ha.1.mono (by omega)),obs,Io (k:=4*K+4) (by omega) (ht.mono (by omega)) (hc.1.mono (by omega)),obs]
 try simp only[AO]
 rw[GY (k:=5*K+4) (by omega) (m1 _ ha.1) (m2 _ hc.1),obs,Io (k:=4*K+4) (by omega) h1 (ha.2.mono (by omega)),obs,Io (k:=4*K+4) (by omega) (ht.mono (by omega)) (hc.2.mono (by omega)),obs]
 try simp only[AO]
 rw[GY (k:=5*K+4) (by omega) (m1 _ ha.2) (m2 _ hc.2),obs];unfold C5;rw[show a.1+t*(c.1-a.1)=(1-t)*a.1+t*c.1 by grind,show a.2+t*(c.2-a.2)=(1-t)*a.2+t*c.2 by grind];rfl
theorem A75:MM (fl (rp a)) (fl (rp c)) (rqF t)=some (fl (rp (C5 a c t))):=by
 have key:∀x y:Rat,Sz K x->Sz K y->I2 (rqF x) (rqF y) (rqF t)=some (rqF (x+t*(y-x))):=by
  intro x y hx hy;unfold I2;simp only[AO];rw[W6 (k:=K) (by omega) hy hx,obs]
  try simp only[AO]
  have h1:Sz (4*K+2) (y-x):=(KU hy hx).mono (by omega);rw[W2 (k:=4*K+2) (by omega) ht h1,obs]
  try simp only[AO]
  rw[S6 (k:=6*K+3) (by omega) (hx.mono (by omega)) ((KJ ht (KU hy hx)).mono (by omega)),obs]
 unfold MM;simp only[AO,AI,Q5,Rf,Jk,Jo];rw[key _ _ ha.1 hc.1,obs,key _ _ ha.2 hc.2,obs];rfl
theorem A6O:SzP (7*K+4) (C5 a c t):=by
 have key:∀x y:Rat,Sz K x->Sz K y->Sz (7*K+4) (x+t*(y-x)):=fun x y hx hy=>(Ph hx (KJ ht (KU hy hx))).mono (by omega)
 exact⟨key _ _ ha.1 hc.1,key _ _ ha.2 hc.2⟩
end
section
variable {K:Nat} (hK:K<=2972) {a c:Q2} {s:Rat} {b:Bool} (ha:SzP K a) (hc:SzP K c) (hs:Sz K s) (hne:crd b c≠crd b a)
include hK ha hc hs hne
theorem A4N:Sz (4*K+2) ((s-crd b a)/(crd b c-crd b a)):=
 (Aw4 (KU hs (Fj ha b)) (KU (Fj hc b) (Fj ha b)) (fun e=>hne (by grind))).mono (by omega)
theorem A6e:SzP (7*K+4) (K3 b s a c):=A6O hK ha hc (A4N hK ha hc hs hne)
theorem A44:GK (rqF (s-crd b a)) (rqF (crd b c-crd b a))=some (rqF ((s-crd b a)/(crd b c-crd b a))):=
 UV (k:=2*K+1) (by omega) ((KU hs (Fj ha b)).mono (by omega)) ((KU (Fj hc b) (Fj ha b)).mono (by omega)) (fun e=>hne (by grind))
theorem A20:MR (fl (rp a)) (fl (rp c)) b (rqF s)=some (fl (rp (K3 b s a c))):=by
 have hon:=Ap2 (s:=s) hne;unfold MR;simp only[AO,AI];rw[Ax1,obs]
 try simp only[AO]
 rw[W6 (k:=K) (by omega) hs (Fj ha b),obs,Ax1,obs]
 try simp only[AO]
 rw[W6 (k:=K) (by omega) (Fj hc b) (Fj ha b),obs]
 try simp only[AO]
 rw[A0S (k:=2*K+1) (by omega) ((KU hs (Fj ha b)).mono (by omega)) ((KU (Fj hc b) (Fj ha b)).mono (by omega)) (fun e=>hne (by grind)),obs]
 try simp only[AO]
 rw[A75 hK ha hc (A4N hK ha hc hs hne),obs,show C5 a c ((s-crd b a)/(crd b c-crd b a))=K3 b s a c from rfl];generalize K3 b s a c=m at hon;cases b with
 |true=>
  rw[cT];have:m.2=s:=hon;rw[<-this];rfl
 |false=>
  rw[cF];have:m.1=s:=hon;rw[<-this];rfl
end
theorem A0A{K:Nat}(hK:K<=2972){p:Q2}{s:Rat}(hp:SzP K p)(hs:Sz K s)(b high:Bool):∃v,I7 (fl (rp p)) b (rqF s) high=some v/\decide (v<=0)=ins b high s p:=by
 have hc:=Fj hp b;unfold I7;simp only[AO,AI];rw[Ax1,obs]
 try simp only[AO]
 rw[Nl (k:=K) (by omega) hc hs,obs];have h1:= @A0o (crd b p) s;have h2:= @Ll (crd b p) s;have hb: -1<=Tq (crd b p) s/\Tq (crd b p) s<=1:=by unfold Tq;split<;>(try split)<;>omega
 cases high with
 |true=>
  refine⟨_,rfl,?_⟩
  rw[Ab (by omega) (by omega),AV5];refine decide_eq_decide.2 ?_
  rw[<-Rat.not_lt,<-h1];omega
 |false=>
  refine⟨_,rfl,?_⟩
  rw[Zf];refine decide_eq_decide.2 ?_
  rw[<-Rat.not_lt,<-h2];omega
section
variable {K:Nat} (hK:K<=2972) {ps:List Q2} {s:Rat} (hps:SzN K ps) (hs:Sz K s) (b high:Bool)
include hK hps hs
theorem At7:∀(m k:Nat)(a:Q2)(out:List Q2),k+m=ps.length->(k<ps.length->ps[(k+ps.length-1)%ps.length]? =some a)->out.length<=2*k->
  Ad (fun(s:(Bool×(RF×(Bool×((List (RQ×RQ))×((List (RQ×RQ))×((List (RQ×RQ))×(Int×Int))))))))=>FO s.1 s.2.1 s.2.2.1 s.2.2.2.1 s.2.2.2.2.1 s.2.2.2.2.2.1 s.2.2.2.2.2.2.1 s.2.2.2.2.2.2.2)
   (b,(rqF s,(high,(out.map rp,(ps.map rp,(ps.map rp,((ps.length:Int),(k:Int))))))))=some ((out++Bd b high s a (ps.drop k)).map rp):=by
 intro m
 induction m with
 |zero=>
  intro k a out hk _ _;refine Ak ?_
  show FO b (rqF s) high (out.map rp) (ps.map rp) (ps.map rp) (ps.length:Int) (k:Int)=_;unfold FO;rw[zq (by omega),zd7 (by omega),Bd,ze2];rfl
 |succ m ih=>
  intro k a out hk ha hout;have h40:=hps.1;have hlt:k<ps.length:=by omega
  have ha:=ha hlt;have hd:ps.drop k=ps[k]::ps.drop (k+1):=zb1 hlt;have hg:ps[k]? =some ps[k]:=za1 hlt;generalize ps[k]=c at hd hg;have sa:=hps.2 a (za3 ha);have sc:=hps.2 c (za3 hg);have hgo:FO b (rqF s) high (out.map rp) (ps.map rp) (ps.map rp) (ps.length:Int) (k:Int)=some (.inl (b,(rqF s,(high,((out++I6 b high s a c).map rp,(ps.map rp,(ps.map rp,((ps.length:Int),((k+1:Nat):Int))))))))):=by
   unfold FO;have hz:(((ps.length:Nat):Int)==0)=false:=beq_eq_false_iff_ne.2 (by omega);rw[zp (by omega),cT,IE hg,obs,zd0,hz,cF,A1f hlt (by omega),IE ha,obs];simp only[AO,AI,A1G];rw[PO hK sa hs,obs];simp only;rw[PO hK sc hs,obs];simp only;unfold I6;have ol:(out.map rp).length<=100000:=by rw[zd0];omega
   by_cases hne:ins b high s a=ins b high s c
   ·rw[show(ins b high s a==ins b high s c)=true from beq_iff_eq.2 hne,nT,cF,obs,sEr,zr hne];simp only[AO,AI];rw[PO hK sc hs,obs];simp only;cases hi:ins b high s c with
    |true=>
     rw[cT,AT3,Yq,Aa4 ol,obs,AA (by omega)];simp
    |false=>
     rw[cF,AA (by omega)];simp
   ·have hcut:=LL hne;rw[show(ins b high s a==ins b high s c)=false from beq_eq_false_iff_ne.2 hne,nF,cT,WW,obs]
    try simp only[AO]
    rw[Ql (k:=K) (by omega) hs (Fj sa b),obs,WW,obs,obs]
    try simp only[AO]
    rw[Ql (k:=K) (by omega) (Fj sc b) (Fj sa b),obs]
    try simp only[AO]
    rw[A44 hK sa sc hs hcut,obs]
    try simp only[AO]
    rw[A8s hK sa sc (A4N hK sa sc hs hcut),obs,show C5 a c ((s-crd b a)/(crd b c-crd b a))=K3 b s a c from rfl,AT3,Yq,Aa4 ol,obs,obs,sEr,zw hne];simp only[AO,AI];rw[PO hK sc hs,obs];simp only;cases hi:ins b high s c with
    |true=>
     rw[cT,AT3,Yq,Aa4 (by simp;omega),obs,AA (by omega)];simp
    |false=>
     rw[cF,AA (by omega)];simp
  refine(AP (f:=fun(s:(Bool×(RF×(Bool×((List (RQ×RQ))×((List (RQ×RQ))×((List (RQ×RQ))×(Int×Int))))))))=>FO s.1 s.2.1 s.2.2.1 s.2.2.2.1 s.2.2.2.2.1 s.2.2.2.2.2.1 s.2.2.2.2.2.2.1 s.2.2.2.2.2.2.2)
   (s:=(b,(rqF s,(high,(out.map rp,(ps.map rp,(ps.map rp,((ps.length:Int),(k:Int))))))))) hgo).trans ?_
  have hst:=Zk b high s a c;rw[ih (k+1) c (out++I6 b high s a c) (by omega) (fun h=>by rw[Ag4 hlt];exact hg) (by rw[zc3];omega),hd,Bd,List.append_assoc]
theorem Ar9:∀(m k:Nat)(a:Q2)(out:List Q2),k+m=ps.length->(k<ps.length->ps[(k+ps.length-1)%ps.length]? =some a)->out.length<=2*k->
  Ad (fun(s:(RF×((List (RQ×RQ))×((List (RQ×RQ))×(Bool×(Bool×((List (RQ×RQ))×(Int×Int))))))))=>C9 s.1 s.2.1 s.2.2.1 s.2.2.2.1 s.2.2.2.2.1 s.2.2.2.2.2.1 s.2.2.2.2.2.2.1 s.2.2.2.2.2.2.2)
   (rqF s,(out.map rp,(ps.map rp,(b,(high,(ps.map rp,((ps.length:Int),(k:Int))))))))=some ((out++Bd b high s a (ps.drop k)).map rp):=by
 intro m
 induction m with
 |zero=>
  intro k a out hk _ _;refine Ak ?_
  show C9 (rqF s) (out.map rp) (ps.map rp) b high (ps.map rp) (ps.length:Int) (k:Int)=_;unfold C9;rw[zq (by omega),zd7 (by omega),Bd,ze2];rfl
 |succ m ih=>
  intro k a out hk ha hout;have h40:=hps.1;have hlt:k<ps.length:=by omega
  have ha:=ha hlt;have hd:ps.drop k=ps[k]::ps.drop (k+1):=zb1 hlt;have hg:ps[k]? =some ps[k]:=za1 hlt;generalize ps[k]=c at hd hg;have sa:=hps.2 a (za3 ha);have sc:=hps.2 c (za3 hg);have hgo:C9 (rqF s) (out.map rp) (ps.map rp) b high (ps.map rp) (ps.length:Int) (k:Int)=some (.inl (rqF s,((out++I6 b high s a c).map rp,(ps.map rp,(b,(high,(ps.map rp,((ps.length:Int),((k+1:Nat):Int))))))))):=by
   unfold C9;have hz:(((ps.length:Nat):Int)==0)=false:=beq_eq_false_iff_ne.2 (by omega);obtain⟨v,v1,v2⟩:=A0A hK sa hs b high;obtain⟨w,w1,w2⟩:=A0A hK sc hs b high;rw[zp (by omega),cT,IE hg,obs,zd0,hz,cF,A1f hlt (by omega),IE ha,obs];simp only[AO,AI,A1G];rw[v1,obs,w1,obs,v2,w2];unfold I6;have ol:(out.map rp).length<=100000:=by rw[zd0];omega
   by_cases hne:ins b high s a=ins b high s c
   ·rw[show(ins b high s a==ins b high s c)=true from beq_iff_eq.2 hne,nT,cF,zr hne];cases hi:ins b high s c with
    |true=>
     rw[cT,Aa4 ol,obs,AA (by omega)];simp
    |false=>
     rw[cF,AA (by omega)];simp
   ·have hcut:=LL hne;rw[show(ins b high s a==ins b high s c)=false from beq_eq_false_iff_ne.2 hne,nF,cT,A20 hK sa sc hs hcut,obs,AT3,Yq,Aa4 ol,obs,zw hne];cases hi:ins b high s c with
    |true=>
     rw[cT,Aa4 (by simp;omega),obs,AA (by omega)];simp
    |false=>
     rw[cF,AA (by omega)];simp
  refine(AP (f:=fun(s:(RF×((List (RQ×RQ))×((List (RQ×RQ))×(Bool×(Bool×((List (RQ×RQ))×(Int×Int))))))))=>C9 s.1 s.2.1 s.2.2.1 s.2.2.2.1 s.2.2.2.2.1 s.2.2.2.2.2.1 s.2.2.2.2.2.2.1 s.2.2.2.2.2.2.2)
   (s:=(rqF s,(out.map rp,(ps.map rp,(b,(high,(ps.map rp,((ps.length:Int),(k:Int))))))))) hgo).trans ?_
  have hst:=Zk b high s a c;rw[ih (k+1) c (out++I6 b high s a c) (by omega) (fun h=>by rw[Ag4 hlt];exact hg) (by rw[zc3];omega),hd,Bd,List.append_assoc]
theorem AG3(h:0<ps.length):ps[(0+ps.length-1)%ps.length]? =some (EN ps):=by
 rw[zf0,Nat.mod_eq_of_lt (by omega),<-List.getLast?_eq_getElem?];unfold EN;cases hl:ps.getLast? with
 |none=>rw[List.getLast?_eq_none_iff.1 hl]at h;simp at h
 |some x=>rfl
theorem WQ:K0 (ps.map rp) b high (rqF s)=some ((Bi b high s ps).map rp):=by
 have h:=At7 hK hps hs b high ps.length 0 (EN ps) [] (by omega) (fun h=>AG3 hK hps hs h) (by simp);rw[zf5,List.nil_append]at h;have h':Ad (fun(s:(Bool×(RF×(Bool×((List (RQ×RQ))×((List (RQ×RQ))×((List (RQ×RQ))×(Int×Int))))))))=>FO s.1 s.2.1 s.2.2.1 s.2.2.2.1 s.2.2.2.2.1 s.2.2.2.2.2.1 s.2.2.2.2.2.2.1 s.2.2.2.2.2.2.2)
   (b,(rqF s,(high,((List.nil:List RPt),(ps.map rp,(ps.map rp,((ps.length:Int),(0:Int))))))))=_:=h
 unfold K0;simp only[AO,AI];rw[zd0,h',obs];rfl
theorem NK:Fu (ps.map rp) b (rqF s) high=some ((Bi b high s ps).map rp):=by
 have h:=Ar9 hK hps hs b high ps.length 0 (EN ps) [] (by omega) (fun h=>AG3 hK hps hs h) (by simp);rw[zf5,List.nil_append]at h;have h':Ad (fun(s:(RF×((List (RQ×RQ))×((List (RQ×RQ))×(Bool×(Bool×((List (RQ×RQ))×(Int×Int))))))))=>C9 s.1 s.2.1 s.2.2.1 s.2.2.2.1 s.2.2.2.2.1 s.2.2.2.2.2.1 s.2.2.2.2.2.2.1 s.2.2.2.2.2.2.2)
   (rqF s,((List.nil:List RPt),(ps.map rp,(b,(high,(ps.map rp,((ps.length:Int),(0:Int))))))))=_:=h
 unfold Fu;simp only[AO,AI];rw[zd0,h',obs];rfl
theorem Sm:(Bi b high s ps).length<=2*ps.length/\∀p∈Bi b high s ps,SzP (7*K+4) p:=by
 have h40:=hps.1;have h2:=hps.2;have key:∀(l:List Q2)(a:Q2),SzP K a->(∀p∈l,SzP K p)->(Bd b high s a l).length<=2*l.length/\∀p∈Bd b high s a l,SzP (7*K+4) p:=by
  intro l
  induction l with
  |nil=>intro a _ _;exact⟨by simp[Bd],fun p hp=>by simp[Bd]at hp⟩
  |cons c l ih=>
   intro a ha hl;have hc:=hl c (by simp);obtain⟨i1,i2⟩:=ih c hc (fun p hp=>hl p (ze6 _ hp));have hst:=Zk b high s a c;rw[Bd];refine⟨by rw[zc3,zb8];omega,fun p hp=> ?_⟩
   rcases zb2.1 hp with hp|hp
   ·unfold I6 at hp;rcases zb2.1 hp with hp|hp
    ·by_cases e:ins b high s a=ins b high s c
     ·rw[zr e]at hp;cases hp
     ·rw[zw e]at hp;rw[zd1.1 hp];exact A6e hK ha hc hs (LL e)
    ·by_cases e:ins b high s c=true
     ·rw[zr e]at hp;rw[zd1.1 hp];exact hc.mono (by omega)
     ·rw[zw e]at hp;cases hp
   ·exact i2 p hp
 by_cases hn:ps=[]
 ·unfold Bi;rw[hn];exact⟨by simp[Bd],fun p hp=>by simp[Bd]at hp⟩
 ·obtain⟨k1,k2⟩:=key ps (EN ps) (h2 _ (Un hn)) h2;exact⟨k1,k2⟩
end
end
section
open Go
theorem Ay6(p:Q2):((fl (rp p)).1,((fl (rp p)).2.1,((fl (rp p)).2.2.1,((fl (rp p)).2.2.2.1,rqF p.2))))=fl (rp p):=(rfl)
section
variable {ps:List Q2} {lo hi:Q2} (hps:SzR ps) (hlo:SzP 2 lo) (hhi:SzP 2 hi)
include hps hlo hhi
theorem Qw:SzN 8 ps/\SzN 60 (Bi false true lo.1 ps)/\SzN 424 (Bi false false hi.1 (Bi false true lo.1 ps))/\SzN 2972 (Bi true true lo.2 (Bi false false hi.1 (Bi false true lo.1 ps)))/\
  ((Ik lo hi ps).length<=640/\∀p∈Ik lo hi ps,SzP 20808 p):=by
 have h40:=hps.1;have s0:SzN 8 ps:=⟨by omega,hps.2⟩;obtain⟨l1,z1⟩:=Sm (K:=8) (by omega) s0 (hlo.1.mono (by omega)) false true;have s1:SzN 60 (Bi false true lo.1 ps):=⟨by omega,fun p hp=>(z1 p hp).mono (by omega)⟩;obtain⟨l2,z2⟩:=Sm (K:=60) (by omega) s1 (hhi.1.mono (by omega)) false false;have s2:SzN 424 (Bi false false hi.1 (Bi false true lo.1 ps)):=⟨by omega,fun p hp=>(z2 p hp).mono (by omega)⟩;obtain⟨l3,z3⟩:=Sm (K:=424) (by omega) s2 (hlo.2.mono (by omega)) true true
 have s3:SzN 2972 (Bi true true lo.2 (Bi false false hi.1 (Bi false true lo.1 ps))):=⟨by omega,fun p hp=>(z3 p hp).mono (by omega)⟩;obtain⟨l4,z4⟩:=Sm (K:=2972) (by omega) s3 (hhi.2.mono (by omega)) true false;refine⟨s0,s1,s2,s3,?_,fun p hp=>(z4 p hp).mono (by omega)⟩
 unfold Ik;omega
theorem A12:Lg (ps.map rp) (fl (rp lo)) (fl (rp hi))=some ((Ik lo hi ps).map rp):=by
 obtain⟨s0,s1,s2,s3,_⟩:=Qw hps hlo hhi;unfold Lg;simp only[AO,AI,Q5,Rf,Jk,Jo,Ay6];rw[WQ (K:=8) (by omega) s0 (hlo.1.mono (by omega)),obs,WQ (K:=60) (by omega) s1 (hhi.1.mono (by omega)),obs,WQ (K:=424) (by omega) s2 (hlo.2.mono (by omega)),obs,WQ (K:=2972) (by omega) s3 (hhi.2.mono (by omega)),obs];rfl
theorem A3m:NM (ps.map rp) (fl (rp lo)) (fl (rp hi))=some ((Ik lo hi ps).map rp):=by
 obtain⟨s0,s1,s2,s3,_⟩:=Qw hps hlo hhi;unfold NM;simp only[AO,AI,Q5,Rf,Jk,Jo,Ay6];rw[NK (K:=8) (by omega) s0 (hlo.1.mono (by omega)),obs,NK (K:=60) (by omega) s1 (hhi.1.mono (by omega)),obs,NK (K:=424) (by omega) s2 (hlo.2.mono (by omega)),obs,NK (K:=2972) (by omega) s3 (hhi.2.mono (by omega)),obs];rfl
end
def Sc(x:RPt):Bool:=(Cq x.1&&Cq x.2)&&(shQ 2 (fx x)&&shQ 2 (fy x))
theorem JX{x:RPt}:Sc x=true↔∃p,SzP 2 p/\x=rp p:=by
 constructor
 ·intro h;unfold Sc at h;simp only[za2]at h;obtain⟨⟨h1,h2⟩,h3,h4⟩:=h;obtain⟨a,ha,e1⟩:=Mf.1 h1;obtain⟨c,hc,e2⟩:=Mf.1 h2;have exy:x=(rq a,rq c):=by rw[<-e1,<-e2]
  have ex:fx x=rqF a:=by rw[exy];rfl
  have ey:fy x=rqF c:=by rw[exy];rfl
  rw[ex,VU (by omega)]at h3;rw[ey,VU (by omega)]at h4;exact⟨(a,c),⟨of_decide_eq_true h3,of_decide_eq_true h4⟩,by unfold rp;rw[<-e1,<-e2]⟩
 ·rintro⟨p,hp,rfl⟩;unfold Sc;rw[Jk,Jo,VU (by omega),VU (by omega),zp hp.1,zp hp.2,Bool.and_true,Bool.and_true,za2];exact⟨Oz (hp.1.mono (by omega)),Oz (hp.2.mono (by omega))⟩
theorem HC{x:RPt}(h:BrP x):GV (fl x) 2=some (Sc x):=by
 have hl:FE [x.1,x.2]=some (Cq x.1&&Cq x.2):=by
  rw[Ur (by simp) (by
   intro a ha;simp at ha;rcases ha with rfl|rfl
   ·exact h.1
   ·exact h.2)]
  simp
 have e:((((fl x).1,(fl x).2.1),((fl x).2.2.1,(fl x).2.2.2.1)):RQ)=x.1:=rfl;have e':((((fl x).2.2.2.2.1,(fl x).2.2.2.2.2.1),(fl x).2.2.2.2.2.2):RQ)=x.2:=rfl;unfold GV Sc;simp only[AI];rw[e,e',hl,obs];have s1:=M0 (fx x) 2;have s2:=M0 (fy x) 2;rw[show((2:Nat):Int)=2 from rfl]at s1 s2;cases hg:Cq x.1&&Cq x.2 with
 |false=>rfl
 |true=>
  rw[cT]
  try simp only[Q5,Rf]
  rw[s1,obs,ze5];cases shQ 2 (fx x)with
  |false=>rfl
  |true=>rw[cT,s2,obs,ze5]
theorem Jy{x:RPt}(h:BrP x):Ml (fl x)=some (Sc x):=by
 unfold Ml Sc;simp only[AI,Q5,Rf];rw[Y2 h.1,obs,AS4];cases h1:Cq x.1 with
 |false=>rw[Bool.false_and,cF,Bool.false_and,Bool.false_and]
 |true=>
  cases h2:shQ 2 (fx x)with
  |false=>rw[Bool.and_false,cF,Bool.false_and,Bool.and_false]
  |true=>rw[Bool.and_true,cT,Y2 h.2,obs,AU1,ze5,ze5]
section
variable {ps:List Q2} {lo hi:Q2} (hps:SzR ps) (hlo:SzP 2 lo) (hhi:SzP 2 hi) (hx:lo.1<=hi.1) (hy:lo.2<=hi.2)
include hps hlo hhi hx hy
theorem A1C:Cn (ps.map rp) (fl (rp lo)) (fl (rp hi))=some (WA (Ik lo hi ps)):=by
 have hp:=hps.1;obtain⟨_,_,_,_,c1,c2⟩:=Qw hps hlo hhi;unfold Cn;simp only[AO,AI,Q5,Rf,Jk,Jo,Ay6];rw[C0 (by simp;omega) (OX (k:=8) (by omega) hps.2),obs,GT.2 hps,nT,cF,HC (Zo (k:=2) (by omega) hlo),obs,JX.2 ⟨lo,hlo,rfl⟩,nT,cF,HC (Zo (k:=2) (by omega) hhi),obs,JX.2 ⟨hi,hhi,rfl⟩,nT,cF,
  FM (k:=2) (by omega) hhi.1 hlo.1,obs,zq (Rat.not_lt.2 hx),cF,FM (k:=2) (by omega) hhi.2 hlo.2,obs,zq (Rat.not_lt.2 hy),cF,A12 hps hlo hhi,obs,Z3 (k:=20808) (by omega) (by omega) c2,obs]
theorem A1J:Co (ps.map rp) (fl (rp lo)) (fl (rp hi))=some (WA (Ik lo hi ps)):=by
 have hp:=hps.1;obtain⟨_,_,_,_,c1,c2⟩:=Qw hps hlo hhi;have nx:¬Tq lo.1 hi.1>0:=fun h=>Rat.not_lt.2 hx (Ll.1 h)
 have ny:¬Tq lo.2 hi.2>0:=fun h=>Rat.not_lt.2 hy (Ll.1 h)
 unfold Co;simp only[AO,AI,Q5,Rf,Jk,Jo,Ay6];rw[Gv (by simp;omega) (OX (k:=8) (by omega) hps.2),obs,GT.2 hps,nT,cF,Jy (Zo (k:=2) (by omega) hlo),obs,JX.2 ⟨lo,hlo,rfl⟩,nT,cF,Jy (Zo (k:=2) (by omega) hhi),obs,JX.2 ⟨hi,hhi,rfl⟩,nT,cF,
  Nl (k:=2) (by omega) hlo.1 hhi.1,obs,zq nx,cF,Nl (k:=2) (by omega) hlo.2 hhi.2,obs,zq ny,cF,A3m hps hlo hhi,obs,A10 (k:=20808) (by omega) (by omega) c2,obs]
end
theorem A34{m:List Q2}(h:(WA m).2=true):SzR m/\WA m=(m.map rp,true):=by
 unfold WA at h⊢
 by_cases hg:G8 (m.map rp)=true
 ·rw[zr hg];exact⟨GT.1 hg,rfl⟩
 ·rw[zw hg]at h;cases h
theorem A1H{m:List Q2}(h:(WA m).2=false):(WA m).1=[]:=by
 unfold WA at h⊢
 by_cases hg:G8 (m.map rp)=true
 ·rw[zr hg]at h;cases h
 ·rw[zw hg]
theorem AQ9{l:List RPt}{a c:RPt}(hl:l.length<=1000)(hb:∀x∈l,BrP x)(ha:BrP a)(hc:BrP c):∃f,Cn l (fl a) (fl c)=some f/\Co l (fl a) (fl c)=some f/\(f.2=false->f.1=[])/\
  (f.2=true->∃ps lo hi,SzR ps/\SzP 2 lo/\SzP 2 hi/\lo.1<=hi.1/\lo.2<=hi.2/\l=ps.map rp/\a=rp lo/\c=rp hi/\SzR (Ik lo hi ps)/\f=((Ik lo hi ps).map rp,true)):=by
 have bad:Cn l (fl a) (fl c)=some ([],false)->Co l (fl a) (fl c)=some ([],false)->∃f,Cn l (fl a) (fl c)=some f/\Co l (fl a) (fl c)=some f/\(f.2=false->f.1=[])/\
  (f.2=true->∃ps lo hi,SzR ps/\SzP 2 lo/\SzP 2 hi/\lo.1<=hi.1/\lo.2<=hi.2/\l=ps.map rp/\a=rp lo/\c=rp hi/\SzR (Ik lo hi ps)/\f=((Ik lo hi ps).map rp,true)):=
  fun h1 h2=>⟨_,h1,h2,fun _=>rfl,fun h=>by cases h⟩
 cases hg:G8 l with
 |false=>
  refine bad ?_ ?_
  ·unfold Cn;rw[C0 (by omega) hb,obs,hg,nF,cT]
  ·unfold Co;rw[Gv (by omega) hb,obs,hg,nF,cT]
 |true=>
  cases g1:Sc a with
  |false=>
   refine bad ?_ ?_
   ·unfold Cn;simp only[AO,AI];rw[C0 (by omega) hb,obs,hg,nT,cF,HC ha,obs,g1,nF,cT]
   ·unfold Co;simp only[AO,AI];rw[Gv (by omega) hb,obs,hg,nT,cF,Jy ha,obs,g1,nF,cT]
  |true=>
   cases g2:Sc c with
   |false=>
    refine bad ?_ ?_
    ·unfold Cn;simp only[AO,AI];rw[C0 (by omega) hb,obs,hg,nT,cF,HC ha,obs,g1,nT,cF,HC hc,obs,g2,nF,cT]
    ·unfold Co;simp only[AO,AI];rw[Gv (by omega) hb,obs,hg,nT,cF,Jy ha,obs,g1,nT,cF,Jy hc,obs,g2,nF,cT]
   |true=>
    obtain⟨ps,hps,el⟩:=A18.1 hg;obtain⟨lo,hlo,ea⟩:=JX.1 g1;obtain⟨hi,hhi,ec⟩:=JX.1 g2;by_cases hx:lo.1<=hi.1
    ·by_cases hy:lo.2<=hi.2
     ·have q1:=A1C hps hlo hhi hx hy;have q2:=A1J hps hlo hhi hx hy;rw[<-el,<-ea,<-ec]at q1 q2;refine⟨_,q1,q2,A1H,fun h=> ?_⟩
      obtain⟨o1,o2⟩:=A34 h;exact⟨ps,lo,hi,hps,hlo,hhi,hx,hy,el,ea,ec,o1,o2⟩
     ·have hy':=Rat.not_le.1 hy;refine bad ?_ ?_
      ·unfold Cn;simp only[AO,AI];rw[C0 (by omega) hb,obs,hg,nT,cF,HC ha,obs,g1,nT,cF,HC hc,obs,g2,nT,cF,ea,ec];simp only[AO,AI,Q5,Rf,Jk,Jo,Ay6];rw[FM (k:=2) (by omega) hhi.1 hlo.1,obs,zq (Rat.not_lt.2 hx),cF,FM (k:=2) (by omega) hhi.2 hlo.2,obs,zp hy',cT]
      ·unfold Co;simp only[AO,AI];rw[Gv (by omega) hb,obs,hg,nT,cF,Jy ha,obs,g1,nT,cF,Jy hc,obs,g2,nT,cF,ea,ec];simp only[AO,AI,Q5,Rf,Jk,Jo,Ay6];have nx:¬Tq lo.1 hi.1>0:=fun h=>Rat.not_lt.2 hx (Ll.1 h)
       rw[Nl (k:=2) (by omega) hlo.1 hhi.1,obs,zq nx,cF,Nl (k:=2) (by omega) hlo.2 hhi.2,obs,zp (Ll.2 hy'),cT]
    ·have hx':=Rat.not_le.1 hx;refine bad ?_ ?_
     ·unfold Cn;simp only[AO,AI];rw[C0 (by omega) hb,obs,hg,nT,cF,HC ha,obs,g1,nT,cF,HC hc,obs,g2,nT,cF,ea,ec];simp only[AO,AI,Q5,Rf,Jk,Jo,Ay6];rw[FM (k:=2) (by omega) hhi.1 hlo.1,obs,zp hx',cT]
     ·unfold Co;simp only[AO,AI];rw[Gv (by omega) hb,obs,hg,nT,cF,Jy ha,obs,g1,nT,cF,Jy hc,obs,g2,nT,cF,ea,ec];simp only[AO,AI,Q5,Rf,Jk,Jo,Ay6];rw[Nl (k:=2) (by omega) hlo.1 hhi.1,obs,zp (Ll.2 hx'),cT]
end
section
open Go
def ptQ(p:Int×Int):Q2:=((p.1:Rat),(p.2:Rat))
theorem Te{n:Int}(h1: -100000<=n)(h2:n<=100000):Sz 2 (n:Rat):=Aq2 (by have:B 2=4294967296:=rfl;omega) (by omega)
def SmP(p:Int×Int):Prop:=(-100000<=p.1/\p.1<=100000)/\(-100000<=p.2/\p.2<=100000)
theorem A8P{p:Int×Int}(h:SmP p):SzP 2 (ptQ p):=⟨Te h.1.1 h.1.2,Te h.2.1 h.2.2⟩
theorem GP.sm{p:Int×Int}(h:GP p):SmP p:=by
 obtain⟨a,b,c,d⟩:=h;unfold SmP;omega
theorem Yt{p:Int×Int}(h:SmP p):J0 p=some (fl (rp (ptQ p))):=by
 obtain⟨⟨h1,h2⟩,h3,h4⟩:=h;unfold J0
 try simp only
 rw[Qm (by omega) (by omega),obs,Qm (by omega) (by omega),obs];rfl
theorem AI5{w:List (Int×Int)}(hl:w.length<=1000)(h:∀p∈w,SmP p):J7 w=some ((w.map ptQ).map rp):=by
 have key:∀(m k:Nat)(l:List RPt),k+m=w.length->l.length=k->Ad (fun(s:((List RPt)×((List (Int×Int))×(Int×Int))))=>DR s.1 s.2.1 s.2.2.1 s.2.2.2) (l,(w,((w.length:Int),(k:Int))))=some (l++((w.drop k).map ptQ).map rp):=by
  intro m
  induction m with
  |zero=>
   intro k l hk hlk;refine Ak ?_
   show DR l w (w.length:Int) (k:Int)=_;unfold DR;rw[zq (by omega),zd7 (by omega)];simp[cF]
  |succ m ih=>
   intro k l hk hlk;have hlt:k<w.length:=by omega
   have hg:w[k]? =some w[k]:=za1 hlt;have hd:w.drop k=w[k]::w.drop (k+1):=zb1 hlt;have gp:=h _ (za3 hg);generalize w[k]=p at hg hd gp;obtain⟨⟨g1,g2⟩,g3,g4⟩:=gp;have hb:DR l w (w.length:Int) (k:Int)=some (.inl (l++[rp (ptQ p)],(w,((w.length:Int),((k+1:Nat):Int))))):=by
    unfold DR;rw[zp (by omega),cT,Af,hg,obs]
    try simp only
    rw[IJ (by omega) (by omega),obs,IJ (by omega) (by omega),obs];simp only[AI];have e:(((((rqF (p.1:Rat)).1,(rqF (p.1:Rat)).2.1),(rqF (p.1:Rat)).2.2),(((rqF (p.2:Rat)).1,(rqF (p.2:Rat)).2.1),(rqF (p.2:Rat)).2.2)):RPt)=rp (ptQ p):=rfl;rw[e,Aa4 (by omega),obs,AA (by omega)]
   refine(AP (f:=fun(s:((List RPt)×((List (Int×Int))×(Int×Int))))=>DR s.1 s.2.1 s.2.2.1 s.2.2.2) (s:=(l,(w,((w.length:Int),(k:Int))))) hb).trans ?_
   rw[ih (k+1) _ (by omega) (by simp;omega),hd];simp
 have k0:=key w.length 0 [] (by omega) rfl;have k0':Ad (fun(s:((List RPt)×((List (Int×Int))×(Int×Int))))=>DR s.1 s.2.1 s.2.2.1 s.2.2.2) ((List.nil:List RPt),(w,((w.length:Int),(0:Int))))=_:=k0;unfold J7;rw[k0',obs];rfl
theorem Aa6{w:List (Int×Int)}(hl:w.length<=1000)(h:∀p∈w,SmP p):Ad (fun(s:((List RPt)×((List (Int×Int))×(Int×Int))))=>DJ s.1 s.2.1 s.2.2.1 s.2.2.2) ((List.nil:List RPt),(w,((w.length:Int),(0:Int))))=some ((w.map ptQ).map rp):=by
 have key:∀(m k:Nat)(l:List RPt),k+m=w.length->l.length=k->Ad (fun(s:((List RPt)×((List (Int×Int))×(Int×Int))))=>DJ s.1 s.2.1 s.2.2.1 s.2.2.2) (l,(w,((w.length:Int),(k:Int))))=some (l++((w.drop k).map ptQ).map rp):=by
  intro m
  induction m with
  |zero=>
   intro k l hk hlk;refine Ak ?_
   show DJ l w (w.length:Int) (k:Int)=_;unfold DJ;rw[zq (by omega),zd7 (by omega)];simp[cF]
  |succ m ih=>
   intro k l hk hlk;have hlt:k<w.length:=by omega
   have hg:w[k]? =some w[k]:=za1 hlt;have hd:w.drop k=w[k]::w.drop (k+1):=zb1 hlt;have gp:=h _ (za3 hg);generalize w[k]=p at hg hd gp;have hb:DJ l w (w.length:Int) (k:Int)=some (.inl (l++[rp (ptQ p)],(w,((w.length:Int),((k+1:Nat):Int))))):=by
    unfold DJ;rw[zp (by omega),cT,Af,hg,obs];simp only[AI];rw[Yt gp,obs,AT3,Yq,Aa4 (by omega),obs,AA (by omega)]
   refine(AP (f:=fun(s:((List RPt)×((List (Int×Int))×(Int×Int))))=>DJ s.1 s.2.1 s.2.2.1 s.2.2.2) (s:=(l,(w,((w.length:Int),(k:Int))))) hb).trans ?_
   rw[ih (k+1) _ (by omega) (by simp;omega),hd];simp
 exact key w.length 0 [] (by omega) rfl
theorem Aw0{w:List (Int×Int)}(h:FD w=true):∀p∈w,SmP p:=by
 intro p hp;have:=(F0.1 h).2 p hp;rw[RG]at this;unfold SmP;omega
theorem As6{w:List (Int×Int)}(h:FD w=true):SzR (w.map ptQ):=by
 have h12:=(F0.1 h).1.2;refine⟨by rw[zd0];omega,fun p hp=> ?_⟩
 obtain⟨q,hq,rfl⟩:=zd2.1 hp;exact(A8P (Aw0 h q hq)).mono (by omega)
theorem AB8:∀(l:List (Int×Int))(a:Int×Int),chn crs (ptQ a) (l.map ptQ)=((Aw2 (fun p q:Int×Int=>p.1*q.2-q.1*p.2) (a::l):Int):Rat)
 |[],a=>by simp[chn,Aw2]
 |c::l,a=>by
  rw[zb9,chn,AB8 l c];simp only[Aw2];unfold crs ptQ;rw[Rat.intCast_add,Rat.intCast_sub,Rat.intCast_mul,Rat.intCast_mul]
theorem AE5(w:List (Int×Int)):Fc (w.map ptQ)=((Mp w:Int):Rat):=by
 rw[<-Rv];cases w with
 |nil=>rfl
 |cons a t=>
  have h:=A1V (fun p q:Int×Int=>p.1*q.2-q.1*p.2) a t;have e:Mp (a::t)=Aw2 (fun p q:Int×Int=>p.1*q.2-q.1*p.2) (a::t++[a]):=h;rw[e];have:=AB8 (t++[a]) a;rw[List.map_append]at this;exact this
end
section
open Go
theorem AT1(lo hi:Q2)(mid:Rat)(h1:lo.2<=mid)(h2:mid<=hi.2)(l:List Q2):Fc (Ik lo (hi.1,mid) l)+Fc (Ik (lo.1,mid) hi l)=Fc (Ik lo hi l):=by
 unfold Ik;simp only;generalize Bi false false hi.1 (Bi false true lo.1 l)=m;have hU:Val (BV crs true false hi.2):=JS M3;have s1:=X7 hU true mid (Bi true true lo.2 m);rw[Ak0 hU h1]at s1;have s2:Ns (BV crs true false hi.2) (Bi true false mid (Bi true true lo.2 m))=Ns crs (Bi true false mid (Bi true true lo.2 m)):=by
  rw[<-D8 M3];rw[Ar8 (b:=true) (high:=false) (s:=hi.2) (fun p hp=>by
   have h3:=Li _ _ p hp;rw[Zf]at h3⊢
   exact zp (Rat.le_trans (of_decide_eq_true h3) h2))]
 rw[s2,<-D8 M3,<-D8 M3]at s1;exact s1
def Eg:List Rat->Rat
 |[]=>0
 |a::l=>a+Eg l
theorem Lo:∀l m:List Rat,Eg (l++m)=Eg l+Eg m
 |[],m=>by simp only[List.nil_append,Eg];grind
 |a::l,m=>by simp only[zd8,Eg,Lo l m];grind
def Bw(x y:Int):Q2:=((x:Rat),(y:Rat))
def sqA(ps:List Q2)(x y:Int):Rat:=Fc (Ik (Bw x y) (Bw (x+1) (y+1)) ps)
theorem W4{a b:Int}(h:a<=b):(a:Rat)<=(b:Rat):=Rat.intCast_le_intCast.2 h
def RY(ps:List Q2)(y:Int):Nat->Int->List Rat
 |0,_=>[]
 |n+1,x=>sqA ps x y::RY ps y n (x+1)
def Oj(ps:List Q2)(w:Nat)(x:Int):Nat->Int->List Rat
 |0,_=>[]
 |n+1,y=>RY ps y w x++Oj ps w x n (y+1)
theorem TU(ps:List Q2)(y:Int):∀(n:Nat)(x:Int),Eg (RY ps y (n+1) x)=Fc (Ik (Bw x y) (Bw (x+((n+1:Nat):Int)) (y+1)) ps)
 |0,x=>by
  show sqA ps x y+0=_;unfold sqA;rw[show x+((0+1:Nat):Int)=x+1 by omega]
  grind
 |n+1,x=>by
  have h:=A1z (Bw x y) (Bw (x+((n+1+1:Nat):Int)) (y+1)) ((x+1:Int):Rat) (W4 (by omega)) (W4 (by omega)) ps;rw[<-h];show sqA ps x y+Eg (RY ps y (n+1) (x+1))=_;rw[TU ps y n (x+1),show x+1+((n+1:Nat):Int)=x+((n+1+1:Nat):Int) by omega];rfl
theorem Ai6(ps:List Q2)(w:Nat)(x:Int):∀(n:Nat)(y:Int),Eg (Oj ps (w+1) x (n+1) y)=Fc (Ik (Bw x y) (Bw (x+((w+1:Nat):Int)) (y+((n+1:Nat):Int))) ps)
 |0,y=>by
  show Eg (RY ps y (w+1) x++[])=_;rw[ze2,TU,show y+((0+1:Nat):Int)=y+1 by omega]
 |n+1,y=>by
  have h:=AT1 (Bw x y) (Bw (x+((w+1:Nat):Int)) (y+((n+1+1:Nat):Int))) ((y+1:Int):Rat) (W4 (by omega)) (W4 (by omega)) ps;rw[<-h];show Eg (RY ps y (w+1) x++Oj ps (w+1) x (n+1) (y+1))=_;rw[Lo,TU,Ai6 ps w x n (y+1),show y+1+((n+1:Nat):Int)=y+((n+1+1:Nat):Int) by omega];rfl
theorem Mz(ps:List Q2)(y:Int):∀(n:Nat)(x:Int),(RY ps y n x).length=n
 |0,_=>rfl
 |n+1,x=>by rw[RY,zb8,Mz]
theorem Y9(ps:List Q2)(w:Nat)(x:Int):∀(n:Nat)(y:Int),(Oj ps w x n y).length=w*n
 |0,_=>rfl
 |n+1,y=>by rw[Oj,zc3,Mz,Y9,Nat.mul_succ];omega
theorem Ak8:∀l:List Rat,Eg (l.map fun a=>a/2)=Eg l/2
 |[]=>by show(0:Rat)=0/2;rw[Rat.div_def,Rat.zero_mul]
 |a::l=>by
  simp only[zb9,Eg,Ak8 l];rw[Rat.div_def,Rat.div_def,Rat.div_def,Rat.add_mul]
end
section
open Go
theorem Ae4{x y:Int}(hx: -100<=x/\x<=100)(hy: -100<=y/\y<=100):SzP 2 (Bw x y):=⟨Te (by omega) (by omega),Te (by omega) (by omega)⟩
theorem AA7{x y:Int}:(((rqF (x:Rat)).1,((rqF (x:Rat)).2.1,((rqF (x:Rat)).2.2.1,((rqF (x:Rat)).2.2.2,rqF (y:Rat))))))=fl (rp (Bw x y)):=(rfl)
theorem AW1{q:Rat}(h:(LW q).2=false):LW q=(zF,false):=by
 by_cases hz:Sz 40 q
 ·rw[GQ hz]at h;cases h
 ·exact Qg hz
theorem A1r{l:List RPt}(hl:l.length<=1000)(hb:∀x∈l,BrP x){x y:Int}(hx: -90<=x/\x<=90)(hy: -90<=y/\y<=90):∃f:RF×Bool,Ff l x y=some f/\FW l x y=some f/\(f.2=false->f=(zF,false))/\
  (f.2=true->∃ps,SzR ps/\l=ps.map rp/\SzR (Ik (Bw x y) (Bw (x+1) (y+1)) ps)/\Sz 40 (sqA ps x y/2)/\f=(rqF (sqA ps x y/2),true)):=by
 have c1:=Ae4 (x:=x) (y:=y) (by omega) (by omega);have c2:=Ae4 (x:=x+1) (y:=y+1) (by omega) (by omega);obtain⟨f,f1,f2,_,f4⟩:=AQ9 hl hb (Zo (k:=2) (by omega) c1) (Zo (k:=2) (by omega) c2);have i1:Ff l x y=(bif !f.2 then some (zF,false)else(HE f.1).bind fun x5=>some (x5.1,x5.2)):=by
  unfold Ff;rw[IJ (by omega) (by omega),obs,IJ (by omega) (by omega),obs,Ab (by omega) (by omega),IJ (by omega) (by omega),obs,Ab (by omega) (by omega),IJ (by omega) (by omega),obs];simp only[AO,AI];rw[AA7,AA7,f1,obs];rfl
 have s1:FW l x y=(bif !f.2 then some (zF,false)else(IW f.1).bind fun x3=>(Eu x3).bind fun x4=>some (x4.1,x4.2)):=by
  have h1:SmP (x,y):=by unfold SmP;simp only;omega
  have h2:SmP (x+1,y+1):=by unfold SmP;simp only;omega
  unfold FW;rw[Yt h1,obs,Ab (by omega) (by omega),Ab (by omega) (by omega),Yt h2,obs];simp only[AO,AI];rw[show ptQ (x,y)=Bw x y from rfl,show ptQ (x+1,y+1)=Bw (x+1) (y+1)from rfl,f2,obs];rfl
 rw[i1,s1];cases h:f.2 with
 |false=>
  exact⟨(zF,false),by rw[nF,cT],by rw[nF,cT],fun _=>rfl,fun h=>by cases h⟩
 |true=>
  obtain⟨ps,lo,hi,hps,hlo,hhi,hx',hy',el,ea,ec,hm,ef⟩:=f4 h;have e1:lo=Bw x y:=At9 ea.symm;have e2:hi=Bw (x+1) (y+1):=At9 ec.symm;rw[e1,e2]at hm ef;have ef1:f.1=(Ik (Bw x y) (Bw (x+1) (y+1)) ps).map rp:=by rw[ef]
  refine⟨LW (sqA ps x y/2),?_,?_,AW1,fun hf=> ?_⟩
  ·rw[nT,cF,ef1,AU5 hm,obs];simp only[AI,sqA]
  ·rw[nT,cF,ef1,(U6 hm).1,obs,O6 (k:=2722) (by omega) (U6 hm).2,obs];simp only[AI,sqA]
  ·by_cases hz:Sz 40 (sqA ps x y/2)
   ·exact⟨ps,hps,el,hm,hz,GQ hz⟩
   ·rw[Qg hz]at hf;cases hf
def shV (l:List RPt) (x y:Int):RF×Bool:=(Ff l x y).getD (zF,false)
theorem Tw{l:List RPt}(hl:l.length<=1000)(hb:∀x∈l,BrP x){x y:Int}(hx: -90<=x/\x<=90)(hy: -90<=y/\y<=90):Ff l x y=some (shV l x y)/\FW l x y=some (shV l x y)/\((shV l x y).2=false->shV l x y=(zF,false))/\
  ((shV l x y).2=true->∃ps,SzR ps/\l=ps.map rp/\SzR (Ik (Bw x y) (Bw (x+1) (y+1)) ps)/\Sz 40 (sqA ps x y/2)/\shV l x y=(rqF (sqA ps x y/2),true)):=by
 obtain⟨f,h1,h2,h3',h4⟩:=A1r hl hb hx hy;have e:shV l x y=f:=by unfold shV;rw[h1];rfl
 rw[e];exact⟨h1,h2,h3',h4⟩
def JG (l:List RPt) (y:Int):Nat->Int->Option (List RQ)
 |0,_=>some []
 |n+1,x=>if(shV l x y).2=true then(JG l y n (x+1)).map (toQ (shV l x y).1:: ·)else none
def Ha (l:List RPt) (w:Nat) (x:Int):Nat->Int->Option (List RQ)
 |0,_=>some []
 |n+1,y=>(JG l y w x).bind fun r=>(Ha l w x n (y+1)).map (r++ ·)
abbrev Bp:=Int×(Int×(Int×Int))
def Z9{α:Type}(f:List RQ->α):Option (List RQ)->α⊕(List RQ×Bool)
 |some r=>.inl (f r)
 |none=>.inr ([],false)
theorem A8b{l:List RQ}{x:RQ}(h:l.length<=100000):CZ 64 4 l [x]=some (l++[x]):=D2 (by simp[Ae];omega) (by simp[Ae];omega)
section
variable {l:List RPt} (hl:l.length<=1000) (hb:∀x∈l,BrP x) {w:Bp} (w1: -40<=w.1/\w.1<=40) (w2: -40<=w.2.1/\w.2.1<=40) (w3:0<=w.2.2.1/\w.2.2.1<=40) (w4:0<=w.2.2.2/\w.2.2.2<=40)
include hl hb w1 w2 w3 w4
theorem Xj{y:Int}(hy:w.2.1<=y/\y<w.2.1+w.2.2.2):∀(n:Nat)(x:Int)(out:List RQ),x+(n:Int)=w.1+w.2.2.1->w.1<=x->out.length+n<=10000->
  Ad (fun(s:(Bp×((List RQ)×((List RPt)×(Int×Int)))))=>Cb s.1 s.2.1 s.2.2.1 s.2.2.2.1 s.2.2.2.2) (w,(out,(l,(y,x))))=
   some (Z9 (fun r=>(w,(out++r,(l,y)))) (JG l y n x))
 |0,x,out,hx,hx',ho=>by
  refine Ak ?_
  show Cb w out l y x=_;unfold Cb;rw[Ab (by omega) (by omega),zq (by omega),cF,JG];exact congrArg (fun z=>some (Sum.inr (Sum.inl (w,(z,(l,y)))))) (ze2 out).symm
 |n+1,x,out,hx,hx',ho=>by
  obtain⟨s1,s2,_,s4⟩:=Tw hl hb (x:=x) (y:=y) (by omega) (by omega);rw[JG];cases h:(shV l x y).2 with
  |false=>
   rw[zw (by simp)];refine Ak ?_
   show Cb w out l y x=_;unfold Cb;rw[Ab (by omega) (by omega),zp (by omega),cT,s1,obs,h,nF,cT];rfl
  |true=>
   rw[zr rfl];have hgo:Cb w out l y x=some (.inl (w,(out++[toQ (shV l x y).1],(l,(y,x+1))))):=by
    unfold Cb;rw[Ab (n:=w.1+w.2.2.1) (by omega) (by omega),zp (by omega),cT,s1,obs,h,nT,cF,A8b (by omega),obs,Ab (n:=x+1) (by omega) (by omega)];rfl
   refine(AP (f:=fun(s:(Bp×((List RQ)×((List RPt)×(Int×Int)))))=>Cb s.1 s.2.1 s.2.2.1 s.2.2.2.1 s.2.2.2.2) (s:=(w,(out,(l,(y,x))))) hgo).trans ?_
   rw[Xj hy n (x+1) _ (by omega) (by omega) (by rw[zc3,List.length_singleton];omega)];cases JG l y n (x+1)with
   |none=>rfl
   |some r=>simp[Z9]
theorem Yv{y:Int}(hy:w.2.1<=y/\y<w.2.1+w.2.2.2):∀(n:Nat)(x:Int)(out:List RQ),x+(n:Int)=w.1+w.2.2.1->w.1<=x->out.length+n<=10000->
  Ad (fun(s:(Bp×((List RQ)×((List RPt)×(Int×Int)))))=>Cg s.1 s.2.1 s.2.2.1 s.2.2.2.1 s.2.2.2.2) (w,(out,(l,(y,x))))=
   some (Z9 (fun r=>(w,(out++r,(l,y)))) (JG l y n x))
 |0,x,out,hx,hx',ho=>by
  refine Ak ?_
  show Cg w out l y x=_;unfold Cg;rw[Ab (by omega) (by omega),zq (by omega),cF,JG];exact congrArg (fun z=>some (Sum.inr (Sum.inl (w,(z,(l,y)))))) (ze2 out).symm
 |n+1,x,out,hx,hx',ho=>by
  obtain⟨s1,s2,_,s4⟩:=Tw hl hb (x:=x) (y:=y) (by omega) (by omega);rw[JG];cases h:(shV l x y).2 with
  |false=>
   rw[zw (by simp)];refine Ak ?_
   show Cg w out l y x=_;unfold Cg;rw[Ab (by omega) (by omega),zp (by omega),cT,s2,obs,h,nF,cT];rfl
  |true=>
   rw[zr rfl];have hgo:Cg w out l y x=some (.inl (w,(out++[toQ (shV l x y).1],(l,(y,x+1))))):=by
    unfold Cg;rw[Ab (n:=w.1+w.2.2.1) (by omega) (by omega),zp (by omega),cT,s2,obs,h,nT,cF,A8b (by omega),obs,Ab (n:=x+1) (by omega) (by omega)];rfl
   refine(AP (f:=fun(s:(Bp×((List RQ)×((List RPt)×(Int×Int)))))=>Cg s.1 s.2.1 s.2.2.1 s.2.2.2.1 s.2.2.2.2) (s:=(w,(out,(l,(y,x))))) hgo).trans ?_
   rw[Yv hy n (x+1) _ (by omega) (by omega) (by rw[zc3,List.length_singleton];omega)];cases JG l y n (x+1)with
   |none=>rfl
   |some r=>simp[Z9]
theorem Y7(y:Int):∀(n:Nat)(x:Int)(r:List RQ),JG l y n x=some r->r.length=n
 |0,x,r,h=>by
  rw[JG]at h;rw[<-zv h];rfl
 |n+1,x,r,h=>by
  rw[JG]at h
  split at h
  ·cases hr:JG l y n (x+1)with
   |none=>rw[hr]at h;cases h
   |some r'=>
    rw[hr]at h;rw[<-zv h,zb8,Y7 y n (x+1) r' hr]
  ·cases h
theorem Ry:∀(n:Nat)(y:Int)(out:List RQ),y+(n:Int)=w.2.1+w.2.2.2->w.2.1<=y->out.length+40*n<=9000->
  Ad (fun(s:(Bp×((List RQ)×((List RPt)×Int))))=>Bz s.1 s.2.1 s.2.2.1 s.2.2.2) (w,(out,(l,y)))=
   some (Z9 (fun r=>out++r) (Ha l w.2.2.1.toNat w.1 n y))
 |0,y,out,hy,hy',ho=>by
  refine Ak ?_
  show Bz w out l y=_;unfold Bz;rw[Ab (by omega) (by omega),zq (by omega),cF,Ha];exact congrArg (fun z=>some (Sum.inr (Sum.inl z))) (ze2 out).symm
 |n+1,y,out,hy,hy',ho=>by
  have row:=Xj hl hb w1 w2 w3 w4 (y:=y) (by omega) w.2.2.1.toNat w.1 out (by omega) (by omega) (by omega);rw[Ha];cases h:JG l y w.2.2.1.toNat w.1 with
  |none=>
   rw[h]at row;change _=some (Sum.inr (([]:List RQ),false))at row;refine Ak ?_
   show Bz w out l y=_;unfold Bz;rw[Ab (by omega) (by omega),zp (by omega),cT,row,obs,sEr];rfl
  |some r=>
   rw[h]at row;change _=some (Sum.inl (w,(out++r,(l,y))))at row;have hlen:=Y7 hl hb w1 w2 w3 w4 y _ _ _ h;have hgo:Bz w out l y=some (.inl (w,(out++r,(l,y+1)))):=by
    unfold Bz;rw[Ab (n:=w.2.1+w.2.2.2) (by omega) (by omega),zp (by omega),cT,row,obs,sEl,Ab (n:=y+1) (by omega) (by omega)]
   refine(AP (f:=fun(s:(Bp×((List RQ)×((List RPt)×Int))))=>Bz s.1 s.2.1 s.2.2.1 s.2.2.2) (s:=(w,(out,(l,y)))) hgo).trans ?_
   rw[Ry n (y+1) _ (by omega) (by omega) (by rw[zc3];omega)];show _=some (Z9 (fun r=>out++r) ((Ha l w.2.2.1.toNat w.1 n (y+1)).map (r++ ·)));cases Ha l w.2.2.1.toNat w.1 n (y+1)with
   |none=>rfl
   |some r'=>simp[Z9]
theorem Zp:∀(n:Nat)(y:Int)(out:List RQ),y+(n:Int)=w.2.1+w.2.2.2->w.2.1<=y->out.length+40*n<=9000->
  Ad (fun(s:(Bp×((List RQ)×((List RPt)×Int))))=>BN s.1 s.2.1 s.2.2.1 s.2.2.2) (w,(out,(l,y)))=
   some (Z9 (fun r=>out++r) (Ha l w.2.2.1.toNat w.1 n y))
 |0,y,out,hy,hy',ho=>by
  refine Ak ?_
  show BN w out l y=_;unfold BN;rw[Ab (by omega) (by omega),zq (by omega),cF,Ha];exact congrArg (fun z=>some (Sum.inr (Sum.inl z))) (ze2 out).symm
 |n+1,y,out,hy,hy',ho=>by
  have row:=Yv hl hb w1 w2 w3 w4 (y:=y) (by omega) w.2.2.1.toNat w.1 out (by omega) (by omega) (by omega);rw[Ha];cases h:JG l y w.2.2.1.toNat w.1 with
  |none=>
   rw[h]at row;change _=some (Sum.inr (([]:List RQ),false))at row;refine Ak ?_
   show BN w out l y=_;unfold BN;rw[Ab (by omega) (by omega),zp (by omega),cT,row,obs,sEr];rfl
  |some r=>
   rw[h]at row;change _=some (Sum.inl (w,(out++r,(l,y))))at row;have hlen:=Y7 hl hb w1 w2 w3 w4 y _ _ _ h;have hgo:BN w out l y=some (.inl (w,(out++r,(l,y+1)))):=by
    unfold BN;rw[Ab (n:=w.2.1+w.2.2.2) (by omega) (by omega),zp (by omega),cT,row,obs,sEl,Ab (n:=y+1) (by omega) (by omega)]
   refine(AP (f:=fun(s:(Bp×((List RQ)×((List RPt)×Int))))=>BN s.1 s.2.1 s.2.2.1 s.2.2.2) (s:=(w,(out,(l,y)))) hgo).trans ?_
   rw[Zp n (y+1) _ (by omega) (by omega) (by rw[zc3];omega)];show _=some (Z9 (fun r=>out++r) ((Ha l w.2.2.1.toNat w.1 n (y+1)).map (r++ ·)));cases Ha l w.2.2.1.toNat w.1 n (y+1)with
   |none=>rfl
   |some r'=>simp[Z9]
end
def CR(w:Bp):Bool:=CN w.1 (-20) 20&&(CN w.2.1 (-20) 20&&(CN w.2.2.1 1 8&&CN w.2.2.2 1 8))
theorem Ce(w:Bp):AQ w=some (CR w):=by
 unfold AQ CR;rw[LV,obs];cases CN w.1 (-20) 20 with
 |false=>rfl
 |true=>
  rw[cT,LV,obs];cases CN w.2.1 (-20) 20 with
  |false=>rfl
  |true=>
   rw[cT,LV,obs];cases CN w.2.2.1 1 8 with
   |false=>rfl
   |true=>rw[cT,LV,obs];rfl
theorem NW(w:Bp):BP w=some (CR w):=by
 unfold BP CR;rw[Ro,obs];cases CN w.1 (-20) 20 with
 |false=>rfl
 |true=>
  rw[cT,Ro,obs];cases CN w.2.1 (-20) 20 with
  |false=>rfl
  |true=>
   rw[cT,Ro,obs];cases CN w.2.2.1 1 8 with
   |false=>rfl
   |true=>rw[cT,Ro,obs];rfl
theorem CC{w:Bp}:CR w=true↔(-20<=w.1/\w.1<=20)/\(-20<=w.2.1/\w.2.1<=20)/\(1<=w.2.2.1/\w.2.2.1<=8)/\(1<=w.2.2.2/\w.2.2.2<=8):=by
 unfold CR;rw[za2,za2,za2,Iv,Iv,Iv,Iv]
theorem AR0{l:List RPt}(hl:l.length<=1000)(hb:∀x∈l,BrP x)(w:Bp):∃f:List RQ×Bool,BR l w=some f/\DH l w=some f/\
  (f.2=false->f.1=[])/\(f.2=true->G8 l=true/\CR w=true/\Ha l w.2.2.1.toNat w.1 w.2.2.2.toNat w.2.1=some f.1):=by
 cases hw:CR w with
 |false=>
  refine⟨([],false),?_,?_,fun _=>rfl,fun h=>by cases h⟩
  ·unfold BR;simp only[AO,AI];rw[C0 (by omega) hb,obs];cases G8 l with
   |false=>rw[nF,cT]
   |true=>rw[nT,cF,Ce,obs,hw,nF,cT]
  ·unfold DH;simp only[AO,AI];rw[NW,obs,hw,nF,cT]
 |true=>
  obtain⟨w1,w2,w3,w4⟩:=CC.1 hw;have il:=Ry hl hb (w:=w) (by omega) (by omega) (by omega) (by omega) w.2.2.2.toNat w.2.1 [] (by omega) (by omega) (by simp;omega);have sl:=Zp hl hb (w:=w) (by omega) (by omega) (by omega) (by omega) w.2.2.2.toNat w.2.1 [] (by omega) (by omega) (by simp;omega);have ss:DH l w=some (match Ha l w.2.2.1.toNat w.1 w.2.2.2.toNat w.2.1 with|some r=>(r,true)|none=>(([]:List RQ),false)):=by
   unfold DH;simp only[AO,AI];have sl':Ad (fun(s:(Bp×((List RQ)×((List RPt)×Int))))=>BN s.1 s.2.1 s.2.2.1 s.2.2.2) (w,((List.nil:List RQ),(l,w.2.1)))=_:=sl;rw[NW,obs,hw,nT,cF,sl',obs];cases Ha l w.2.2.1.toNat w.1 w.2.2.2.toNat w.2.1 with
   |none=>rfl
   |some r=>rfl
  cases hg:G8 l with
  |false=>
   have hn:Ha l w.2.2.1.toNat w.1 w.2.2.2.toNat w.2.1=none:=by
    obtain⟨s1,s2,_,s4⟩:=Tw hl hb (x:=w.1) (y:=w.2.1) (by omega) (by omega);have h0:(shV l w.1 w.2.1).2=false:=by
     cases h:(shV l w.1 w.2.1).2 with
     |false=>rfl
     |true=>
      obtain⟨ps,hps,el,_⟩:=s4 h;rw[el,GT.2 hps]at hg;cases hg
    obtain⟨n,hn⟩:∃n,w.2.2.1.toNat=n+1:=⟨w.2.2.1.toNat-1,by omega⟩;obtain⟨m,hm⟩:∃m,w.2.2.2.toNat=m+1:=⟨w.2.2.2.toNat-1,by omega⟩;rw[hn,hm,Ha,JG,h0,zw (by simp)];rfl
   rw[hn]at ss;refine⟨([],false),?_,ss,fun _=>rfl,fun h=>by cases h⟩
   unfold BR;rw[C0 (by omega) hb,obs,hg,nF,cT]
  |true=>
   have ii:BR l w=some (match Ha l w.2.2.1.toNat w.1 w.2.2.2.toNat w.2.1 with|some r=>(r,true)|none=>(([]:List RQ),false)):=by
    unfold BR;simp only[AO,AI];have il':Ad (fun(s:(Bp×((List RQ)×((List RPt)×Int))))=>Bz s.1 s.2.1 s.2.2.1 s.2.2.2) (w,((List.nil:List RQ),(l,w.2.1)))=_:=il;rw[C0 (by omega) hb,obs,hg,nT,cF,Ce,obs,hw,nT,cF,il',obs];cases Ha l w.2.2.1.toNat w.1 w.2.2.2.toNat w.2.1 with
    |none=>rfl
    |some r=>rfl
   refine⟨_,ii,ss,?_,?_⟩
   ·cases Ha l w.2.2.1.toNat w.1 w.2.2.2.toNat w.2.1 with
    |none=>intro _;rfl
    |some r=>intro h;cases h
   ·cases Ha l w.2.2.1.toNat w.1 w.2.2.2.toNat w.2.1 with
    |none=>intro h;cases h
    |some r=>intro _;exact⟨rfl,rfl,rfl⟩
section
variable {l:List RPt} {ps:List Q2} (hps:SzR ps) (el:l=ps.map rp)
include hps el
theorem A9l{x y:Int}(hx: -90<=x/\x<=90)(hy: -90<=y/\y<=90)(h:(shV l x y).2=true):Sz 40 (sqA ps x y/2)/\shV l x y=(rqF (sqA ps x y/2),true):=by
 have h40:=hps.1;obtain⟨_,_,_,s4⟩:=Tw (l:=l) (by rw[el];simp;omega) (by rw[el];exact OX (k:=8) (by omega) hps.2) hx hy;obtain⟨qs,hqs,e,_,k1,k2⟩:=s4 h;have inj:∀u v:List Q2,u.map rp=v.map rp->u=v:=by
  intro u
  induction u with
  |nil=>intro v hv;cases v with
   |nil=>rfl
   |cons a t=>cases hv
  |cons b u ih=>intro v hv;cases v with
   |nil=>cases hv
   |cons a t=>
    rw[zb9,zb9]at hv;obtain⟨i1,i2⟩:=List.cons.inj hv;rw[At9 i1,ih t i2]
 have e2:qs=ps:=inj _ _ (by rw[<-e,el]);rw[e2]at k1 k2;exact⟨k1,k2⟩
theorem A3g{y:Int}(hy: -90<=y/\y<=90):∀(n:Nat)(x:Int)(r:List RQ),-90<=x->x+(n:Int)<=90->JG l y n x=some r->r=(RY ps y n x).map (fun a=>rq (a/2))/\(∀a∈RY ps y n x,Sz 40 (a/2))/\∀i:Nat,i<n->(shV l (x+(i:Int)) y).2=true/\r[i]? =some (toQ (shV l (x+(i:Int)) y).1)
 |0,x,r,_,_,h=>by
  rw[JG]at h;rw[<-zv h];exact⟨rfl,fun a ha=>(by cases ha),fun i hi=>(by omega)⟩
 |n+1,x,r,h1,h2,h=>by
  rw[JG]at h
  split at h
  ·rename_i hs;cases hr:JG l y n (x+1)with
   |none=>rw[hr]at h;cases h
   |some r'=>
    rw[hr]at h;obtain⟨k1,k2⟩:=A9l hps el (x:=x) (y:=y) (by omega) hy hs;obtain⟨j1,j2,j3⟩:=A3g hy n (x+1) r' (by omega) (by omega) hr;have hr':toQ (shV l x y).1::r'=r:=zv h;refine⟨?_,?_,?_⟩
    ·rw[<-hr',k2,j1,RY,zb9];rfl
    ·intro a ha;rw[RY]at ha;rcases zc6.1 ha with rfl|ha
     ·exact k1
     ·exact j2 a ha
    ·intro i hi;cases i with
     |zero=>
      rw[show x+((0:Nat):Int)=x by omega,<-hr'];exact⟨hs,rfl⟩
     |succ i=>
      obtain⟨q1,q2⟩:=j3 i (by omega);rw[show x+((i+1:Nat):Int)=x+1+(i:Int) by omega,<-hr'];exact⟨q1,by rw[List.getElem?_cons_succ];exact q2⟩
  ·cases h
theorem AY7{w:Nat}{x:Int}(hx: -90<=x/\x+(w:Int)<=90):∀(n:Nat)(y:Int)(r:List RQ),-90<=y->y+(n:Int)<=90->Ha l w x n y=some r->r=(Oj ps w x n y).map (fun a=>rq (a/2))/\(∀a∈Oj ps w x n y,Sz 40 (a/2))/\
  ∀j i:Nat,j<n->i<w->(shV l (x+(i:Int)) (y+(j:Int))).2=true/\r[j*w+i]? =some (toQ (shV l (x+(i:Int)) (y+(j:Int))).1)
 |0,y,r,_,_,h=>by
  rw[Ha]at h;rw[<-zv h];exact⟨rfl,fun a ha=>(by cases ha),fun j i hj=>(by omega)⟩
 |n+1,y,r,h1,h2,h=>by
  rw[Ha]at h;cases hr:JG l y w x with
  |none=>rw[hr]at h;cases h
  |some r1=>
   rw[hr]at h;have h:(Ha l w x n (y+1)).map (r1++ ·)=some r:=h;cases hw:Ha l w x n (y+1)with
   |none=>rw[hw]at h;cases h
   |some r2=>
    rw[hw]at h;have hrr:r1++r2=r:=zv h;obtain⟨j1,j2,j3⟩:=A3g hps el (y:=y) (by omega) w x r1 (by omega) (by omega) hr;obtain⟨k1,k2,k3⟩:=AY7 hx n (y+1) r2 (by omega) (by omega) hw;have len1:r1.length=w:=by rw[j1,zd0,Mz]
    refine⟨?_,?_,?_⟩
    ·rw[<-hrr,j1,k1,Oj,List.map_append]
    ·intro a ha;rw[Oj]at ha;rcases zb2.1 ha with ha|ha
     ·exact j2 a ha
     ·exact k2 a ha
    ·intro j i hj hi;cases j with
     |zero=>
      obtain⟨q1,q2⟩:=j3 i hi;rw[show y+((0:Nat):Int)=y by omega,<-hrr,Nat.zero_mul,zf0,zd9 (by omega)];exact⟨q1,q2⟩
     |succ j=>
      obtain⟨q1,q2⟩:=k3 j i (by omega) hi;rw[show y+((j+1:Nat):Int)=y+1+(j:Int) by omega,<-hrr,Nat.succ_mul,List.getElem?_append_right (by omega),len1,show j*w+w+i-w=j*w+i by omega];exact⟨q1,q2⟩
end
end
section
open Go
theorem AV3{b:List Int}(hb:∀x∈b,0<=x/\x<=255)(hl:b.length<=1048576):∃n:Int,JO b=some n/\0<=n/\n<1000003:=by
 obtain⟨n,h1,h2⟩:=CK (body:=fun(s:(Int×((List Int)×(Int×Int))))=>Dr s.1 s.2.1 s.2.2.1 s.2.2.2)
  (st:=fun k (n:Int)=>(n,(b,((b.length:Int),(k:Int))))) (fin:=fun n=>n) (I:=fun k n=>0<=n/\n<1000003) b.length
  (by
   rintro k n hk ⟨g1,g2⟩;have he:b[k]? =some b[k]:=za1 hk;generalize b[k]=x at he;have hx:=hb x (za3 he);refine⟨(31*n+x).tmod 1000003,?_,Au3 (by omega) (by omega)⟩
   show Dr n b (b.length:Int) (k:Int)=_;unfold Dr;rw[zp (show(k:Int)<(b.length:Int) by omega),cT,Af,he,obs,Ab (n:=31*n) (by omega) (by omega),Ab (n:=x) (by omega) (by omega),Ab (n:=31*n+x) (by omega) (by omega),Ab (n:=(k:Int)+1) (by omega) (by omega)];rfl)
  (by
   rintro n _;show Dr n b (b.length:Int) (b.length:Int)=_;unfold Dr;rw[zq (by omega)];rfl) 0 0 (by omega) ⟨by omega,by omega⟩
 unfold JO;have h1':Ad (fun(s:(Int×((List Int)×(Int×Int))))=>Dr s.1 s.2.1 s.2.2.1 s.2.2.2) ((0:Int),(b,((b.length:Int),(0:Int))))=some n:=h1;rw[h1',obs];exact⟨n,rfl,h2⟩
end
section
open Go
def BrQ(a:RQ):Prop:=Ax a.1.2/\Ax a.2.2
def unq(a:RQ):RF:=(a.1.1,(a.1.2,a.2))
theorem U8(a:RQ):(a.1.1,(a.1.2,a.2))=unq a:=(rfl)
theorem OA(q:Rat):unq (rq q)=rqF q:=(rfl)
theorem Ab7(l:List Rat)(a:Rat):Eg (l++[a])=Eg l+a:=by
 rw[Lo];show Eg l+(a+0)=_
 grind
section
variable {qs:List Rat} (h40:∀q∈qs,Sz 40 q) (hl:qs.length<=64)
include h40 hl
theorem A4q:∀k:Nat,k<=qs.length->Sz (41*k+1) (Eg (qs.take k))
 |0,_=>by
  rw[List.take_zero];exact S0r
 |k+1,hk=>by
  have hg:qs[k]? =some qs[k]:=za1 (by omega);rw[List.take_add_one,hg];show Sz _ (Eg (qs.take k++[qs[k]]));rw[Ab7];exact(Ph (A4q k (by omega)) (h40 _ (za3 hg))).mono (by omega)
theorem Y3:∀(m k:Nat),k+m=qs.length->Ad (fun(s:(RF×(RF×((List RQ)×(Int×Int)))))=>El s.1 s.2.1 s.2.2.1 s.2.2.2.1 s.2.2.2.2) (zF,(rqF (Eg (qs.take k)),(qs.map rq,((qs.length:Int),(k:Int)))))=some (zF,rqF (Eg qs))
 |0,k,hk=>by
  refine Ak ?_
  show El zF (rqF (Eg (qs.take k))) (qs.map rq) (qs.length:Int) (k:Int)=_;unfold El;rw[zq (by omega),cF,zc4 (by omega)]
 |m+1,k,hk=>by
  have hg:qs[k]? =some qs[k]:=za1 (by omega);have hz:=h40 _ (za3 hg);have hgo:El zF (rqF (Eg (qs.take k))) (qs.map rq) (qs.length:Int) (k:Int)=some (.inl (zF,(rqF (Eg (qs.take (k+1))),(qs.map rq,((qs.length:Int),((k+1:Nat):Int)))))):=by
   unfold El;have e:AD (qs.map rq) (k:Int)=some (rq qs[k]):=by rw[Af,zc9,hg];rfl
   rw[zp (by omega),cT,e,obs];simp only[AO,AI,U8,OA];have hacc:=A4q h40 hl k (by omega);rw[GY (k:=4000) (by omega) (hacc.mono (by omega)) (hz.mono (by omega)),obs,AA (by omega),List.take_add_one,hg];show _=some (Sum.inl (zF,(rqF (Eg (qs.take k++[qs[k]])),_)));rw[Ab7]
  exact(AP (f:=fun(s:(RF×(RF×((List RQ)×(Int×Int)))))=>El s.1 s.2.1 s.2.2.1 s.2.2.2.1 s.2.2.2.2) (s:=(zF,(rqF (Eg (qs.take k)),(qs.map rq,((qs.length:Int),(k:Int)))))) hgo).trans (Y3 m (k+1) (by omega))
end
theorem AX7{qs:List Rat}(h:∀q∈qs,Sz 40 q):(qs.map rq).all Cq=true:=by
 rw[za5];intro x hx;obtain⟨q,hq,rfl⟩:=zd2.1 hx;exact Oz (h q hq)
theorem Yw{l:List RQ}(hl:l.length<=1000)(h:∀a∈l,CO (unq a) (unq a)=some true):FU l l=some true:=by
 unfold FU;rw[bne_self_eq_false,cF];obtain⟨h1,h2⟩:=J2 (l:=l) (body:=fun(s:((List RQ)×((List RQ)×(Int×Int))))=>Dm s.1 s.2.1 s.2.2.1 s.2.2.2)
  (st:=fun k (b:Unit)=>(l,(l,((l.length:Int),(k:Int))))) (step:=fun b p=>()) (fin:=fun b=>.inl ()) (I:=fun k b=>True)
  (by
   rintro k b p hk _;have hkl:=Dt hk;refine⟨?_,trivial⟩
   show Dm l l (l.length:Int) (k:Int)=_;unfold Dm;rw[zp (by omega),cT,Af,hk,obs,obs];simp only[AO,AI,U8];rw[h p (za3 hk),obs,nT,cF,AA (by omega)])
  (by
   rintro b _;show Dm l l (l.length:Int) (l.length:Int)=_;unfold Dm;rw[zq (by omega)];rfl) () trivial
 have h1':Ad (fun(s:((List RQ)×((List RQ)×(Int×Int))))=>Dm s.1 s.2.1 s.2.2.1 s.2.2.2) (l,(l,((l.length:Int),(0:Int))))=_:=h1;rw[h1'];rfl
end
section
open Go
def Oi(q:Rat):Rat:=if 0<=q.num then q else-q
theorem Yb(q:Rat):(Oi q).num=(q.num.natAbs:Int):=by
 unfold Oi
 split
 ·omega
 ·rw[Rat.neg_num];omega
theorem Ay3(q:Rat):(Oi q).den=q.den:=by
 unfold Oi
 split
 ·rfl
 ·exact Rat.neg_den q
theorem A5H(q:Rat):0<=Oi q:=Rat.num_nonneg.1 (by rw[Yb];omega)
theorem As4{q:Rat}{k:Nat}(h:Sz k q):Sz k (Oi q):=⟨by rw[Yb];exact h.1,by rw[Ay3];exact h.2⟩
theorem A0F(q:Rat):rqF (Oi q)=((big (q.num.natAbs:Int)).1,((big (q.num.natAbs:Int)).2,((big (q.den:Int)).1,(big (q.den:Int)).2))):=by
 unfold rqF;rw[Yb,Ay3]
theorem A05(q:Rat):(big q.num).2=(big (q.num.natAbs:Int)).2:=by unfold big;simp
def GX(q:Rat):Rat:=if 1<Oi q then 1 else Oi q
theorem A53(q:Rat):0<=GX q/\GX q<=1:=by
 unfold GX;have:=A5H q
 split<;>constructor<;>grind
def byQ(q:Rat):Int:=(GX q*255+1/2).floor
theorem WM(q:Rat):0<=byQ q/\byQ q<=255:=by
 obtain⟨h1,h2⟩:=A53 q;have a:(0:Int)<=byQ q:=Rat.le_floor_iff.2 (by grind);have b:byQ q<256:=Rat.floor_lt_iff.2 (by grind);omega
theorem A76{q:Rat}(h:1<Oi q):byQ q=255:=by
 unfold byQ GX;rw[zr h];have h1:(255:Int)<=((1:Rat)*255+1/2).floor:=Rat.le_floor_iff.2 (by grind);have h2:((1:Rat)*255+1/2).floor<256:=Rat.floor_lt_iff.2 (by grind);omega
theorem AL1(q:Rat):RW (byQ q)=(byQ q,true):=by
 have:=WM q;unfold RW;rw[zr (by omega)]
theorem sz1:Sz 1 (1:Rat):=by
 have:B 1=65536:=rfl;exact⟨by rw[this];decide,by rw[this];decide⟩
theorem sz2:Sz 1 (2:Rat):=by
 have:B 1=65536:=rfl;exact⟨by rw[this];decide,by rw[this];decide⟩
theorem A5z:Sz 1 (255:Rat):=by
 have:B 1=65536:=rfl;exact⟨by rw[this];decide,by rw[this];decide⟩
theorem AV8:A4 (255:Int)=some (rqF 255):=by rw[IJ (by omega) (by omega)];rfl
theorem A1p:CU (1:Int)=some (rqF 1):=by rw[Qm (by omega) (by omega)];rfl
theorem AT6:CU (255:Int)=some (rqF 255):=by rw[Qm (by omega) (by omega)];rfl
section
variable {q:Rat} (hq:Sz 40 q)
include hq
theorem Av8:Sz 40 (GX q):=by
 unfold GX
 split
 ·exact sz1.mono (by omega)
 ·exact As4 hq
theorem As8:Sz 40 (1/2:Rat):=(Aw4 (k:=1) (m:=1) sz1 sz2 UU).mono (by omega)
theorem Ar5:Sz 80 (GX q*255):=(KJ (Av8 hq) A5z).mono (by omega)
theorem AF5:Sz 200 (GX q*255+1/2):=(Ph (Ar5 hq) (As8 hq)).mono (by omega)
theorem byB:((byQ q).natAbs:Int)<B 40:=by
 have:=WM q;have h1:B 1=65536:=rfl;have:=KH (show 1<=40 by omega);omega
theorem A2l:Le (rqF q)=some (rqF (Oi q)):=by
 unfold Le Ov;rw[A0F];simp only[rqF];rw[A05,WH (k:=40) (by omega) hq.1,WH (k:=40) (by omega) hq.2];rfl
theorem A6m:PW (rqF q)=some (rqF (Oi q)):=by
 unfold PW;rw[A0F];simp only[rqF];rw[A05,Ae1 (k:=40) (by omega) hq.1];rfl
theorem A5o:Nm (rqF q)=some (byQ q):=by
 have tail:((A4 (255:Int))).bind (fun x7=>((CM (rqF (GX q)) (x7.1,(x7.2.1,(x7.2.2.1,x7.2.2.2))))).bind fun x8=>
  (some (rqF 1)).bind fun x9=>
  ((DK (x9.1,(x9.2.1,(x9.2.2.1,x9.2.2.2))))).bind fun x10=>
  ((Cl (x8.1,(x8.2.1,(x8.2.2.1,x8.2.2.2))) (x10.1,(x10.2.1,(x10.2.2.1,x10.2.2.2))))).bind fun x11=>
  ((Gf (x11.1,(x11.2.1,(x11.2.2.1,x11.2.2.2))))).bind fun x12=>
  ((JR (x12.1,x12.2))).bind fun x13=>
  some x13.1)=some (byQ q):=by
  have hh:DK (rqF 1)=some (rqF (1/2)):=by
   unfold DK;simp only[AO];rw[Af1,obs]
   try simp only[AO]
   rw[UV (k:=1) (by omega) sz1 sz2 UU,obs]
  rw[AV8,obs]
  try simp only[AO,AI]
  rw[Io (k:=40) (by omega) (Av8 hq) (A5z.mono (by omega)),obs,obs]
  try simp only[AO,AI]
  rw[hh,obs]
  try simp only[AO,AI]
  rw[GY (k:=80) (by omega) (Ar5 hq) ((As8 hq).mono (by omega)),obs]
  try simp only[AO,AI]
  rw[Ay7 (k:=200) (by omega) (by omega) (AF5 hq),obs,show(GX q*255+1/2).floor=byQ q from rfl,A57 (byB hq),obs,AL1]
 unfold Nm
 try simp only[AO,AI]
 rw[A2l hq,obs,Ak1,obs]
 try simp only[AO,AI]
 rw[FM (k:=40) (by omega) (sz1.mono (by omega)) (As4 hq),obs];by_cases h:1<Oi q
 ·rw[zp h,cT,obs,obs,sEr];rw[show GX q=1 by unfold GX;rw[zr h]]at tail;exact tail
 ·rw[zq h,cF,obs,sEr,show Oi q=GX q by unfold GX;rw[zw h]];exact tail
theorem A2n:LA (rqF q)=some (byQ q):=by
 unfold LA
 try simp only[AO,AI]
 rw[A6m hq,obs,A1p,obs]
 try simp only[AO,AI]
 rw[Nl (k:=40) (by omega) (As4 hq) (sz1.mono (by omega)),obs];by_cases h:1<Oi q
 ·rw[zp (Ll.2 h),cT,A76 h]
 ·have hb1:((1:Int).natAbs:Int)<B 1:=by have:B 1=65536:=rfl;rw[this];decide
  have hb2:((2:Int).natAbs:Int)<B 1:=by have:B 1=65536:=rfl;rw[this];decide
  have e2:Rat.divInt 1 2=(1/2:Rat):=by rw[Rat.divInt_eq_div];rfl
  rw[zq (fun g=>h (Ll.1 g)),cF,Nr (by omega) (by omega),obs,Nr (by omega) (by omega),obs]
  try simp only[AO,AI]
  rw[Pi (k:=1) (by omega) hb1 hb2 (by omega),obs,AT6,obs,e2,show Oi q=GX q by unfold GX;rw[zw h]]
  try simp only[AO,AI]
  rw[W2 (k:=40) (by omega) (Av8 hq) (A5z.mono (by omega)),obs]
  try simp only[AO,AI]
  rw[S6 (k:=80) (by omega) (Ar5 hq) ((As8 hq).mono (by omega)),obs]
  try simp only[AO,AI]
  rw[A1x (k:=200) (by omega) (by omega) (AF5 hq),obs,show(GX q*255+1/2).floor=byQ q from rfl,A6U (byB hq),obs,AL1]
end
theorem A6s{l:List Rat}{k:Nat}{q:Rat}(h:l[k]? =some q):AD (l.map rq) (k:Int)=some (rq q):=by rw[Af,zc9,h];rfl
section
variable {qs:List Rat} (h40:∀q∈qs,Sz 40 q) (hl:qs.length<=1000)
include h40 hl
theorem A2Z:I9 (qs.map rq)=some (qs.map byQ):=by
 obtain⟨_,h1,_⟩:=CK (body:=fun(s:((List Int)×((List RQ)×(Int×Int))))=>DW s.1 s.2.1 s.2.2.1 s.2.2.2) (fun k (_:Unit)=>((qs.take k).map byQ,(qs.map rq,((qs.length:Int),(k:Int))))) (fun _=>qs.map byQ) (fun _ _=>True) qs.length (by
  intro k _ hk _;have he:qs[k]? =some qs[k]:=za1 hk;have hz:=h40 _ (za3 he);generalize qs[k]=q at he hz;refine⟨(),?_,trivial⟩
  show DW ((qs.take k).map byQ) (qs.map rq) (qs.length:Int) (k:Int)=_;unfold DW;rw[zp (by omega),cT,A6s he,obs];simp only[AO,AI,U8,OA];rw[A5o hz,obs,D2 (by simp[Ae];omega) (by simp[Ae];omega),obs,AA (by omega),List.take_add_one,he];simp) (by
  intro _ _;show DW ((qs.take qs.length).map byQ) (qs.map rq) (qs.length:Int) (qs.length:Int)=_;unfold DW;rw[zq (by omega),cF,List.take_length]) 0 () (by omega) trivial
 have h1':Ad (fun(s:((List Int)×((List RQ)×(Int×Int))))=>DW s.1 s.2.1 s.2.2.1 s.2.2.2) ((List.nil:List Int),(qs.map rq,((qs.length:Int),(0:Int))))=_:=h1;unfold I9;rw[zd0,h1',obs]
theorem Ax2:Ad (fun(s:((List Int)×((List RQ)×(Int×Int))))=>B6 s.1 s.2.1 s.2.2.1 s.2.2.2) ((List.nil:List Int),(qs.map rq,((qs.length:Int),(0:Int))))=some (qs.map byQ):=by
 obtain⟨_,h1,_⟩:=CK (body:=fun(s:((List Int)×((List RQ)×(Int×Int))))=>B6 s.1 s.2.1 s.2.2.1 s.2.2.2) (fun k (_:Unit)=>((qs.take k).map byQ,(qs.map rq,((qs.length:Int),(k:Int))))) (fun _=>qs.map byQ) (fun _ _=>True) qs.length (by
  intro k _ hk _;have he:qs[k]? =some qs[k]:=za1 hk;have hz:=h40 _ (za3 he);generalize qs[k]=q at he hz;refine⟨(),?_,trivial⟩
  show B6 ((qs.take k).map byQ) (qs.map rq) (qs.length:Int) (k:Int)=_;unfold B6;rw[zp (by omega),cT,A6s he,obs];simp only[AO,AI,U8,OA];rw[A2n hz,obs,D2 (by simp[Ae];omega) (by simp[Ae];omega),obs,AA (by omega),List.take_add_one,he];simp) (by
  intro _ _;show B6 ((qs.take qs.length).map byQ) (qs.map rq) (qs.length:Int) (qs.length:Int)=_;unfold B6;rw[zq (by omega),cF,List.take_length]) 0 () (by omega) trivial
 exact h1
end
end
end Go.Proofs.YtiijheppiboglaaGreatDoor.Ev
