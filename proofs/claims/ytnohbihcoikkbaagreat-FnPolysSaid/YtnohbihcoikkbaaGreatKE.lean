/- What the theorem of this claim leans on, part 5. -/
import Derived.Test.YtnohbihcoikkbaaGreatKD
import Derived.KernelRfl
set_option maxHeartbeats 2000000
open Option renaming bind_some → za0, map_eq_some_iff → zb4, map_some → zd1
open List renaming getElem?_eq_getElem → za1, getElem?_eq_some_iff → za3, getD_eq_getElem?_getD → za4, mem_of_getElem? → za5, all_eq_true → za6, mem_flatMap → zb0, flatMap_cons → zb2, eq_nil_of_length_eq_zero → zb3, mem_append → zb5, getElem?_take → zb6, drop_eq_getElem_cons → zb9, take_of_length_le → zc0, all_cons → zc1, map_cons → zc2, length_cons → zc6, length_take → zc7, getElem?_replicate → zc8, mem_cons → zc9, getElem?_drop → zd2, getElem?_map → zd5, getElem?_append_left → zd6, mem_map → ze0, getElem?_append → ze2, getElem?_of_mem → ze3, length_append → ze5, drop_zero → ze7, take_length → zf1
open Bool renaming and_eq_true → za2, false_eq_true → zb8, true_and → ze4, not_eq_true' → zf0
open Nat renaming eq_of_beq_eq_true → za7, le_refl → za8, le_trans → zd0, lt_or_ge → zd3, mul_le_mul_right → zd4, lt_of_lt_of_le → zd8, zero_add → ze6, add_mul → zf2, zero_le → zf5
open Int renaming mul_le_mul_of_nonneg_right → za9, mul_le_mul_of_nonneg_left → zb1, tdiv_eq_ediv_of_nonneg → zc3, toNat_natCast → zc4, tmod_eq_emod_of_nonneg → zc5, mul_add → zd7, le_of_lt → ze1, mul_nonneg → ze8, natAbs_natCast → ze9, mul_comm → zf3, mul_assoc → zf4
open Array renaming getD_eq_getD_getElem? → zb7
open Sum renaming elim_inr → zd9
open Go.IntKind renaming wrap → zj, i64 → zk, u64 → zx
open Option.some renaming inj → zy, injEq → zb
open Sum renaming inl → zc, inr → zd
noncomputable section
set_option linter.unusedVariables false
set_option linter.unusedSimpArgs false
set_option linter.unusedSectionVars false
namespace Go.Proofs.YtnohbihcoikkbaaGreat.Ev
section
open Go
theorem PP{v:Int}(h: -65536<=v/\v<65536):0<=(if v<0 then v+65536 else v)/\(if v<0 then v+65536 else v)<65536/\(if v<0 then v+65536 else v)-65536*(if v<0 then 1 else 0)=v/\((if v<0 then 1 else 0:Int)=0\/(if v<0 then 1 else 0:Int)=1):=by
 split<;>omega
theorem RK{k:Nat}{A Bv out d br br' v x y:Int}(h1:out-B k*br=A-Bv)(h2:d-65536*br'=v)(h3:v=x-y-br):out+B k*d-B (k+1)*br'=A+B k*x-(Bv+B k*y):=by
 have e1:B (k+1)*br'=B k*(65536*br'):=by simp only[B];rw[zf3 65536 (B k),zf4]
 have e2:B k*d-B k*(65536*br')=B k*x-B k*y-B k*br:=by rw[<-Int.mul_sub,h2,h3,Int.mul_sub,Int.mul_sub]
 rw[e1];omega
theorem NZ{a b:List Int}(ha:LB a)(hb:LB b)(hlen:b.length<=a.length)(na:a.length<=10000000)(hle:val b<=val a):
  D4 a b=some (lim (val a-val b).toNat):=by
 unfold D4;obtain⟨r,h1,h2⟩:=GW (f:=fun(s:((List Int)×((List Int)×((List Int)×(Int×(Int×Int))))))=>El s.1 s.2.1 s.2.2.1 s.2.2.2.1 s.2.2.2.2.1 s.2.2.2.2.2)
  (I:=fun s=>∃(k:Nat)(out:List Int)(c:Int),s=(out,(a,(b,(c,((a.length:Int),(k:Int))))))/\out.length=k/\k<=a.length/\LB out/\(c=0\/c=1)/\val out-B k*c=val (a.take k)-val (b.take k))
  (R:=fun r=>LB r/\val r=val a-val b/\r.length=a.length) (fun s=>a.length+1-s.1.length) (by
   rintro s ⟨k,out,c,rfl,h1,h2,h3,h4,h5⟩;simp only;by_cases hk:k<a.length
   ·have da:=A3 ha k;have db:=A3 hb k;have hg:=za1 hk;have hx:a[k]=dg a k:=(E4 hg).symm;have hv:=PP (v:=dg a k-dg b k-c) (by omega);refine .inl ⟨(out++[if dg a k-dg b k-c<0 then dg a k-dg b k-c+65536 else dg a k-dg b k-c],(a,(b,((if dg a k-dg b k-c<0 then 1 else 0),((a.length:Int),((k+1:Nat):Int)))))),?_,⟨k+1,_,_,rfl,by simp[h1],by omega,h3.append (LB.cons (by omega) LB.nil),hv.2.2.2,?_⟩,by simp;omega⟩
    ·unfold El;rw[zp (by omega),Av,hg];simp only[cond_true,za0,JL,hx];rw[Ab (n:=dg a k-dg b k) (by omega) (by omega),Ab (n:=dg a k-dg b k-c) (by omega) (by omega),Ab (n:=dg a k-dg b k-c+65536) (by omega) (by omega),BM (by omega)];by_cases hneg:dg a k-dg b k-c<0
     ·rw[zp hneg,zw hneg,zw hneg];simp only[cond_true];rw[Tt (by omega)];rfl
     ·rw[zq hneg,zi hneg,zi hneg];simp only[cond_false];rw[Tt (by omega)];rfl
    ·rw[JO,h1,AT,AT];exact RK h5 hv.2.2.1 rfl
   ·have hk':k=a.length:=by omega
    refine .inr ⟨out,?_,h3,?_,by omega⟩
    ·unfold El;rw[zq (by omega)];rfl
    ·rw[zc0 (by omega),zc0 (by omega)]at h5;have b1:=Kj h3;have b2:=AR h3;rw[h1]at b1;rcases h4 with h4|h4
     ·subst h4;omega
     ·subst h4;omega) ([],(a,(b,(0,((a.length:Int),0))))) ⟨0,[],0,rfl,rfl,by omega,LB.nil,.inl rfl,by simp[val,B]⟩
 rw[h1];simp only[za0];rw[FY (by unfold Ar;omega)];simp only[za0];rw[BX h2.1,h2.2.1]
theorem So{a b:List Int}(ha:LB a)(hb:LB b)(hlen:b.length<=a.length)(na:a.length<=10000000)(hle:val b<=val a):
  FA a b=some (lim (val a-val b).toNat):=by
 unfold FA;rw[Ur (by unfold Ar;omega)];simp only[za0];obtain⟨r,h1,h2⟩:=GW (f:=fun(s:((List Int)×((List Int)×(Int×(Int×Int)))))=>Ft s.1 s.2.1 s.2.2.1 s.2.2.2.1 s.2.2.2.2)
  (I:=fun s=>∃(k:Nat)(out:List Int)(c:Int),s=(out,(b,(c,((a.length:Int),(k:Int)))))/\out.length=a.length/\k<=a.length/\LB (out.take k)/\out.drop k=a.drop k/\(c=0\/c=1)/\val (out.take k)-B k*c=val (a.take k)-val (b.take k))
  (R:=fun r=>LB r/\val r=val a-val b/\r.length=a.length) (fun s=>(a.length+1-s.2.2.2.2).toNat) (by
   rintro s ⟨k,out,c,rfl,h1,h2,h3,h3',h4,h5⟩;simp only;by_cases hk:k<a.length
   ·have da:=A3 ha k;have db:=A3 hb k;have hg:=za1 hk;have hx:a[k]=dg a k:=(E4 hg).symm;have hko:k<out.length:=by omega
    have hox:out[k]? =some (dg a k):=by
     have e1:out.drop k=out[k]::out.drop (k+1):=zb9 hko;have e2:a.drop k=a[k]::a.drop (k+1):=zb9 hk;rw[za1 hko];rw[e1,e2]at h3';rw[(List.cons.inj h3').1,hx]
    have hv:=PP (v:=dg a k-dg b k-c) (by omega);have hset:∀y:Int,(out.set k y)[k]? =some y:=fun y=>by rw[List.getElem?_set_self hko]
    have hdg:dg (out.set k (if dg a k-dg b k-c<0 then dg a k-dg b k-c+65536 else dg a k-dg b k-c)) k=(if dg a k-dg b k-c<0 then dg a k-dg b k-c+65536 else dg a k-dg b k-c):=E4 (hset _);have htk:(out.set k (if dg a k-dg b k-c<0 then dg a k-dg b k-c+65536 else dg a k-dg b k-c)).take k=out.take k:=List.take_set_of_le (za8 _);refine .inl ⟨(out.set k (if dg a k-dg b k-c<0 then dg a k-dg b k-c+65536 else dg a k-dg b k-c),(b,((if dg a k-dg b k-c<0 then 1 else 0),((a.length:Int),((k+1:Nat):Int))))),?_,⟨k+1,_,_,rfl,by simp[h1],by omega,?_,?_,hv.2.2.2,?_⟩,by simp;omega⟩
    ·unfold Ft AO;have i1:AJ (k:Int) out.length=some k:=Be hko;have i2:∀y:Int,AJ (k:Int) (out.set k y).length=some k:=fun y=>by rw[List.length_set];exact i1
     rw[zp (by omega)];simp only[cond_true,i1,za0,hox,i2,hset,Av];have hw1:=BM (show k<4611686018427387904 by omega);rw[Ab (n:=dg a k-c) (by omega) (by omega)];have s1:(bif decide ((k:Int)<((b.length:Nat):Int))then(b[k]?).bind fun x6=>some (Sum.inr (α:=(List Int×List Int×Int×Int×Int)⊕List Int) ((out.set k (dg a k-c)).set k (zj zk (dg a k-c-x6)),(b,((k:Int),((a.length:Int),(k:Int))))))else some (Sum.inr (out.set k (dg a k-c),(b,((k:Int),((a.length:Int),(k:Int)))))))=some (Sum.inr (out.set k (dg a k-dg b k-c),(b,((k:Int),((a.length:Int),(k:Int)))))):=by
      rcases zd3 k b.length with hkb|hkb
      ·rw[zp (by omega),za1 hkb,<-E4 (za1 hkb)];simp only[cond_true,za0,List.set_set];rw[Ab (by omega) (by omega),show dg a k-c-dg b k=dg a k-dg b k-c by omega]
      ·rw[zq (by omega),G9 hkb,show dg a k-0-c=dg a k-c by omega];rfl
     rw[s1];simp only[za0,zd9,i2,hset,List.set_set,hw1];by_cases hneg:dg a k-dg b k-c<0
     ·rw[zp hneg,zw hneg,zw hneg,Ab (by omega) (by omega)];rfl
     ·rw[zq hneg,zi hneg,zi hneg];rfl
    ·rw[List.take_add_one,htk,hset];exact h3.append (LB.cons (by omega) LB.nil)
    ·rw[List.drop_set_of_lt (by omega)];have:out.drop (k+1)=(out.drop k).drop 1:=by rw[List.drop_drop]
     rw[this,h3',List.drop_drop]
    ·rw[AT (out.set k _),AT a,AT b,htk,hdg];exact RK h5 hv.2.2.1 rfl
   ·have hk':k=a.length:=by omega
    refine .inr ⟨out,?_,?_,?_,h1⟩
    ·unfold Ft;rw[zq (by omega)];rfl
    ·rw[zc0 (by omega)]at h3;exact h3
    ·rw[zc0 (by omega)]at h3 h5;rw[zc0 (by omega),zc0 (by omega)]at h5;have b1:=Kj h3;have b2:=AR h3;rw[h1,<-hk']at b1;rcases h4 with h4|h4
     ·subst h4;omega
     ·subst h4;omega) (a,(b,(0,((a.length:Int),0)))) ⟨0,a,0,rfl,rfl,by omega,by rw[List.take_zero];exact LB.nil,rfl,.inl rfl,by simp[val,B]⟩
 rw[h1];simp only[za0];rw[UK (by unfold Ar;omega)];simp only[za0];rw[BX h2.1,h2.2.1]
end
section
open Go
theorem HI{n k:Nat}(h:(n:Int)<B k)(hk:k<=1000000):(lim n).length<=1000000:=zd0 (Al.2 h) hk
theorem Ag3{x y:Int}{k:Nat}(hk:k<=1000000)(hx:(x.natAbs:Int)<B k)(hy:(y.natAbs:Int)<B k):IB (big x) (big y)=some (big (x+y)):=by
 have lx:=HI hx hk;have ly:=HI hy hk;unfold IB big;simp only;by_cases hs:decide (x<0)=decide (y<0)
 ·rw[hs,beq_self_eq_true];obtain⟨r,e1,e2,e3,e4⟩:=YJ (Az x.natAbs) (Az y.natAbs) (by omega) (by omega);rw[Ao,Ao]at e3;simp only[cond_true,e1,za0];rw[Gz e2 (by unfold Ar;omega)];simp only[za0];have hv:(val r).toNat=(x+y).natAbs:=by
   by_cases h1:x<0
   ·have:y<0:=by simpa[h1]using hs
    omega
   ·have:¬y<0:=by simpa[h1]using hs
    omega
  rw[hv]
  congr 2
  by_cases h2:y<0
  ·have h1:x<0:=by simpa[h2]using hs
   rw[zp h2,zp (show x+y<0 by omega),zp (show(x+y).natAbs≠0 by omega)];rfl
  ·have h1:¬x<0:=by simpa[h2]using hs
   rw[zq h2,zq (show ¬x+y<0 by omega)];rfl
 ·have hb:(decide (x<0)==decide (y<0))=false:=by simpa using hs
  rw[hb];simp only[cond_false];rw[H9 (by unfold Ar;omega) (by unfold Ar;omega)];simp only[za0];have hxy:(x<0/\¬y<0)\/(¬x<0/\y<0):=by
   by_cases h1:x<0<;>by_cases h2:y<0<;>simp[h1,h2]at hs⊢
  rcases zd3 x.natAbs y.natAbs with hlt|hge
  ·rw[FM (by omega),zq (by omega)];simp only[cond_false];have hl:(lim x.natAbs).length<=(lim y.natAbs).length:=Al.2 (by have:=Al.1 (za8 (lim y.natAbs).length);omega);rw[So (Az _) (Az _) hl (by omega) (by rw[Ao,Ao];omega)];simp only[za0,Ao];have e:((y.natAbs:Int)-(x.natAbs:Int)).toNat=(x+y).natAbs:=by omega
   rw[e,Gz (Az _) (by
    have:(lim (x+y).natAbs).length<=(lim y.natAbs).length:=Al.2 (by have:=Al.1 (za8 (lim y.natAbs).length);omega);unfold Ar;omega)]
   simp only[za0,Ao,zc4]
   congr 2
   by_cases h2:y<0
   ·rw[zp h2,zp (show x+y<0 by omega),zp (show(x+y).natAbs≠0 by omega)];rfl
   ·rw[zq h2,zq (show ¬x+y<0 by omega)];rfl
  ·have hc:CR (x.natAbs:Int) (y.natAbs:Int)>=0:=by unfold CR;rw[zi (by omega)];split<;>omega
   rw[zp hc];simp only[cond_true];have hl:(lim y.natAbs).length<=(lim x.natAbs).length:=Al.2 (by have:=Al.1 (za8 (lim x.natAbs).length);omega);rw[So (Az _) (Az _) hl (by omega) (by rw[Ao,Ao];omega)];simp only[za0,Ao];have e:((x.natAbs:Int)-(y.natAbs:Int)).toNat=(x+y).natAbs:=by omega
   rw[e,Gz (Az _) (by
    have:(lim (x+y).natAbs).length<=(lim x.natAbs).length:=Al.2 (by have:=Al.1 (za8 (lim x.natAbs).length);omega);unfold Ar;omega)]
   simp only[za0,Ao,zc4]
   congr 2
   by_cases h2:x<0
   ·rw[zp h2];by_cases h3:x+y<0
    ·rw[zp h3,zp (show(x+y).natAbs≠0 by omega)];rfl
    ·rw[zq h3,zq (show ¬(x+y).natAbs≠0 by omega)];rfl
   ·rw[zq h2,zq (show ¬x+y<0 by omega)];rfl
theorem MB{o x y c:Int}(ho:0<=o/\o<65536)(hx:0<=x/\x<65536)(hy:0<=y/\y<65536)(hc:0<=c/\c<65536):
  (0<=x*y/\x*y<=4294836225)/\0<=(o+x*y+c)/65536/\(o+x*y+c)/65536<65536/\0<=(o+x*y+c)%65536/\(o+x*y+c)%65536<65536/\(o+x*y+c)%65536+65536*((o+x*y+c)/65536)=o+x*y+c:=by
 have h1:0<=x*y:=ze8 hx.1 hy.1;have h2:x*y<=65535*65535:=Int.le_trans (zb1 (show y<=65535 by omega) hx.1) (za9 (show x<=65535 by omega) (by omega));omega
theorem XQ{out:List Int}{p:Nat}{o d c c' t V:Int}(ho:out[p]? =some o)(hd:d+65536*c'=o+t+c)(hV:val out+B p*c=V):val (out.set p d)+B (p+1)*c'=V+B p*t:=by
 rw[EV ho];have e1:B (p+1)*c'=B p*(65536*c'):=by simp only[B];rw[zf3 65536 (B p),zf4]
 have e2:B p*d+B p*(65536*c')=B p*o+B p*t+B p*c:=by rw[<-zd7,hd,zd7,zd7]
 rw[e1,Int.mul_sub];omega
theorem Ai{l:List Int}{k:Nat}(h:k<l.length):l[k]? =some (dg l k):=by rw[za1 h,E4 (za1 h)]
theorem BH{l:List Int}{k j:Nat}{x:Int}(h:k≠j):dg (l.set k x) j=dg l j:=by
 unfold dg;rw[za4,za4,List.getElem?_set_ne h]
structure Row (out0 out:List Int) (i k:Nat) (c x:Int) (b:List Int):Prop where
 len:out.length=out0.length
 lb:LB out
 hi:∀j,i+k<=j->dg out j=dg out0 j
 c0:0<=c
 c1:c<65536
 v:val out+B (i+k)*c=val out0+B i*(x*val (b.take k))
theorem Row.start{out0:List Int}(h:LB out0)(i:Nat)(x:Int)(b:List Int):Row out0 out0 i 0 0 x b:=⟨rfl,h,fun _ _=>rfl,by omega,by omega,by simp[val]⟩
theorem Row.next{out0 out:List Int}{i k:Nat}{c x:Int}{b:List Int}(h:Row out0 out i k c x b)(hb:LB b)(hx:0<=x/\x<65536)(hk:i+k<out.length):
  Row out0 (out.set (i+k) ((dg out (i+k)+x*dg b k+c)%65536)) i (k+1) ((dg out (i+k)+x*dg b k+c)/65536) x b:=by
 have hs:=MB (A3 h.lb (i+k)) hx (A3 hb k) ⟨h.c0,h.c1⟩;refine⟨by rw[List.length_set];exact h.len,h.lb.set ⟨hs.2.2.2.1,hs.2.2.2.2.1⟩,fun j hj=>by rw[BH (by omega)];exact h.hi j (by omega),hs.2.1,hs.2.2.1,?_⟩
 have:=XQ (Ai hk) hs.2.2.2.2.2 h.v;rw[show i+(k+1)=i+k+1 by omega,this,AT,zd7,zd7];have:B (i+k)*(x*dg b k)=B i*(x*(B k*dg b k)):=by rw[MS];grind
 omega
theorem Ah0{a0 a1 a2:Bool×List Int}{out0:List Int}{i:Nat}{x:Int}(hx:0<=x/\x<65536)(h0:LB out0)(hb:LB a1.2)(hlen:i+a1.2.length<=out0.length)(ho:out0.length<=10000000)(s7:List Int)(s8 s9:Int):
  ∃out c,Ag (fun(s:((Bool×(List Int))×((Bool×(List Int))×((Bool×(List Int))×((List Int)×(Int×(Int×(Int×((List Int)×(Int×(Int×((List Int)×(Int×Int)))))))))))))=>EI s.1 s.2.1 s.2.2.1 s.2.2.2.1 s.2.2.2.2.1 s.2.2.2.2.2.1 s.2.2.2.2.2.2.1 s.2.2.2.2.2.2.2.1 s.2.2.2.2.2.2.2.2.1 s.2.2.2.2.2.2.2.2.2.1 s.2.2.2.2.2.2.2.2.2.2.1 s.2.2.2.2.2.2.2.2.2.2.2.1 s.2.2.2.2.2.2.2.2.2.2.2.2) ((a0.1,a0.2),((a1.1,a1.2),((a2.1,a2.2),(out0,((i:Int),(x,((0:Int),(s7,(s8,(s9,(a1.2,((((List.length a1.2):Nat):Int),(0:Int)))))))))))))=
   some ((a0.1,a0.2),((a1.1,a1.2),((a2.1,a2.2),(out,((i:Int),(c,(s7,(s8,s9))))))))/\Row out0 out i a1.2.length c x a1.2:=by
 obtain⟨⟨out,c⟩,h1,h2⟩:=Cg (body:=fun(s:((Bool×(List Int))×((Bool×(List Int))×((Bool×(List Int))×((List Int)×(Int×(Int×(Int×((List Int)×(Int×(Int×((List Int)×(Int×Int)))))))))))))=>EI s.1 s.2.1 s.2.2.1 s.2.2.2.1 s.2.2.2.2.1 s.2.2.2.2.2.1 s.2.2.2.2.2.2.1 s.2.2.2.2.2.2.2.1 s.2.2.2.2.2.2.2.2.1 s.2.2.2.2.2.2.2.2.2.1 s.2.2.2.2.2.2.2.2.2.2.1 s.2.2.2.2.2.2.2.2.2.2.2.1 s.2.2.2.2.2.2.2.2.2.2.2.2)
  (st:=fun k (b:List Int×Int)=>((a0.1,a0.2),((a1.1,a1.2),((a2.1,a2.2),(b.1,((i:Int),(x,(b.2,(s7,(s8,(s9,(a1.2,((((List.length a1.2):Nat):Int),(k:Int))))))))))))))
  (fin:=fun b=>((a0.1,a0.2),((a1.1,a1.2),((a2.1,a2.2),(b.1,((i:Int),(b.2,(s7,(s8,s9)))))))))
  (I:=fun k b=>Row out0 b.1 i k b.2 x a1.2) (e:=a1.2.length)
  (by
   rintro k ⟨out,c⟩ hk hI;simp only at hI;have hl:=hI.len;have hp:i+k<out.length:=by omega
   have hs:=MB (A3 hI.lb (i+k)) hx (A3 hb k) ⟨hI.c0,hI.c1⟩;have dl:=A3 hI.lb (i+k);have c0:=hI.c0;have c1:=hI.c1;refine⟨(_,_),?_,hI.next hb hx hp⟩
   unfold EI AO
   dsimp only
   have i1:AJ ((i:Int)+(k:Int)) out.length=some (i+k):=by rw[show(i:Int)+(k:Int)=((i+k:Nat):Int) by omega];exact Be hp
   rw[zp (by omega),Ab (n:=(i:Int)+(k:Int)) (by omega) (by omega)];simp only[cond_true,Av,Ai hk,za0,i1,Ai hp];rw[Ab (n:=x*dg a1.2 k) (by omega) (by omega),Ab (n:=dg out (i+k)+x*dg a1.2 k) (by omega) (by omega),Ab (n:=c+(dg out (i+k)+x*dg a1.2 k)) (by omega) (by omega),show c+(dg out (i+k)+x*dg a1.2 k)=dg out (i+k)+x*dg a1.2 k+c by omega,
    zc5 (by omega),zc3 (by omega),Ab (n:=(dg out (i+k)+x*dg a1.2 k+c)/65536) (by omega) (by omega),BM (by omega)])
  (by
   rintro⟨out,c⟩ _;unfold EI
   dsimp only
   rw[zq (by omega)];rfl) 0 (out0,0) (by omega) (Row.start h0 i x _)
 exact⟨out,c,h1,h2⟩
theorem Ew{x y:Int}{k:Nat}(hk:k<=100000)(hx:(x.natAbs:Int)<B k)(hy:(y.natAbs:Int)<B k):∃r,BI (big x) (big y)=some r/\(r.2,r.1)=big (x*y):=by
 have lx:=zd0 (Al.2 hx) hk;have ly:=zd0 (Al.2 hy) hk;unfold BI;generalize ha:lim x.natAbs=a at lx;generalize hb':lim y.natAbs=b at ly;have la:LB a:=ha▸Az _;have lb:LB b:=hb'▸Az _;have e1:(big x).2=a:=ha;have e2:(big y).2=b:=hb';rw[e1,e2,Ab (by omega) (by omega),show((a.length:Nat):Int)+((b.length:Nat):Int)=((a.length+b.length:Nat):Int) by omega,GV (by unfold Ad;omega) (by unfold Ad;omega)];simp only[za0]
 obtain⟨out,h1,h2⟩:=Cg (body:=fun(s:((Bool×(List Int))×((Bool×(List Int))×((Bool×(List Int))×((List Int)×((List Int)×(Int×Int)))))))=>Gu s.1 s.2.1 s.2.2.1 s.2.2.2.1 s.2.2.2.2.1 s.2.2.2.2.2.1 s.2.2.2.2.2.2)
  (st:=fun i (o:List Int)=>(((big x).1,a),(((big y).1,b),((false,([]:List Int)),(o,(a,(((a.length:Nat):Int),(i:Int))))))))
  (fin:=fun o=>(((big x).1,a),(((big y).1,b),((false,([]:List Int)),o))))
  (I:=fun i o=>o.length=a.length+b.length/\LB o/\(∀j,i+b.length<=j->dg o j=0)/\val o=val (a.take i)*val b) (e:=a.length)
  (by
   rintro i o hi ⟨h1,h2,h3,h4⟩;have hd:=A3 la i;obtain⟨o1,c,q1,q2⟩:=Ah0 (a0:=((big x).1,a)) (a1:=((big y).1,b)) (a2:=(false,[])) hd h2 lb (show i+b.length<=o.length by omega) (show o.length<=10000000 by omega) a ((a.length:Nat):Int) (i:Int);simp only at q1 q2;have hl1:=q2.len;have hp:i+b.length<o1.length:=by omega
   have hz:dg o1 (i+b.length)=0:=by rw[q2.hi _ (za8 _),h3 _ (by omega)]
   have c0:=q2.c0;have c1:=q2.c1;refine⟨o1.set (i+b.length) c,?_,by rw[List.length_set];omega,q2.lb.set ⟨c0,c1⟩,fun j hj=> ?_,?_⟩
   ·unfold Gu AO
    dsimp only
    rw[zp (by omega),Av,Ai hi];simp only[cond_true,za0];rw[q1];simp only[za0];have i1:AJ ((i:Int)+((b.length:Nat):Int)) o1.length=some (i+b.length):=by rw[show(i:Int)+((b.length:Nat):Int)=((i+b.length:Nat):Int) by omega];exact Be hp
    rw[Ab (n:=(i:Int)+((b.length:Nat):Int)) (by omega) (by omega),i1];simp only[za0,Ai hp,hz];rw[Ab (n:=0+c) (by omega) (by omega),BM (by omega),Int.zero_add]
   ·rw[BH (by omega),q2.hi j (by omega),h3 j (by omega)]
   ·rw[EV (Ai hp),hz,Int.sub_zero];have hv:=q2.v;rw[zf1]at hv;rw[AT,Int.add_mul,<-h4];have:B i*dg a i*val b=B i*(dg a i*val b):=zf4 ..
    omega)
  (by
   rintro o _;unfold Gu
   dsimp only
   rw[zq (by omega)];rfl) 0 (List.replicate (a.length+b.length) 0) (by omega) ⟨by simp,LB.zeros _,fun j _=>by
    unfold dg;rw[za4,zc8];split<;>rfl,by rw[Ez];simp[val]⟩
 rw[show((0:Nat):Int)=0 from rfl]at h1;rw[h1];obtain⟨g1,g2,g3,g4⟩:=h2;rw[zf1]at g4;simp only[za0];rw[Gz g2 (by unfold Ar;omega)];simp only[za0];refine⟨_,rfl,?_⟩
 have hv:(val out).toNat=(x*y).natAbs:=by rw[g4,<-ha,<-hb',Ao,Ao,Int.natAbs_mul];omega
 rw[hv];unfold big
 congr 1
 by_cases hx0:x=0
 ·subst hx0;simp
 ·by_cases hy0:y=0
  ·subst hy0;simp
  ·have hne:(x*y).natAbs≠0:=by
    rw[Int.natAbs_mul];intro h;rcases Nat.mul_eq_zero.1 h with h|h<;>omega
   rw[zp hne];by_cases h1:x<0
   ·by_cases h2:y<0
    ·have:=Int.mul_pos_of_neg_of_neg h1 h2;rw[zp h1,zp h2,zq (by omega)];rfl
    ·have:=Int.mul_neg_of_neg_of_pos h1 (show 0<y by omega);rw[zp h1,zq h2,zp (by omega)];rfl
   ·by_cases h2:y<0
    ·have:=Int.mul_neg_of_pos_of_neg (show 0<x by omega) h2;rw[zq h1,zp h2,zp (by omega)];rfl
    ·have:=Int.mul_pos (show 0<x by omega) (show 0<y by omega);rw[zq h1,zq h2,zq (by omega)];rfl
end
section
open Go
theorem Ak1{out0 b:List Int}{i:Nat}{x:Int}(hx:0<=x/\x<65536)(h0:LB out0)(hb:LB b)(hlen:i+b.length<out0.length)(hz:∀j,i+b.length<=j->dg out0 j=0)(ho:out0.length<=10000000)(s6:List Int)(s7 s8:Int):
  ∃out,Ag (fun(s:((List Int)×((List Int)×(Int×(Int×(Int×(Int×((List Int)×(Int×Int)))))))))=>CV s.1 s.2.1 s.2.2.1 s.2.2.2.1 s.2.2.2.2.1 s.2.2.2.2.2.1 s.2.2.2.2.2.2.1 s.2.2.2.2.2.2.2.1 s.2.2.2.2.2.2.2.2) (out0,(b,((i:Int),(x,((0:Int),((0:Int),(s6,(s7,s8))))))))=some (out,(b,(s6,(s7,s8))))/\
   out.length=out0.length/\LB out/\(∀j,i+1+b.length<=j->dg out j=0)/\val out=val out0+B i*(x*val b):=by
 obtain⟨r,h1,out,rfl,h2⟩:=GW (f:=fun(s:((List Int)×((List Int)×(Int×(Int×(Int×(Int×((List Int)×(Int×Int)))))))))=>CV s.1 s.2.1 s.2.2.1 s.2.2.2.1 s.2.2.2.2.1 s.2.2.2.2.2.1 s.2.2.2.2.2.2.1 s.2.2.2.2.2.2.2.1 s.2.2.2.2.2.2.2.2)
  (I:=fun s=>∃(k:Nat)(out:List Int)(c:Int),s=(out,(b,((i:Int),(x,(c,((k:Int),(s6,(s7,s8))))))))/\k<=b.length+1/\Row out0 out i k c x b/\(k=b.length+1->c=0))
  (R:=fun r=>∃out,r=(out,(b,(s6,(s7,s8))))/\out.length=out0.length/\LB out/\(∀j,i+1+b.length<=j->dg out j=0)/\val out=val out0+B i*(x*val b)) (fun s=>(b.length+2-s.2.2.2.2.2.1).toNat) (by
   rintro s ⟨k,out,c,rfl,hk,hR,hc⟩;simp only;have hl:=hR.len;have c0:=hR.c0;have c1:=hR.c1;by_cases hgo:k<b.length\/c>0
   ·have hkb:k<=b.length:=by
     rcases hgo with h|h
     ·omega
     ·rcases zd3 b.length k with h6|h6
      ·have:=hc (by omega);omega
      ·exact h6
    have hp:i+k<out.length:=by omega
    have hs:=MB (A3 hR.lb (i+k)) hx (A3 hb k) ⟨c0,c1⟩;have dl:=A3 hR.lb (i+k);refine .inl ⟨(out.set (i+k) ((dg out (i+k)+x*dg b k+c)%65536),(b,((i:Int),(x,((dg out (i+k)+x*dg b k+c)/65536,(((k+1:Nat):Int),(s6,(s7,s8)))))))),?_,⟨k+1,_,_,rfl,by omega,hR.next hb hx hp,fun he=> ?_⟩,by simp only;omega⟩
    ·unfold CV AO;have hcond:(bif decide ((k:Int)<((b.length:Nat):Int))then some (Sum.inr (α:=(List Int×List Int×Int×Int×Int×Int×List Int×Int×Int)⊕(List Int×List Int×List Int×Int×Int)) (out,(b,((i:Int),(x,(c,((k:Int),(s6,(s7,s8)))))))))else bif decide (c>0)then some (Sum.inr (out,(b,((i:Int),(x,(c,((k:Int),(s6,(s7,s8)))))))))else some (Sum.inl (Sum.inr (out,(b,(s6,(s7,s8)))))))=some (Sum.inr (out,(b,((i:Int),(x,(c,((k:Int),(s6,(s7,s8))))))))):=by
      by_cases g1:(k:Int)<(b.length:Int)
      ·rw[zp g1];rfl
      ·have:c>0:=by rcases hgo with h|h<;>omega
       rw[zq g1,zp this];rfl
     rw[hcond];have i1:AJ ((i:Int)+(k:Int)) out.length=some (i+k):=by rw[show(i:Int)+(k:Int)=((i+k:Nat):Int) by omega];exact Be hp
     simp only[za0,zd9];rw[Ab (n:=(i:Int)+(k:Int)) (by omega) (by omega),i1];simp only[za0,Ai hp,JL];rw[Ab (n:=x*dg b k) (by omega) (by omega),Ab (n:=dg out (i+k)+x*dg b k) (by omega) (by omega),Ab (n:=dg out (i+k)+x*dg b k+c) (by omega) (by omega),
      zc5 (by omega),zc3 (by omega),Ab (n:=(dg out (i+k)+x*dg b k+c)/65536) (by omega) (by omega),BM (by omega)]
    ·have hkb':k=b.length:=by omega
     have z1:dg b k=0:=G9 (by omega);have z2:dg out (i+k)=0:=by rw[hR.hi _ (za8 _),hz _ (by omega)]
     rw[z1,z2,Int.mul_zero];omega
   ·have hkb:b.length<=k:=by omega
    have hcz:c=0:=by omega
    subst hcz;refine .inr ⟨_,?_,out,rfl,hl,hR.lb,fun j hj=> ?_,?_⟩
    ·unfold CV;rw[zq (by omega),zq (by omega)];rfl
    ·rw[hR.hi j (by omega),hz j (by omega)]
    ·have:=hR.v;rw[zc0 hkb]at this;omega) (out0,(b,((i:Int),(x,((0:Int),((0:Int),(s6,(s7,s8)))))))) ⟨0,out0,0,rfl,by omega,Row.start h0 i x b,by omega⟩
 exact⟨out,h1,h2⟩
theorem We{a b:List Int}(ha:LB a)(hb:LB b)(na:a.length<=100000)(nb:b.length<=100000):FG a b=some (lim (val a*val b).toNat):=by
 unfold FG;rw[Ab (n:=((a.length:Nat):Int)+((b.length:Nat):Int)) (by omega) (by omega),Ab (by omega) (by omega),show((a.length:Nat):Int)+((b.length:Nat):Int)+1=((a.length+b.length+1:Nat):Int) by omega,GV (by unfold Ad;omega) (by unfold Ad;omega)];simp only[za0];obtain⟨out,h1,h2⟩:=Cg (body:=fun(s:((List Int)×((List Int)×((List Int)×(Int×Int)))))=>Ek s.1 s.2.1 s.2.2.1 s.2.2.2.1 s.2.2.2.2)
  (st:=fun i (o:List Int)=>(o,(b,(a,(((a.length:Nat):Int),(i:Int)))))) (fin:=fun o=>o)
  (I:=fun i o=>o.length=a.length+b.length+1/\LB o/\(∀j,i+b.length<=j->dg o j=0)/\val o=val (a.take i)*val b) (e:=a.length)
  (by
   rintro i o hi ⟨h1,h2,h3,h4⟩;have hd:=A3 ha i;obtain⟨o1,q1,q2,q3,q4,q5⟩:=Ak1 hd h2 hb (show i+b.length<o.length by omega) h3 (by omega) a ((a.length:Nat):Int) (i:Int);refine⟨o1,?_,by omega,q3,q4,?_⟩
   ·unfold Ek
    dsimp only
    rw[zp (by omega),Av,Ai hi];simp only[cond_true,za0];rw[q1];simp only[za0];rw[BM (by omega)]
   ·rw[q5,h4,AT,Int.add_mul];have:B i*dg a i*val b=B i*(dg a i*val b):=zf4 ..
    omega)
  (by
   rintro o _;unfold Ek
   dsimp only
   rw[zq (by omega)];rfl) 0 (List.replicate (a.length+b.length+1) 0) (by omega) ⟨by simp,LB.zeros _,fun j _=>by
    unfold dg;rw[za4,zc8];split<;>rfl,by rw[Ez];simp[val]⟩
 rw[show((0:Nat):Int)=0 from rfl]at h1;rw[h1];obtain⟨g1,g2,g3,g4⟩:=h2;rw[zf1]at g4;simp only[za0];rw[FY (by unfold Ar;omega)];simp only[za0];rw[BX g2,g4]
theorem Ax2{x y:Int}(h:(x*y).natAbs≠0):(!(decide (x<0)==decide (y<0)))=decide (x*y<0):=by
 have hx:x≠0:=by rintro rfl;simp at h
 have hy:y≠0:=by rintro rfl;simp at h
 by_cases h1:x<0
 ·by_cases h2:y<0
  ·have:=Int.mul_pos_of_neg_of_neg h1 h2;rw[zp h1,zp h2,zq (by omega)];rfl
  ·have:=Int.mul_neg_of_neg_of_pos h1 (show 0<y by omega);rw[zp h1,zq h2,zp (by omega)];rfl
 ·by_cases h2:y<0
  ·have:=Int.mul_neg_of_pos_of_neg (show 0<x by omega) h2;rw[zq h1,zp h2,zp (by omega)];rfl
  ·have:=Int.mul_pos (show 0<x by omega) (show 0<y by omega);rw[zq h1,zq h2,zq (by omega)];rfl
theorem Tu(x y:Int):((!(decide (x<0)==decide (y<0)))&&decide ((x*y).natAbs≠0),lim (x*y).natAbs)=big (x*y):=by
 unfold big
 congr 1
 by_cases h:(x*y).natAbs≠0
 ·rw[Ax2 h,zp h,Bool.and_true]
 ·rw[zq h,Bool.and_false,zq (by omega)]
theorem Kg{x y:Int}{k:Nat}(hk:k<=100000)(hx:(x.natAbs:Int)<B k)(hy:(y.natAbs:Int)<B k):Du (big x) (big y)=some (big (x*y)):=by
 have lx:=zd0 (Al.2 hx) hk;have ly:=zd0 (Al.2 hy) hk;unfold Du;rw[show(big x).2=lim x.natAbs from rfl,show(big y).2=lim y.natAbs from rfl,We (Az _) (Az _) lx ly];have e:(val (lim x.natAbs)*val (lim y.natAbs)).toNat=(x*y).natAbs:=by rw[Ao,Ao,Int.natAbs_mul];omega
 have hl:(lim (x*y).natAbs).length<=k+k:=by
  rw[Al,Int.natAbs_mul,MS];have h1:=Fv k;have:((x.natAbs*y.natAbs:Nat):Int)=(x.natAbs:Int)*(y.natAbs:Int):=by simp
  rw[this];exact Int.lt_of_le_of_lt (za9 (ze1 hx) (by omega)) (Int.mul_lt_mul_of_pos_left hy h1)
 simp only[za0];rw[e,Ef (Az _) (by unfold Ar;omega)];simp only[za0,Ao,zc4];rw[<-Tu];rfl
end
section
open Go
theorem BY(l:List Int)(h:Nat):val l=val (l.take h)+B h*val (l.drop h):=by
 rcases Nat.le_or_ge h l.length with hc|hc
 ·exact O6 l h hc
 ·rw[zc0 hc,List.drop_eq_nil_of_le hc];simp[val]
theorem AL0{l:List Int}(h:LB l):((val l).toNat:Int)=val l:=by have:=AR h;omega
theorem AS1{x y:Nat}{p q:Nat}(h1:(x:Int)<B p)(h2:(y:Int)<B q):((x*y:Nat):Int)<B (p+q):=by
 rw[MS,show((x*y:Nat):Int)=(x:Int)*(y:Int) by simp];exact Int.lt_of_le_of_lt (za9 (ze1 h1) (by omega)) (Int.mul_lt_mul_of_pos_left h2 (Fv p))
theorem Au1{l:List Int}(hl:LB l)(n k:Nat)(h:l.length<=n):(lim (val l).toNat).length<=n:=by
 rw[Al,AL0 hl];have:=Kj hl;have:=IY h;omega
end
section
open Go
theorem Sy{n:Nat}(h:n≠0):lim n=((n%65536:Nat):Int)::lim (n/65536):=by
 conv=>lhs;unfold lim
 rw[dif_neg h]
theorem ND(s:Bool×List Int)(neg:Bool):∀(f:Nat)(n:Nat)(acc:List Int),n<=f->n<18446744073709551616->acc.length+(lim n).length<=10000->
  Ag (fun(s:((Bool×(List Int))×((List Int)×(Bool×Int))))=>Ix s.1 s.2.1 s.2.2.1 s.2.2.2) (s,(acc,(neg,(n:Int))))=some (s,(acc++lim n,neg)):=by
 intro f
 induction f with
 |zero=>
  intro n acc hn _ _;have:n=0:=by omega
  subst this;rw[BF,List.append_nil];exact AE rfl
 |succ f ih=>
  intro n acc hn h64 h2;by_cases h0:n=0
  ·subst h0;rw[BF,List.append_nil];exact AE rfl
  ·rw[Sy h0]at h2⊢
   simp only[zc6]at h2;have hstep:Ix s acc neg (n:Int)=some (.inl (s,(acc++[((n%65536:Nat):Int)],(neg,((n/65536:Nat):Int))))):=by
    unfold Ix;rw[zp (by omega),zc5 (by omega),zc3 (by omega),Ab (by omega) (by omega),Qn (by omega) (by omega)];simp only[cond_true];rw[Tt (by omega)];simp only[za0];rw[show(n:Int)%65536=((n%65536:Nat):Int) by omega,show(n:Int)/65536=((n/65536:Nat):Int) by omega]
   have:=ih (n/65536) (acc++[((n%65536:Nat):Int)]) (by omega) (by omega) (by simp;omega);rw[BG hstep,this,List.append_assoc];rfl
theorem AG3{n:Nat}(h:n<18446744073709551616):(lim n).length<=4:=Al.2 (by have:B 4=18446744073709551616:=rfl;omega)
theorem NC{n:Int}(h1: -9223372036854775808<=n)(h2:n<=9223372036854775807):CW n=some (big n):=by
 unfold CW;have hl:=AG3 (n:=n.natAbs) (by omega);by_cases h:n<0
 ·have e:zj zx (0-zj zx n)=(n.natAbs:Int):=by rw[IntKind.wrap_u64,IntKind.wrap_u64];omega
  rw[zp h];simp only[cond_true,za0,zd9];rw[e,ND (false,[]) true n.natAbs n.natAbs [] (za8 _) (by omega) (by simp;omega)];unfold big;rw[zp h];rfl
 ·have e:zj zx n=(n.natAbs:Int):=by rw[IntKind.wrap_u64];omega
  rw[zq h];simp only[cond_false,za0,zd9];rw[e,ND (false,[]) false n.natAbs n.natAbs [] (za8 _) (by omega) (by simp;omega)];unfold big;rw[zq h];rfl
theorem Wa(s:Bool×List Int)(m:Int):∀(f:Nat)(n:Int)(acc:List Int),n.natAbs<=f-> -9223372036854775808<=n->n<=9223372036854775807->acc.length+(lim n.natAbs).length<=10000->
  Ag (fun(s:((Bool×(List Int))×((List Int)×(Int×Int))))=>Iy s.1 s.2.1 s.2.2.1 s.2.2.2) (s,(acc,(m,n)))=some (s,(acc++lim n.natAbs,m)):=by
 intro f
 induction f with
 |zero=>
  intro n acc hn _ _ _;have:n=0:=by omega
  subst this;rw[show(0:Int).natAbs=0 from rfl,BF,List.append_nil];exact AE rfl
 |succ f ih=>
  intro n acc hn h1 h2 h3;by_cases h0:n=0
  ·subst h0;rw[show(0:Int).natAbs=0 from rfl,BF,List.append_nil];exact AE rfl
  ·rw[Sy (show n.natAbs≠0 by omega)]at h3⊢
   simp only[zc6]at h3;have hq:(Int.tdiv n 65536).natAbs=n.natAbs/65536:=by rw[Int.natAbs_tdiv];rfl
   have hq1: -9223372036854775808<=Int.tdiv n 65536/\Int.tdiv n 65536<=9223372036854775807:=by omega
   have hr:((Int.tmod n 65536).natAbs:Int)=((n.natAbs%65536:Nat):Int):=by rw[Int.natAbs_tmod];rfl
   have hstep:Iy s acc m n=some (.inl (s,(acc++[((n.natAbs%65536:Nat):Int)],(m,Int.tdiv n 65536)))):=by
    unfold Iy;have:(n != 0)=true:=by simpa using h0
    rw[this,Ab (n:=Int.tdiv n 65536) (by omega) (by omega)];simp only[cond_true];by_cases hneg:Int.tmod n 65536<0
    ·rw[zp hneg,Ab (by omega) (by omega)];simp only[cond_true];rw[Tt (by omega),show(0:Int)-Int.tmod n 65536=((n.natAbs%65536:Nat):Int) by omega];rfl
    ·rw[zq hneg];simp only[cond_false];rw[Tt (by omega),show Int.tmod n 65536=((n.natAbs%65536:Nat):Int) by omega];rfl
   have:=ih (Int.tdiv n 65536) (acc++[((n.natAbs%65536:Nat):Int)]) (by omega) hq1.1 hq1.2 (by rw[hq];simp;omega);rw[BG hstep,this,List.append_assoc,hq];rfl
theorem QQ{n:Int}(h1: -9223372036854775808<=n)(h2:n<=9223372036854775807):Ff n=some (big n):=by
 unfold Ff;have hl:=AG3 (n:=n.natAbs) (by omega);rw[Wa (false,[]) n n.natAbs n [] (za8 _) h1 h2 (by simp;omega)];simp only[za0,List.nil_append];rw[Ef (Az _) (by unfold Ar;omega)];simp only[za0,Ao,zc4];unfold big;by_cases h:n<0
 ·rw[zp h,zp (show n.natAbs≠0 by omega)];rfl
 ·rw[zq h];rfl
theorem VI(z:Int):Br (big z)=some (CR z 0):=by
 unfold Br big;by_cases h0:z=0
 ·subst h0;rw[show(0:Int).natAbs=0 from rfl,BF];rfl
 ·have:((((lim z.natAbs).length:Nat):Int)==0)=false:=beq_eq_false_iff_ne.2 (by
   intro h;have h2:lim z.natAbs=[]:=zb3 (by omega);have:=Hw.1 h2;omega)
  rw[this];by_cases h:z<0
  ·rw[zp h,FM h];rfl
  ·rw[zq h,JZ (by omega)];rfl
theorem VH{x y:Int}{k:Nat}(hk:k<=1000000)(hx:(x.natAbs:Int)<B k)(hy:(y.natAbs:Int)<B k):Fx (big x) (big y)=some (CR x y):=by
 have lx:=HI hx hk;have ly:=HI hy hk;unfold Fx;have e1:Br ((big x).1,(big x).2)=some (CR x 0):=VI x;have e2:Br ((big y).1,(big y).2)=some (CR y 0):=VI y;simp only[e1,e2,za0,OI];have e3:BT (big x).2 (big y).2=some (CR (x.natAbs:Int) (y.natAbs:Int)):=H9 (by unfold Ar;omega) (by unfold Ar;omega);rw[e3];have cx:=Db x 0;have cy:=Db y 0;have c3:=Db (x.natAbs:Int) (y.natAbs:Int);have cxy:=Db x y;have cs:=Db (CR x 0) (CR y 0);by_cases h:CR x 0=CR y 0
 ·rw[h,bne_self_eq_false];simp only[cond_false,za0];rcases cy with⟨cy,_⟩|⟨cy,_⟩|⟨cy,_⟩<;>rw[cy]at h⊢ <;>rcases c3 with⟨c3,_⟩|⟨c3,_⟩|⟨c3,_⟩<;>rw[c3]<;>rw[Ab (by omega) (by omega)]<;>congr 1<;>omega
 ·have hb:(CR x 0 != CR y 0)=true:=by simpa using h
  rw[hb];simp only[cond_true]
  congr 1
  omega
end
section
open Go
theorem Ox{a q r by_:Int}(h:q*by_+r=a)(h0:0<=r)(h1:r<by_):q=a/by_/\r=a%by_:=by
 have:a=r+by_*q:=by rw[<-h,zf3];omega
 subst this;constructor
 ·rw[Int.add_mul_ediv_left _ _ (by omega),Int.ediv_eq_zero_of_lt h0 h1];omega
 ·rw[Int.add_mul_emod_self_left,Int.emod_eq_of_lt h0 h1]
theorem Qs{a:List Int}{d:Int}(ha:LB a)(hd:1<=d/\d<=65536)(na:a.length<=10000000):
  ∃q r,Ag (fun(s:((List Int)×((List Int)×(Int×(Int×Int)))))=>DP s.1 s.2.1 s.2.2.1 s.2.2.2.1 s.2.2.2.2) (List.replicate a.length 0,(a,(d,(0,(a.length:Int)-1))))=some (q,r)/\LB q/\q.length=a.length/\0<=r/\r<d/\val q*d+r=val a:=by
 obtain⟨⟨q,r⟩,h1,h2⟩:=HH (body:=fun(s:((List Int)×((List Int)×(Int×(Int×Int)))))=>DP s.1 s.2.1 s.2.2.1 s.2.2.2.1 s.2.2.2.2)
  (st:=fun n (b:List Int×Int)=>(b.1,(a,(d,(b.2,(n:Int)-1))))) (fin:=fun b=>b)
  (I:=fun n b=>n<=a.length/\LB b.1/\b.1.length=a.length/\(∀j,j<n->dg b.1 j=0)/\0<=b.2/\b.2<d/\val b.1*d+B n*b.2=B n*val (a.drop n))
  (by
   rintro n ⟨q,r⟩ ⟨h1,h2,h3,h4,h5,h6,h7⟩;simp only at h2 h3 h4 h5 h6 h7;have hn:n<a.length:=by omega
   have hg:=za1 hn;have dx:=A3 ha n;have hx:a[n]=dg a n:=(E4 hg).symm;have hq:q[n]? =some 0:=by rw[Ai (by omega),h4 n (by omega)]
   have ht0:0<=r*65536+dg a n:=by omega
   have hdd:=Int.emod_add_mul_ediv (r*65536+dg a n) d;have m0:=Int.emod_nonneg (r*65536+dg a n) (show d≠0 by omega);have m1:=Int.emod_lt_of_pos (r*65536+dg a n) (show 0<d by omega);have q0:=Int.ediv_nonneg ht0 (show 0<=d by omega);have q1:(r*65536+dg a n)/d<65536:=by
    refine Int.ediv_lt_of_lt_mul (by omega) ?_
    have:r*65536+dg a n<d*65536:=by omega
    rw[zf3 65536 d];exact this
   refine⟨(q.set n ((r*65536+dg a n)/d),(r*65536+dg a n)%d),?_,by omega,h2.set ⟨q0,q1⟩,by simp[h3],fun j hj=>by simp only;rw[BH (by omega)];exact h4 j (by omega),m0,m1,?_⟩
   ·unfold DP AO
    dsimp only
    have hz:(d==0)=false:=beq_eq_false_iff_ne.2 (by omega);have hs:((n+1:Nat):Int)-1=(n:Int):=by omega
    have i1:AJ (n:Int) q.length=some n:=Be (by omega);rw[hs,zp (by omega),Av,hg];simp only[cond_true,za0,hz,cond_false,i1,hq,hx];rw[Ab (n:=r*65536) (by omega) (by omega),Ab (n:=r*65536+dg a n) (by omega) (by omega),zc3 ht0,zc5 ht0,Ab (n:=(r*65536+dg a n)/d) (by omega) (by omega),Ab (n:=(n:Int)-1) (by omega) (by omega)]
   ·simp only;rw[EV hq,zb9 hn,hx];simp only[val,Int.sub_zero];have e1:B (n+1)*r=B n*(r*65536):=by simp only[B];grind
    have e2:B (n+1)*val (a.drop (n+1))=B n*(65536*val (a.drop (n+1))):=by simp only[B];grind
    rw[e1,e2]at h7;have e3:B n*((r*65536+dg a n)/d)*d+B n*((r*65536+dg a n)%d)=B n*(r*65536)+B n*dg a n:=by
     rw[zf4,<-zd7,<-zd7]
     congr 1
     rw[zf3 _ d];omega
    rw[Int.add_mul,zd7];omega)
  (by
   rintro⟨q,r⟩ _;unfold DP;rfl) a.length (List.replicate a.length 0,0) ⟨za8 _,LB.zeros _,by simp,fun j _=>by
    unfold dg;rw[za4,zc8];split<;>rfl,by omega,by simp only;omega,by simp[Ez,val]⟩
 obtain⟨g1,g2,g3,g4,g5,g6,g7⟩:=h2;simp only[B,Int.one_mul,ze7]at g7;exact⟨q,r,h1,g2,g3,g5,g6,g7⟩
theorem SZ{a:List Int}{d:Int}(ha:LB a)(hd:1<=d/\d<=65536)(na:a.length<=10000000):
  ∃q r,Ag (fun(s:((List Int)×((List Int)×(Int×(Int×Int)))))=>EK s.1 s.2.1 s.2.2.1 s.2.2.2.1 s.2.2.2.2) (List.replicate a.length 0,(a,(d,(0,(a.length:Int)-1))))=some (q,r)/\LB q/\q.length=a.length/\0<=r/\r<d/\val q*d+r=val a:=by
 obtain⟨⟨q,r⟩,h1,h2⟩:=HH (body:=fun(s:((List Int)×((List Int)×(Int×(Int×Int)))))=>EK s.1 s.2.1 s.2.2.1 s.2.2.2.1 s.2.2.2.2)
  (st:=fun n (b:List Int×Int)=>(b.1,(a,(d,(b.2,(n:Int)-1))))) (fin:=fun b=>b)
  (I:=fun n b=>n<=a.length/\LB b.1/\b.1.length=a.length/\(∀j,j<n->dg b.1 j=0)/\0<=b.2/\b.2<d/\val b.1*d+B n*b.2=B n*val (a.drop n))
  (by
   rintro n ⟨q,r⟩ ⟨h1,h2,h3,h4,h5,h6,h7⟩;simp only at h2 h3 h4 h5 h6 h7;have hn:n<a.length:=by omega
   have hg:=za1 hn;have dx:=A3 ha n;have hx:a[n]=dg a n:=(E4 hg).symm;have hq:q[n]? =some 0:=by rw[Ai (by omega),h4 n (by omega)]
   have ht0:0<=r*65536+dg a n:=by omega
   have hdd:=Int.emod_add_mul_ediv (r*65536+dg a n) d;have m0:=Int.emod_nonneg (r*65536+dg a n) (show d≠0 by omega);have m1:=Int.emod_lt_of_pos (r*65536+dg a n) (show 0<d by omega);have q0:=Int.ediv_nonneg ht0 (show 0<=d by omega);have q1:(r*65536+dg a n)/d<65536:=by
    refine Int.ediv_lt_of_lt_mul (by omega) ?_
    have:r*65536+dg a n<d*65536:=by omega
    rw[zf3 65536 d];exact this
   refine⟨(q.set n ((r*65536+dg a n)/d),(r*65536+dg a n)%d),?_,by omega,h2.set ⟨q0,q1⟩,by simp[h3],fun j hj=>by simp only;rw[BH (by omega)];exact h4 j (by omega),m0,m1,?_⟩
   ·unfold EK AO
    dsimp only
    have hz:(d==0)=false:=beq_eq_false_iff_ne.2 (by omega);have hs:((n+1:Nat):Int)-1=(n:Int):=by omega
    have i1:AJ (n:Int) q.length=some n:=Be (by omega);rw[hs,zp (by omega),Av,hg];simp only[cond_true,za0,hz,cond_false,i1,hq,hx];rw[Ab (n:=r*65536) (by omega) (by omega),Ab (n:=r*65536+dg a n) (by omega) (by omega),zc3 ht0,zc5 ht0,Ab (n:=(r*65536+dg a n)/d) (by omega) (by omega),Ab (n:=(n:Int)-1) (by omega) (by omega)]
   ·simp only;rw[EV hq,zb9 hn,hx];simp only[val,Int.sub_zero];have e1:B (n+1)*r=B n*(r*65536):=by simp only[B];grind
    have e2:B (n+1)*val (a.drop (n+1))=B n*(65536*val (a.drop (n+1))):=by simp only[B];grind
    rw[e1,e2]at h7;have e3:B n*((r*65536+dg a n)/d)*d+B n*((r*65536+dg a n)%d)=B n*(r*65536)+B n*dg a n:=by
     rw[zf4,<-zd7,<-zd7]
     congr 1
     rw[zf3 _ d];omega
    rw[Int.add_mul,zd7];omega)
  (by
   rintro⟨q,r⟩ _;unfold EK;rfl) a.length (List.replicate a.length 0,0) ⟨za8 _,LB.zeros _,by simp,fun j _=>by
    unfold dg;rw[za4,zc8];split<;>rfl,by omega,by simp only;omega,by simp[Ez,val]⟩
 obtain⟨g1,g2,g3,g4,g5,g6,g7⟩:=h2;simp only[B,Int.one_mul,ze7]at g7;exact⟨q,r,h1,g2,g3,g5,g6,g7⟩
theorem Sn{n:Nat}{d:Int}(hd:1<=d/\d<=65536)(hn:(lim n).length<=10000000):Fz (lim n) d=some (lim (n/d.toNat),((n%d.toNat:Nat):Int)):=by
 obtain⟨q,r,h1,h2,h3,h4,h5,h6⟩:=Qs (Az n) hd hn;rw[Ao]at h6;unfold Fz;rw[GV (by unfold Ad;omega) (by unfold Ad;omega),Ab (by omega) (by omega)];simp only[za0,h1];rw[UK (by unfold Ar;omega)];simp only[za0];rw[BX h2];obtain⟨e1,e2⟩:=Ox h6 h4 h5;have hdn:d=(d.toNat:Int):=by omega
 have hv:=AR h2;have q1:(val q).toNat=n/d.toNat:=by
  have:val q=((n/d.toNat:Nat):Int):=by rw[e1,hdn];simp
  omega
 have q2:r=((n%d.toNat:Nat):Int):=by rw[e2,hdn];simp
 rw[q1,q2]
theorem Aj9{n:Nat}{d:Int}(hd:1<=d/\d<=65535)(hn:(lim n).length<=10000000):IM (lim n) d=some (lim (n/d.toNat),lim (n%d.toNat)):=by
 obtain⟨q,r,h1,h2,h3,h4,h5,h6⟩:=SZ (Az n) (show 1<=d/\d<=65536 by omega) hn;rw[Ao]at h6;unfold IM;rw[GV (by unfold Ad;omega) (by unfold Ad;omega),Ab (by omega) (by omega)];simp only[za0,h1];rw[FY (by unfold Ar;omega)];simp only[za0];rw[FY (by unfold Ar;simp)];simp only[za0];rw[BX h2,BX (LB.cons (by omega) LB.nil)];obtain⟨e1,e2⟩:=Ox h6 h4 h5;have hdn:d=(d.toNat:Int):=by omega
 have hv:=AR h2;have q1:(val q).toNat=n/d.toNat:=by
  have:val q=((n/d.toNat:Nat):Int):=by rw[e1,hdn];simp
  omega
 have q2:(val [r]).toNat=n%d.toNat:=by
  have:r=((n%d.toNat:Nat):Int):=by rw[e2,hdn];simp
  simp only[val];omega
 rw[q1,q2]
end
section
open Go
section
variable {P v1 v2 vr top u2 ur q r v U:Int} (hP:0<P) (hv1:1<=v1) (hv1':v1<65536) (hv2:0<=v2/\v2<65536) (hvr:0<=vr/\vr<P) (hu2:0<=u2/\u2<65536) (hur:0<=ur/\ur<P)
 (hv:v=(v1*65536+v2)*P+vr) (hU:U=(top*65536+u2)*P+ur) (hq:q*v1+r=top) (hq0:0<=q)
include hP hv1 hv2 hvr hu2 hur hv hU hq hq0
theorem Sg(h:q*v2>r*65536+u2):U<q*v:=by
 have h1:q*(v1*65536+v2)=(q*v1)*65536+q*v2:=by grind
 have h2:top*65536+u2+1<=q*(v1*65536+v2):=by omega
 have h3:=za9 h2 (ze1 hP);have h4:0<=q*vr:=ze8 hq0 hvr.1;have h5:q*v=q*(v1*65536+v2)*P+q*vr:=by rw[hv];grind
 rw[Int.add_mul]at h3;omega
theorem UF(hq1:q<65536)(h:q*v2<=r*65536+u2):q*v<U+v:=by
 have h1:q*(v1*65536+v2)=(q*v1)*65536+q*v2:=by grind
 have h2:q*(v1*65536+v2)<=top*65536+u2:=by omega
 have h3:=za9 h2 (ze1 hP);have h4:q*vr<=65535*P:=Int.le_trans (zb1 (ze1 hvr.2) hq0) (za9 (by omega) (ze1 hP));have h5:q*v=q*(v1*65536+v2)*P+q*vr:=by rw[hv];grind
 have h6:65536*P<=(v1*65536+v2)*P:=za9 (by omega) (ze1 hP);omega
theorem Si(hq1:q<65536)(h:65536<=r):q*v<=U:=by
 have h1:q*(v1*65536+v2)=(q*v1)*65536+q*v2:=by grind
 have h7:q*v2<=q*65535:=zb1 (by omega) hq0;have h2:q*(v1*65536+v2)+65536<=top*65536+u2:=by omega
 have h3:=za9 h2 (ze1 hP);have h4:q*vr<=65535*P:=Int.le_trans (zb1 (ze1 hvr.2) hq0) (za9 (by omega) (ze1 hP));have h5:q*v=q*(v1*65536+v2)*P+q*vr:=by rw[hv];grind
 rw[Int.add_mul]at h3;omega
end
theorem Xf{P' v1 vt top ut v U Q:Int}(hP:0<P')(hv1:1<=v1)(hvt:0<=vt)(hut:ut<P')(hv:v=v1*P'+vt)(hU:U=top*P'+ut)(hQ:Q*v<=U)(hQ0:0<=Q):Q<=top/v1:=by
 rw[Int.le_ediv_iff_mul_le (by omega)];by_cases h:Q*v1<=top
 ·exact h
 ·exfalso
  have h1:top+1<=Q*v1:=by omega
  have h2:=za9 h1 (ze1 hP);have h3:0<=Q*vt:=ze8 hQ0 hvt;have h4:Q*v=Q*v1*P'+Q*vt:=by rw[hv];grind
  rw[Int.add_mul]at h2;omega
end
section
open Go
theorem Ak8{x c:Int}(hx:x<65536)(hlo: -4294967296<=x)(hc:c=if x<0 then(-x+65536-1)/65536 else 0):
  0<=x+c*65536/\x+c*65536<65536/\0<=c/\c<=65536:=by
 subst hc
 split<;>omega
structure Off (u0 u:List Int) (j k:Nat) (c q:Int) (v:List Int):Prop where
 len:u.length=u0.length
 lb:LB u
 hi:∀i,j+k<=i->dg u i=dg u0 i
 c0:0<=c
 c1:c<=65536
 v:val u-B (j+k)*c=val u0-B j*(q*val (v.take k))
theorem Off.start{u0:List Int}(h:LB u0)(j:Nat)(q:Int)(v:List Int):Off u0 u0 j 0 0 q v:=⟨rfl,h,fun _ _=>rfl,by omega,by omega,by simp[val]⟩
theorem Off.next{u0 u:List Int}{j k:Nat}{c q:Int}{v:List Int}(h:Off u0 u j k c q v)(hv:LB v)(hq:0<=q/\q<65536)(hk:j+k<u.length){c':Int}(hc:c'=if dg u (j+k)-q*dg v k-c<0 then(-(dg u (j+k)-q*dg v k-c)+65536-1)/65536 else 0):
  Off u0 (u.set (j+k) (dg u (j+k)-q*dg v k-c+c'*65536)) j (k+1) c' q v:=by
 have du:=A3 h.lb (j+k);have dv:=A3 hv k;have m0:0<=q*dg v k:=ze8 hq.1 dv.1;have m1:q*dg v k<=65535*65535:=Int.le_trans (zb1 (show dg v k<=65535 by omega) hq.1) (za9 (show q<=65535 by omega) (by omega));have hc0:=h.c0;have hc1:=h.c1;obtain⟨s1,s2,s3,s4⟩:=Ak8 (x:=dg u (j+k)-q*dg v k-c) (by omega) (by omega) hc;refine⟨by rw[List.length_set];exact h.len,h.lb.set ⟨s1,s2⟩,fun i hi=>by rw[BH (by omega)];exact h.hi i (by omega),s3,s4,?_⟩
 rw[EV (Ai hk),AT,show j+(k+1)=j+k+1 by omega];have hv2:=h.v;have e1:B (j+k+1)*c'=B (j+k)*(c'*65536):=by simp only[B];grind
 have e2:B j*(q*(val (v.take k)+B k*dg v k))=B j*(q*val (v.take k))+B (j+k)*(q*dg v k):=by rw[MS];grind
 have e3:B (j+k)*(dg u (j+k)-q*dg v k-c+c'*65536-dg u (j+k))=B (j+k)*(c'*65536)-B (j+k)*(q*dg v k)-B (j+k)*c:=by grind
 rw[e1,e2,e3];omega
theorem AK3{u0 v out:List Int}{n by_ q:Int}{j:Nat}(hu:LB u0)(hv:LB v)(hq:0<=q/\q<65536)(hn:n=(v.length:Int))(hlen:j+v.length<u0.length)(hl:u0.length<=1000000):
  ∃u c,Ag (fun(s:((List Int)×((List Int)×((List Int)×(Int×(Int×(Int×(Int×(Int×(Int×Int))))))))))=>DN s.1 s.2.1 s.2.2.1 s.2.2.2.1 s.2.2.2.2.1 s.2.2.2.2.2.1 s.2.2.2.2.2.2.1 s.2.2.2.2.2.2.2.1 s.2.2.2.2.2.2.2.2.1 s.2.2.2.2.2.2.2.2.2) (u0,(v,(out,(n,(by_,((j:Int),(q,(0,(n,0)))))))))=
   some (u,(v,(out,(n,(by_,((j:Int),(q,c)))))))/\Off u0 u j v.length c q v:=by
 subst hn;obtain⟨⟨u,c⟩,h1,h2⟩:=Cg (body:=fun(s:((List Int)×((List Int)×((List Int)×(Int×(Int×(Int×(Int×(Int×(Int×Int))))))))))=>DN s.1 s.2.1 s.2.2.1 s.2.2.2.1 s.2.2.2.2.1 s.2.2.2.2.2.1 s.2.2.2.2.2.2.1 s.2.2.2.2.2.2.2.1 s.2.2.2.2.2.2.2.2.1 s.2.2.2.2.2.2.2.2.2)
  (st:=fun k (b:List Int×Int)=>(b.1,(v,(out,((v.length:Int),(by_,((j:Int),(q,(b.2,((v.length:Int),(k:Int))))))))))) (fin:=fun b=>(b.1,(v,(out,((v.length:Int),(by_,((j:Int),(q,b.2)))))))) (I:=fun k b=>Off u0 b.1 j k b.2 q v) (e:=v.length)
  (by
   rintro k ⟨u,c⟩ hk hI;simp only at hI;have hul:=hI.len;have hp:j+k<u.length:=by omega
   have du:=A3 hI.lb (j+k);have dv:=A3 hv k;have c0:=hI.c0;have c1:=hI.c1;have m0:0<=q*dg v k:=ze8 hq.1 dv.1;have m1:q*dg v k<=65535*65535:=Int.le_trans (zb1 (show dg v k<=65535 by omega) hq.1) (za9 (show q<=65535 by omega) (by omega));refine⟨(u.set (j+k) (dg u (j+k)-q*dg v k-c+(if dg u (j+k)-q*dg v k-c<0 then(-(dg u (j+k)-q*dg v k-c)+65536-1)/65536 else 0)*65536),if dg u (j+k)-q*dg v k-c<0 then(-(dg u (j+k)-q*dg v k-c)+65536-1)/65536 else 0),?_,hI.next hv hq hp rfl⟩
   unfold DN AO
   dsimp only
   have i1:AJ ((j:Int)+(k:Int)) u.length=some (j+k):=by rw[show(j:Int)+(k:Int)=((j+k:Nat):Int) by omega];exact Be hp
   have hw1:=BM (show k<4611686018427387904 by omega);have hjk:=Ab (n:=(j:Int)+(k:Int)) (by omega) (by omega);rw[zp (by omega),hjk];simp only[cond_true,i1,Be hk,za0,Ai hp,Ai hk];rw[Ab (n:=q*dg v k) (by omega) (by omega),Ab (n:=dg u (j+k)-q*dg v k) (by omega) (by omega),Ab (n:=dg u (j+k)-q*dg v k-c) (by omega) (by omega)];have hxb: -4294967296<=dg u (j+k)-q*dg v k-c/\dg u (j+k)-q*dg v k-c<65536:=by omega
   generalize dg u (j+k)-q*dg v k-c=x at*
   by_cases hx:x<0
   ·rw[zp hx,zw hx,Ab (n:=0-x) (by omega) (by omega),Ab (n:=0-x+65536) (by omega) (by omega),Ab (n:=0-x+65536-1) (by omega) (by omega),zc3 (by omega),show 0-x+65536-1= -x+65536-1 by omega];rw[Ab (n:=(-x+65536-1)/65536) (by omega) (by omega),Ab (n:=(-x+65536-1)/65536*65536) (by omega) (by omega),Ab (n:=x+(-x+65536-1)/65536*65536) (by omega) (by omega)];simp only[cond_true,za0,zd9,hjk,i1,Ai hp,hw1]
   ·rw[zq hx,zi hx];simp only[cond_false,za0,zd9,hjk,i1,Ai hp,hw1,Int.zero_mul,Int.add_zero])
  (by
   rintro⟨u,c⟩ _;unfold DN
   dsimp only
   rw[zq (Int.lt_irrefl _)];rfl) 0 (u0,0) (by omega) (Off.start hu j q v)
 exact⟨u,c,h1,h2⟩
structure Back (u0 u:List Int) (j k:Nat) (c:Int) (v:List Int):Prop where
 len:u.length=u0.length
 lb:∀i,i<j+v.length->0<=dg u i/\dg u i<65536
 hi:∀i,j+k<=i->dg u i=dg u0 i
 c0:0<=c
 c1:c<65536
 v:val u+B (j+k)*c=val u0+B j*val (v.take k)
theorem YB{l:List Int}{k j:Nat}{x:Int}(hk:k<l.length):dg (l.set k x) j=if j=k then x else dg l j:=by
 split
 ·rename_i h;subst h;exact E4 (by rw[List.getElem?_set_self hk])
 ·rename_i h;exact BH (fun hh=>h hh.symm)
theorem Back.next{u0 u:List Int}{j k:Nat}{c:Int}{v:List Int}(h:Back u0 u j k c v)(hv:LB v)(hkv:k<v.length)(hk:j+k<u.length):
  Back u0 (u.set (j+k) ((dg u (j+k)+dg v k+c)%65536)) j (k+1) ((dg u (j+k)+dg v k+c)/65536) v:=by
 have du:=h.lb (j+k) (by omega);have dv:=A3 hv k;have c0:=h.c0;have c1:=h.c1;refine⟨by rw[List.length_set];exact h.len,fun i hi=> ?_,fun i hi=>by rw[BH (by omega)];exact h.hi i (by omega),by omega,by omega,?_⟩
 ·rw[YB hk]
  split
  ·omega
  ·exact h.lb i hi
 ·have:=XQ (out:=u) (p:=j+k) (o:=dg u (j+k)) (d:=(dg u (j+k)+dg v k+c)%65536) (c:=c) (c':=(dg u (j+k)+dg v k+c)/65536) (t:=dg v k) (V:=val u0+B j*val (v.take k)) (Ai hk) (by omega) h.v;rw[show j+(k+1)=j+k+1 by omega,this,AT,zd7];have:B (j+k)*dg v k=B j*(B k*dg v k):=by rw[MS];grind
  omega
theorem AJ9{u0 v out:List Int}{n by_ q:Int}{j:Nat}(hu:∀i,i<j+v.length->0<=dg u0 i/\dg u0 i<65536)(hv:LB v)(hn:n=(v.length:Int))(hlen:j+v.length<u0.length)(hl:u0.length<=1000000):
  ∃u c,Ag (fun(s:((List Int)×((List Int)×((List Int)×(Int×(Int×(Int×(Int×(Int×(Int×Int))))))))))=>DO s.1 s.2.1 s.2.2.1 s.2.2.2.1 s.2.2.2.2.1 s.2.2.2.2.2.1 s.2.2.2.2.2.2.1 s.2.2.2.2.2.2.2.1 s.2.2.2.2.2.2.2.2.1 s.2.2.2.2.2.2.2.2.2) (u0,(v,(out,(n,(by_,((j:Int),(q,(0,(n,0)))))))))=
   some (u,(v,(out,(n,(by_,((j:Int),(q,c)))))))/\Back u0 u j v.length c v:=by
 subst hn;obtain⟨⟨u,c⟩,h1,h2⟩:=Cg (body:=fun(s:((List Int)×((List Int)×((List Int)×(Int×(Int×(Int×(Int×(Int×(Int×Int))))))))))=>DO s.1 s.2.1 s.2.2.1 s.2.2.2.1 s.2.2.2.2.1 s.2.2.2.2.2.1 s.2.2.2.2.2.2.1 s.2.2.2.2.2.2.2.1 s.2.2.2.2.2.2.2.2.1 s.2.2.2.2.2.2.2.2.2)
  (st:=fun k (b:List Int×Int)=>(b.1,(v,(out,((v.length:Int),(by_,((j:Int),(q,(b.2,((v.length:Int),(k:Int))))))))))) (fin:=fun b=>(b.1,(v,(out,((v.length:Int),(by_,((j:Int),(q,b.2)))))))) (I:=fun k b=>Back u0 b.1 j k b.2 v) (e:=v.length)
  (by
   rintro k ⟨u,c⟩ hk hI;simp only at hI;have hul:=hI.len;have hp:j+k<u.length:=by omega
   have du:=hI.lb (j+k) (by omega);have dv:=A3 hv k;have c0:=hI.c0;have c1:=hI.c1;refine⟨(u.set (j+k) ((dg u (j+k)+dg v k+c)%65536),(dg u (j+k)+dg v k+c)/65536),?_,hI.next hv hk hp⟩
   unfold DO AO
   dsimp only
   have i1:AJ ((j:Int)+(k:Int)) u.length=some (j+k):=by rw[show(j:Int)+(k:Int)=((j+k:Nat):Int) by omega];exact Be hp
   have hw1:=BM (show k<4611686018427387904 by omega);have hjk:=Ab (n:=(j:Int)+(k:Int)) (by omega) (by omega);rw[zp (by omega),hjk];simp only[cond_true,i1,Be hk,za0,Ai hp,Ai hk];rw[Ab (n:=dg u (j+k)+dg v k) (by omega) (by omega),Ab (n:=c+(dg u (j+k)+dg v k)) (by omega) (by omega),show c+(dg u (j+k)+dg v k)=dg u (j+k)+dg v k+c by omega,zc5 (by omega),zc3 (by omega),Ab (n:=(dg u (j+k)+dg v k+c)/65536) (by omega) (by omega),hw1])
  (by
   rintro⟨u,c⟩ _;unfold DO
   dsimp only
   rw[zq (Int.lt_irrefl _)];rfl) 0 (u0,0) (by omega) ⟨rfl,hu,fun _ _=>rfl,by simp only;omega,by simp only;omega,by simp[val]⟩
 exact⟨u,c,h1,h2⟩
structure Guess (P v1 v2 vr top u2 ur V U Q:Int):Prop where
 hP:0<P
 hv1:1<=v1
 hv1':v1<65536
 hv2:0<=v2/\v2<65536
 hvr:0<=vr/\vr<P
 hu2:0<=u2/\u2<65536
 hur:0<=ur/\ur<P
 hV:V=(v1*65536+v2)*P+vr
 hU:U=(top*65536+u2)*P+ur
 htop:0<=top/\top<4294967296
 hQ:Q*V<=U
 hQ0:0<=Q
 hQ1:Q<65536
 hV0:0<V
theorem AB8{u v out:List Int}{n by_:Int}{j m:Nat}{P v1 v2 vr top u2 ur V U Q:Int}(G:Guess P v1 v2 vr top u2 ur V U Q)(hn:n=((m+2:Nat):Int))(hm:m<=1000000)(hj:j<=1000000)
  (hv:v.length=m+2) (e1:dg v (m+1)=v1) (e2:dg v m=v2) (hu:j+m<u.length) (e3:dg u (j+m)=u2) {q0 r0:Int} (h0:q0*v1+r0=top) (hr0:0<=r0) (hq0:Q<=q0) (hq4:q0<4294967296):
  ∃q,Ag (fun(s:((List Int)×((List Int)×((List Int)×(Int×(Int×(Int×(Int×Int))))))))=>Cr s.1 s.2.1 s.2.2.1 s.2.2.2.1 s.2.2.2.2.1 s.2.2.2.2.2.1 s.2.2.2.2.2.2.1 s.2.2.2.2.2.2.2) (u,(v,(out,(n,(by_,((j:Int),(q0,r0)))))))=some (u,(v,(out,(n,(by_,((j:Int),q))))))/\Q<=q/\q<65536/\q*V<U+V:=by
 subst hn;obtain⟨r,h1,q,rfl,h2⟩:=GW (f:=fun(s:((List Int)×((List Int)×((List Int)×(Int×(Int×(Int×(Int×Int))))))))=>Cr s.1 s.2.1 s.2.2.1 s.2.2.2.1 s.2.2.2.2.1 s.2.2.2.2.2.1 s.2.2.2.2.2.2.1 s.2.2.2.2.2.2.2)
  (I:=fun s=>∃q r:Int,s=(u,(v,(out,(((m+2:Nat):Int),(by_,((j:Int),(q,r)))))))/\q*v1+r=top/\0<=r/\Q<=q/\q<4294967296)
  (R:=fun s=>∃q:Int,s=(u,(v,(out,(((m+2:Nat):Int),(by_,((j:Int),q))))))/\Q<=q/\q<65536/\q*V<U+V) (fun s=>s.2.2.2.2.2.2.1.toNat) (by
   rintro s ⟨q,r,rfl,g1,g2,g3,g4⟩;simp only;have hQ0:=G.hQ0;have hQ1:=G.hQ1;have hv1:=G.hv1;have hv1':=G.hv1';have hv2:=G.hv2;have hu2:=G.hu2;have htop:=G.htop;have hqv:0<=q*v1:=ze8 (by omega) (by omega);have hqv2:0<=q*v2:=ze8 (by omega) hv2.1;have hqv2':q*v2<=4294967296*65536:=Int.le_trans (zb1 (show v2<=65536 by omega) (by omega)) (za9 (show q<=4294967296 by omega) (by omega));have iv1:AJ (((m+2:Nat):Int)-1) v.length=some (m+1):=by rw[show((m+2:Nat):Int)-1=((m+1:Nat):Int) by omega];exact Be (by omega)
   have iv2:AJ (((m+2:Nat):Int)-2) v.length=some m:=by rw[show((m+2:Nat):Int)-2=((m:Nat):Int) by omega];exact Be (by omega)
   have iu:AJ ((j:Int)+((m+2:Nat):Int)-2) u.length=some (j+m):=by rw[show(j:Int)+((m+2:Nat):Int)-2=((j+m:Nat):Int) by omega];exact Be (by omega)
   have w1:=Ab (n:=((m+2:Nat):Int)-1) (by omega) (by omega);have w2:=Ab (n:=((m+2:Nat):Int)-2) (by omega) (by omega);have w3:=Ab (n:=(j:Int)+((m+2:Nat):Int)) (by omega) (by omega);have w4:=Ab (n:=(j:Int)+((m+2:Nat):Int)-2) (by omega) (by omega);have w5:=Ab (n:=q*v2) (by omega) (by omega);have w6:=Ab (n:=r*65536) (by omega) (by omega);have w7:=Ab (n:=r*65536+u2) (by omega) (by omega);have w8:=Ab (n:=q-1) (by omega) (by omega);have w9:=Ab (n:=r+v1) (by omega) (by omega)
   have less:∀(hgo:Q<=q-1),∃q' r':Int,(u,(v,(out,(((m+2:Nat):Int),(by_,((j:Int),(q-1,r+v1)))))))=(u,(v,(out,(((m+2:Nat):Int),(by_,((j:Int),(q',r')))))))/\q'*v1+r'=top/\0<=r'/\Q<=q'/\q'<4294967296:=by
    intro hgo;exact⟨q-1,r+v1,rfl,by rw[Int.sub_mul];omega,by omega,hgo,by omega⟩
   by_cases c1:q>=65536
   ·refine .inl ⟨(u,(v,(out,(((m+2:Nat):Int),(by_,((j:Int),(q-1,r+v1))))))),?_,less (by omega),by simp only;omega⟩
    unfold Cr AO;rw[zp c1];simp only[cond_true,za0,zd9,w1,iv1,Ai (show m+1<v.length by omega),e1,w8,w9]
   ·by_cases c2:r<65536
    ·by_cases c3:q*v2>r*65536+u2
     ·have hlt:=Sg G.hP G.hv1 G.hv2 G.hvr G.hu2 G.hur G.hV G.hU g1 (by omega) c3;have hne:Q<=q-1:=by
       rcases Int.lt_or_le (q-1) Q with h|h
       ·have:q=Q:=by omega
        subst this;have:=G.hQ;omega
       ·exact h
      refine .inl ⟨(u,(v,(out,(((m+2:Nat):Int),(by_,((j:Int),(q-1,r+v1))))))),?_,less hne,by simp only;omega⟩
      unfold Cr AO;rw[zq c1,zp c2];simp only[cond_true,cond_false,za0,w2,iv2,Ai (show m<v.length by omega),e2,w3,w4,iu,Ai hu,e3,w5,w6,w7,zp c3,zd9,w1,iv1,Ai (show m+1<v.length by omega),e1,w8,w9]
     ·refine .inr ⟨_,?_,q,rfl,g3,by omega,UF G.hP G.hv1 G.hv2 G.hvr G.hu2 G.hur G.hV G.hU g1 (by omega) (by omega) (by omega)⟩
      unfold Cr AO;rw[zq c1,zp c2];simp only[cond_true,cond_false,za0,w2,iv2,Ai (show m<v.length by omega),e2,w3,w4,iu,Ai hu,e3,w5,w6,w7,zq c3,Sum.elim_inl]
    ·have hle:=Si G.hP G.hv1 G.hv2 G.hvr G.hu2 G.hur G.hV G.hU g1 (by omega) (by omega) (by omega);have hV0:=G.hV0;refine .inr ⟨_,?_,q,rfl,g3,by omega,by omega⟩
     unfold Cr AO;rw[zq c1,zq c2];rfl) (u,(v,(out,(((m+2:Nat):Int),(by_,((j:Int),(q0,r0))))))) ⟨q0,r0,rfl,h0,hr0,hq0,hq4⟩
 exact⟨q,h1,h2⟩
end
section
open Go
theorem MO{j:Nat}{a b X Y:Int}(ha:0<=a/\a<B j)(hb:0<=b/\b<B j)(h:a+B j*X=b+B j*Y):X=Y:=by
 rcases Int.lt_trichotomy X Y with g|g|g
 ·exfalso
  have:=zb1 (show X+1<=Y by omega) (ze1 (Fv j));rw[zd7]at this;omega
 ·exact g
 ·exfalso
  have:=zb1 (show Y+1<=X by omega) (ze1 (Fv j));rw[zd7]at this;omega
theorem QA(l:List Int)(n k:Nat):dg (l.drop n) k=dg l (n+k):=by unfold dg;simp[za4,zd2]
theorem Cz(l:List Int)(k:Nat):val (l.drop k)=dg l k+65536*val (l.drop (k+1)):=by
 rcases zd3 k l.length with h|h
 ·rw[zb9 h,E4 (za1 h)];rfl
 ·rw[List.drop_eq_nil_of_le h,List.drop_eq_nil_of_le (by omega),G9 h];simp[val]
theorem Sr{l:List Int}(h:∀i,i<l.length->0<=dg l i/\dg l i<65536):LB l:=fun x hx=>by
 obtain⟨i,hi,rfl⟩:=List.getElem_of_mem hx;have:=h i hi
 rwa[E4 (za1 hi)]at this
theorem AB0{l:List Int}{k i:Nat}(h:i<k):dg (l.take k) i=dg l i:=by unfold dg;simp[za4,zb6,h]
theorem Z1{l:List Int}{k:Nat}(h:∀i,i<k->0<=dg l i/\dg l i<65536):LB (l.take k):=Sr fun i hi=>by
 rw[zc7]at hi;rw[AB0 (by omega)];exact h i (by omega)
theorem LC:∀{l:List Int},(∀i,dg l i=0)->val l=0
 |[],_=>rfl
 |x::l,h=>by
  have h0:=h 0;have h1:val l=0:=LC fun i=>h (i+1)
  simp only[val,h1];unfold dg at h0;simp at h0;omega
theorem Cl{l:List Int}(h:LB l)(k:Nat):0<=val (l.take k)/\val (l.take k)<B k:=by
 refine⟨AR (h.take k),?_⟩
 have:=Kj (h.take k);have:=IY (show(l.take k).length<=k by rw[zc7];omega);omega
theorem ZG{l:List Int}(h:LB l){n k:Nat}(hv:val l<B n)(hk:n<=k):dg l k=0/\val (l.drop k)=0:=by
 have h1:=BY l k;have h2:=AR (h.take k);have h3:=AR (h.drop k);have h4:=IY hk;have h5:val (l.drop k)=0:=by
  rcases Int.lt_or_le 0 (val (l.drop k))with g|g
  ·have:=zb1 (show 1<=val (l.drop k) by omega) (ze1 (Fv k));omega
  ·omega
 have h6:=Cz l k;have h7:=A3 h k;have h8:=AR (h.drop (k+1));exact⟨by omega,h5⟩
structure Place (u v:List Int) (j m:Nat):Prop where
 lu:LB u
 lv:LB v
 hv:v.length=m+2
 top:1<=dg v (m+1)
 len:j+m+2<u.length
 less:val (u.drop (j+1))<val v
section
variable {u v:List Int} {j m:Nat} (H:Place u v j m)
include H
theorem Place.pos:0<val v:=by
 have h1:=BY v (m+1);have h2:=AR (H.lv.take (m+1));have h3:=Cz v (m+1);have h4:=AR (H.lv.drop (m+1+1));have h5:=H.top;have h6:=zb1 (show 1<=val (v.drop (m+1)) by omega) (ze1 (Fv (m+1)));have h7:=Fv (m+1);omega
theorem Place.lt:val v<B (m+2):=by have:=Kj H.lv;rwa[H.hv]at this
theorem Place.high{k:Nat}(hk:j+m+3<=k):dg u k=0/\val (u.drop k)=0:=by
 have h1:=ZG (H.lu.drop (j+1)) (n:=m+2) (k:=k-(j+1)) (by have:=H.less;have:=H.lt;omega) (by omega);rw[QA,List.drop_drop,show j+1+(k-(j+1))=k by omega]at h1;exact h1
theorem Place.rest:0<=val (u.drop j)/\val (u.drop j)<65536*val v:=by
 refine⟨AR (H.lu.drop j),?_⟩
 have h1:=Cz u j;have h2:=A3 H.lu j;have h3:=H.less;omega
theorem Place.quot:0<=val (u.drop j)/val v/\val (u.drop j)/val v<65536:=by
 obtain⟨h1,h2⟩:=H.rest;have h3:=H.pos;exact⟨Int.ediv_nonneg h1 (by omega),Int.ediv_lt_of_lt_mul h3 h2⟩
theorem Place.mod:0<=val (u.drop j)-val (u.drop j)/val v*val v/\val (u.drop j)-val (u.drop j)/val v*val v<val v:=by
 have h1:=Int.emod_add_mul_ediv (val (u.drop j)) (val v);have h2:=Int.emod_nonneg (val (u.drop j)) (show val v≠0 by have:=H.pos;omega);have h3:=Int.emod_lt_of_pos (val (u.drop j)) H.pos;rw[zf3]at h1;omega
theorem Place.guess:Guess (B m) (dg v (m+1)) (dg v m) (val (v.take m)) (dg u (j+m+2)*65536+dg u (j+m+1)) (dg u (j+m)) (val ((u.drop j).take m)) (val v) (val (u.drop j)) (val (u.drop j)/val v):=by
 have d1:=A3 H.lu (j+m+1);have d2:=A3 H.lu (j+m+2);have hm:=H.mod;have hq:=H.quot;refine⟨Fv m,H.top,(A3 H.lv _).2,A3 H.lv _,Cl H.lv m,A3 H.lu _,Cl (H.lu.drop j) m,?_,?_,by omega,by omega,hq.1,hq.2,H.pos⟩
 ·rw[BY v m,Cz v m,Cz v (m+1),List.drop_eq_nil_of_le (show v.length<=m+1+1 by rw[H.hv];omega)];simp only[val]
  grind
 ·rw[BY (u.drop j) m,List.drop_drop,Cz u (j+m),Cz u (j+m+1),Cz u (j+m+1+1),(H.high (k:=j+m+1+1+1) (by omega)).2,show j+m+1+1=j+m+2 by omega]
  grind
theorem Place.after{u4:List Int}(hl:u4.length=u.length)(hg:∀i,i<j+m+2->0<=dg u4 i/\dg u4 i<65536)(hh:∀i,j+m+2<i->dg u4 i=dg u i){x:Int}(hv:val u4=val u-B j*(x*val v)):
  val (u4.drop j)=val (u.drop j)-x*val v/\∃X,0<=X/\X<B (m+2)/\val (u.drop j)-x*val v=X+B (m+2)*dg u4 (j+m+2):=by
 have e1:val (u4.drop j)=val (u.drop j)-x*val v:=by
  have h1:=BY u4 j;have h2:=BY u j;have h3:=Cl H.lu j;have h4:LB (u4.take j):=Z1 fun i hi=>hg i (by omega)
  have h5:=Cl h4 j;rw[List.take_take,Nat.min_self]at h5;refine MO (j:=j) h5 h3 ?_
  rw[Int.mul_sub];omega
 refine⟨e1,val ((u4.drop j).take (m+2)),?_⟩
 have h4:LB ((u4.drop j).take (m+2)):=Z1 fun i hi=>by rw[QA];exact hg _ (by omega)
 have h5:=Cl h4 (m+2);rw[List.take_take,Nat.min_self]at h5;refine⟨h5.1,h5.2,?_⟩
 rw[<-e1,BY (u4.drop j) (m+2),List.drop_drop,Cz u4 (j+(m+2)),LC (l:=u4.drop (j+(m+2)+1)) fun i=>by rw[QA,hh _ (by omega)];exact(H.high (by omega)).1];rw[show j+(m+2)=j+m+2 by omega,Int.mul_zero,Int.add_zero]
theorem Place.done{u4:List Int}(hl:u4.length=u.length)(hg:∀i,i<j+m+2->0<=dg u4 i/\dg u4 i<65536)(hh:∀i,j+m+2<i->dg u4 i=dg u i){x:Int}(hv:val u4=val u-B j*(x*val v))
  (hx:0<=val (u.drop j)-x*val v/\val (u.drop j)-x*val v<val v):dg u4 (j+m+2)=0/\LB u4/\val (u4.drop j)<val v:=by
 obtain⟨h1,X,h2,h3,h4⟩:=H.after hl hg hh hv;have h0:dg u4 (j+m+2)=0:=by
  have:=H.lt;exact(MO (j:=m+2) (a:=val (u.drop j)-x*val v) (b:=X) (X:=0) (by omega) (by omega) (by rw[h4];simp)).symm
 refine⟨h0,Sr fun i hi=> ?_,by omega⟩
 rcases Nat.lt_trichotomy i (j+m+2)with g|g|g
 ·exact hg i g
 ·rw[g,h0];omega
 ·rw[hh i g];exact A3 H.lu i
theorem Place.one{q:Int}(h1:val (u.drop j)/val v<=q)(h2:q*val v<val (u.drop j)+val v):q=val (u.drop j)/val v\/q=val (u.drop j)/val v+1:=by
 have hm:=H.mod;have hp:=H.pos;rcases Int.lt_or_le (val (u.drop j)/val v+1) q with g|g
 ·exfalso
  have:=za9 (show val (u.drop j)/val v+2<=q by omega) (ze1 hp);rw[Int.add_mul]at this;omega
 ·omega
end
end
section
open Go
theorem Place.start{u v:List Int}{j m:Nat}(H:Place u v j m):val (u.drop j)/val v<=(dg u (j+m+2)*65536+dg u (j+m+1))/dg v (m+1):=by
 have G:=H.guess;have hu2:=G.hu2;have hur:=G.hur;have hP:=G.hP;have hv2:=G.hv2;have hvr:=G.hvr;have h1:dg u (j+m)*B m<=65535*B m:=za9 (by omega) (by omega);have h2:0<=dg v m*B m:=ze8 hv2.1 (by omega);exact Xf (P':=65536*B m) (vt:=dg v m*B m+val (v.take m)) (ut:=dg u (j+m)*B m+val ((u.drop j).take m)) (v:=val v) (U:=val (u.drop j)) (by omega) G.hv1 (by omega) (by omega) (by rw[G.hV];grind) (by rw[G.hU];grind) G.hQ G.hQ0
set_option maxHeartbeats 1000000 in
theorem AC0 {u v out : List Int} {by_ : Int} {j m : Nat} (H : Place u v j m) (hl : u.length <= 1000000) (hj : j < out.length) :
  ∃ u', Cq u v out ((m + 2 : Nat) : Int) by_ (j : Int) = some (.inl (u', (v, (out.set j (val (u.drop j) / val v), (((m + 2 : Nat) : Int), (by_, (j : Int) - 1)))))) /\
   u'.length = u.length /\ LB u' /\ val u' = val u - B j * (val (u.drop j) / val v * val v) /\ val (u'.drop j) < val v := by
 have hlen := H.len;have hvl := H.hv;have d1 := A3 H.lu (j + m + 1);have d2 := A3 H.lu (j + m + 2);have dv := A3 H.lv (m + 1);have htop := H.top;have G := H.guess;have hQ := H.quot;have hmod := H.mod;have hst := H.start;have hk : ∀ l : List Int, l.length = u.length -> AJ (zj zk ((j : Int) + ((m + 2 : Nat) : Int))) l.length = some (j + m + 2) := fun l h => by
  rw [h, Ab (by omega) (by omega), show (j : Int) + ((m + 2 : Nat) : Int) = ((j + m + 2 : Nat) : Int) by omega];exact Be (by omega)
 have hk1 : AJ (zj zk (zj zk ((j : Int) + ((m + 2 : Nat) : Int)) - 1)) u.length = some (j + m + 1) := by
  rw [Ab (n := (j : Int) + ((m + 2 : Nat) : Int)) (by omega) (by omega), Ab (by omega) (by omega), show (j : Int) + ((m + 2 : Nat) : Int) - 1 = ((j + m + 1 : Nat) : Int) by omega];exact Be (by omega)
 have hk2 : AJ (zj zk (((m + 2 : Nat) : Int) - 1)) v.length = some (m + 1) := by
  rw [Ab (by omega) (by omega), show ((m + 2 : Nat) : Int) - 1 = ((m + 1 : Nat) : Int) by omega];exact Be (by omega)
 have hj0 : ∀ l : List Int, l.length = out.length -> AJ (j : Int) l.length = some j := fun l h => by rw [h]; exact Be hj
 have hge : decide ((j : Int) >= 0) = true := zp (by omega);have hz : (dg v (m + 1) == 0) = false := beq_eq_false_iff_ne.2 (by omega);have w1 := Ab (n := dg u (j + m + 2) * 65536) (by omega) (by omega);have w2 := Ab (n := dg u (j + m + 2) * 65536 + dg u (j + m + 1)) (by omega) (by omega);have htop0 : 0 <= dg u (j + m + 2) * 65536 + dg u (j + m + 1) := by omega
 have e1 := Int.emod_add_mul_ediv (dg u (j + m + 2) * 65536 + dg u (j + m + 1)) (dg v (m + 1));have e2 := Int.emod_nonneg (dg u (j + m + 2) * 65536 + dg u (j + m + 1)) (show dg v (m + 1) ≠ 0 by omega);have e3 : (dg u (j + m + 2) * 65536 + dg u (j + m + 1)) / dg v (m + 1) <= dg u (j + m + 2) * 65536 + dg u (j + m + 1) := Int.ediv_le_self _ htop0;have w3 := Ab (n := (dg u (j + m + 2) * 65536 + dg u (j + m + 1)) / dg v (m + 1)) (by omega) (by omega)
 obtain ⟨q, hg1, hg2, hg3, hg4⟩ := AB8 (out := out) (by_ := by_) (u := u) (v := v) (j := j) (m := m) G rfl (by omega) (by omega) hvl rfl rfl (by omega) rfl (q0 := (dg u (j + m + 2) * 65536 + dg u (j + m + 1)) / dg v (m + 1)) (r0 := (dg u (j + m + 2) * 65536 + dg u (j + m + 1)) % dg v (m + 1)) (by rw [zf3]; omega) e2 hst (by omega);obtain ⟨u1, c, ht1, O⟩ := AK3 (out := out) (by_ := by_) (n := ((m + 2 : Nat) : Int)) (j := j) H.lu H.lv (q := q) ⟨by omega, hg3⟩ (by rw [hvl]) (by omega) hl;have ol := O.len;have oc0 := O.c0;have oc1 := O.c1
 have ohi : dg u1 (j + m + 2) = dg u (j + m + 2) := O.hi _ (by omega);have ov := O.v;rw [zc0 (za8 _), hvl, show j + (m + 2) = j + m + 2 by omega] at ov;have gu1 : AO u1 (j + m + 2) = some (dg u (j + m + 2)) := by unfold AO; rw [Ai (by omega), ohi]
 have w4 := Ab (n := dg u (j + m + 2) - c) (by omega) (by omega);have w5 := Ab (n := (j : Int) - 1) (by omega) (by omega);have hset : val (u1.set (j + m + 2) (dg u (j + m + 2) - c)) = val u - B j * (q * val v) := by
  rw [EV (Ai (show j + m + 2 < u1.length by omega)), ohi, show dg u (j + m + 2) - c - dg u (j + m + 2) = -c by omega, Int.mul_neg];omega
 have hsl : (u1.set (j + m + 2) (dg u (j + m + 2) - c)).length = u.length := by rw [List.length_set]; exact ol
 have hsg : ∀ i, i < j + m + 2 -> 0 <= dg (u1.set (j + m + 2) (dg u (j + m + 2) - c)) i /\ dg (u1.set (j + m + 2) (dg u (j + m + 2) - c)) i < 65536 := fun i hi => by rw [BH (by omega)]; exact A3 O.lb i
 have hsh : ∀ i, j + m + 2 < i -> dg (u1.set (j + m + 2) (dg u (j + m + 2) - c)) i = dg u i := fun i hi => by rw [BH (by omega)]; exact O.hi i (by omega)
 have hsd : dg (u1.set (j + m + 2) (dg u (j + m + 2) - c)) (j + m + 2) = dg u (j + m + 2) - c := by rw [YB (by omega), zw rfl]
 have gs : AO (u1.set (j + m + 2) (dg u (j + m + 2) - c)) (j + m + 2) = some (dg u (j + m + 2) - c) := by unfold AO; rw [Ai (by omega), hsd]
 have gout : AO out j = some (dg out j) := Ai hj;have gu0 : AO u (j + m + 2) = some (dg u (j + m + 2)) := Ai (by omega);have gu00 : AO u (j + m + 1) = some (dg u (j + m + 1)) := Ai (by omega);have gv0 : AO v (m + 1) = some (dg v (m + 1)) := Ai (by omega);rcases H.one hg2 hg4 with hq | hq
 ·obtain ⟨f1, f2, f3⟩ := H.done hsl hsg hsh hset (by rw [hq]; exact hmod);rw [hsd] at f1;rw [f1] at hset hsl hsg hsh hsd gs w4 f2 f3;refine ⟨_, ?_, hsl, f2, by rw [hset, hq], f3⟩
  unfold Cq;rw [hge];simp only [cond_true, cond_false, za0, hk u rfl, gu0, hk1, gu00, hk2, gv0, hz, w1, w2, zc3 htop0, zc5 htop0, w3];rw [hg1];simp only [za0];rw [ht1];simp only [za0, hk u1 ol, gu1, f1, w4, hk _ hsl, gs, show decide ((0 : Int) < 0) = false from rfl, cond_false, hj0 out rfl, gout, w5, hq]
 ·obtain ⟨f1, X, f2, f3, f4⟩ := H.after hsl hsg hsh hset;rw [hsd] at f4;have hneg : dg u (j + m + 2) - c = -1 := by
   have hlt := H.lt;have hqv : q * val v = val (u.drop j) / val v * val v + val v := by rw [hq, Int.add_mul, Int.one_mul]
   have := MO (j := m + 2) (a := val (u.drop j) - q * val v + B (m + 2)) (b := X) (X := -1) (Y := dg u (j + m + 2) - c) (by omega) (by omega) (by rw [f4, Int.mul_neg, Int.mul_one]; omega);exact this.symm
  rw [hneg] at hset hsl hsg hsh hsd gs w4;obtain ⟨u3, c3, hb1, K⟩ := AJ9 (out := out) (by_ := by_) (n := ((m + 2 : Nat) : Int)) (q := val (u.drop j) / val v) (u0 := u1.set (j + m + 2) (-1)) (v := v) (j := j) (by rw [hvl]; exact hsg) H.lv (by rw [hvl]) (by omega) (by omega);have kl : u3.length = u.length := K.len.trans hsl;have kc0 := K.c0;have kc1 := K.c1;have khi : dg u3 (j + m + 2) = -1 := by rw [K.hi _ (by omega), hsd]
  have kv := K.v;rw [zc0 (za8 _), hvl, show j + (m + 2) = j + m + 2 by omega, hset] at kv;have hset' : val (u3.set (j + m + 2) (-1 + c3)) = val u - B j * (val (u.drop j) / val v * val v) := by
   rw [EV (Ai (show j + m + 2 < u3.length by omega)), khi, show -1 + c3 - -1 = c3 by omega];have : B j * (q * val v) = B j * (val (u.drop j) / val v * val v) + B j * val v := by rw [hq, Int.add_mul, Int.one_mul, zd7]
   omega
  obtain ⟨f1, f2, f3⟩ := H.done (u4 := u3.set (j + m + 2) (-1 + c3)) (by rw [List.length_set]; exact kl) (fun i hi => by rw [BH (by omega)]; exact K.lb i (by omega)) (fun i hi => by rw [BH (by omega), K.hi i (by omega)]; exact hsh i hi) hset' hmod;refine ⟨_, ?_, by rw [List.length_set]; exact kl, f2, hset', f3⟩
  have gu3 : AO u3 (j + m + 2) = some (-1) := by unfold AO; rw [Ai (by omega), khi]
  have w6 := Ab (n := -1 + c3) (by omega) (by omega);have w7 : zj zk (q - 1) = val (u.drop j) / val v := by rw [Ab (by omega) (by omega)]; omega
  unfold Cq;rw [hge];simp only [cond_true, cond_false, za0, hk u rfl, gu0, hk1, gu00, hk2, gv0, hz, w1, w2, zc3 htop0, zc5 htop0, w3];rw [hg1];simp only [za0];rw [ht1];simp only [za0, hk u1 ol, gu1, hneg, w4, hk _ hsl, gs, show decide ((-1 : Int) < 0) = true from rfl, cond_true, w7];rw [hb1];simp only [za0, hk u3 kl, gu3, hj0 out rfl, gout, w5, w6]
end
section
open Go
structure Places (u0 v:List Int) (m n:Nat) (u out:List Int):Prop where
 len:u.length=u0.length
 lu:LB u
 le:n+(m+2)<=u0.length
 less:val (u.drop n)<val v
 lo:LB out
 olen:out.length+(m+2)=u0.length
 zero:∀i,i<n->dg out i=0
 v:val u+val v*val out=val u0
theorem Places.place{u0 v u out:List Int}{m n:Nat}(h:Places u0 v m (n+1) u out)(hv:LB v)(hvl:v.length=m+2)(ht:1<=dg v (m+1)):Place u v n m:=
 ⟨h.lu,hv,hvl,ht,by have:=h.le;have:=h.len;omega,h.less⟩
theorem Places.next{u0 v u out u':List Int}{m n:Nat}(h:Places u0 v m (n+1) u out)(H:Place u v n m)(h1:u'.length=u.length)(h2:LB u')(h3:val u'=val u-B n*(val (u.drop n)/val v*val v))(h4:val (u'.drop n)<val v):
  Places u0 v m n u' (out.set n (val (u.drop n)/val v)):=by
 have hle:=h.le;have hol:=h.olen;refine⟨h1.trans h.len,h2,by omega,h4,h.lo.set H.quot,by rw[List.length_set];exact hol,fun i hi=>by rw[BH (by omega)];exact h.zero i (by omega),?_⟩
 have hz:=h.zero n (by omega);rw[EV (Ai (show n<out.length by omega)),hz,h3,Int.sub_zero,zd7];have:=h.v;have e:val v*(B n*(val (u.drop n)/val v))=B n*(val (u.drop n)/val v*val v):=by grind
 omega
theorem Ar0{u0 v:List Int}{m:Nat}{by_:Int}(hv:LB v)(hvl:v.length=m+2)(ht:1<=dg v (m+1))(hl:u0.length<=1000000){n:Nat}{out:List Int}(h:Places u0 v m n u0 out):
  ∃u out',Ag (fun(s:((List Int)×((List Int)×((List Int)×(Int×(Int×Int))))))=>Cq s.1 s.2.1 s.2.2.1 s.2.2.2.1 s.2.2.2.2.1 s.2.2.2.2.2) (u0,(v,(out,(((m+2:Nat):Int),(by_,(n:Int)-1)))))=some (u,(out',(((m+2:Nat):Int),by_)))/\Places u0 v m 0 u out':=by
 obtain⟨⟨u,out'⟩,h1,h2⟩:=HH (body:=fun(s:((List Int)×((List Int)×((List Int)×(Int×(Int×Int))))))=>Cq s.1 s.2.1 s.2.2.1 s.2.2.2.1 s.2.2.2.2.1 s.2.2.2.2.2)
  (st:=fun n (b:List Int×List Int)=>(b.1,(v,(b.2,(((m+2:Nat):Int),(by_,(n:Int)-1)))))) (fin:=fun b=>(b.1,(b.2,(((m+2:Nat):Int),by_)))) (I:=fun n b=>Places u0 v m n b.1 b.2)
  (by
   rintro n ⟨u,out⟩ hI;simp only at hI;have H:=hI.place hv hvl ht;have hle:=hI.le;have hol:=hI.olen;have hul:=hI.len;obtain⟨u',g1,g2,g3,g4,g5⟩:=AC0 (out:=out) (by_:=by_) H (by omega) (by omega);refine⟨(u',out.set n (val (u.drop n)/val v)),?_,hI.next H g2 g3 g4 g5⟩
   simp only;rw[show((n+1:Nat):Int)-1=(n:Int) by omega,g1])
  (by
   rintro⟨u,out⟩ _;unfold Cq
   dsimp only
   rw[zq (by omega)];rfl) n (u0,out) h
 exact⟨u,out',h1,h2⟩
theorem Places.start{u0 v:List Int}{m n:Nat}(hu:LB u0)(hv:LB v)(hvl:v.length=m+2)(ht:1<=dg v (m+1))(hn:u0.length=n+(m+2))(h0:dg u0 (n+(m+1))=0):Places u0 v m n u0 (List.replicate n 0):=by
 refine⟨rfl,hu,by omega,?_,LB.zeros n,by simp;omega,fun i hi=>by unfold dg;rw[za4,zc8];split<;>rfl,by rw[Ez];omega⟩
 have h1:=BY (u0.drop n) (m+1);have h2:=Cl (hu.drop n) (m+1);rw[List.drop_drop,Cz u0 (n+(m+1)),h0,List.drop_eq_nil_of_le (show u0.length<=n+(m+1)+1 by omega)]at h1;simp only[val]at h1;have h3:=BY v (m+1);have h4:=AR (hv.take (m+1));have h5:=Cz v (m+1);have h6:=AR (hv.drop (m+1+1));have h7:=zb1 (show 1<=val (v.drop (m+1)) by omega) (ze1 (Fv (m+1)));omega
theorem Places.end{u0 v u out:List Int}{m:Nat}(h:Places u0 v m 0 u out)(hv:LB v):val out=val u0/val v/\val u=val u0%val v:=by
 have h1:=h.less;rw[ze7]at h1;exact Ox (by rw[zf3];have:=h.v;omega) (AR h.lu) h1
theorem QI{n:Nat}(h:n≠0):1<=dg (lim n) ((lim n).length-1)/\dg (lim n) ((lim n).length-1)<65536/\B ((lim n).length-1)*dg (lim n) ((lim n).length-1)<=n/\(n:Int)<B ((lim n).length-1)*(dg (lim n) ((lim n).length-1)+1):=by
 have hne:(lim n).length≠0:=fun hh=>h (Hw.1 (zb3 hh))
 have h1:=BY (lim n) ((lim n).length-1);have h2:=Cl (Az n) ((lim n).length-1);rw[Cz,List.drop_eq_nil_of_le (show(lim n).length<=(lim n).length-1+1 by omega),Ao]at h1;simp only[val,Int.mul_zero,Int.add_zero]at h1;have h3:=A3 (Az n) ((lim n).length-1);refine⟨?_,h3.2,by omega,by rw[zd7];omega⟩
 rcases Int.lt_or_le 0 (dg (lim n) ((lim n).length-1))with g|g
 ·omega
 ·exfalso
  have g0:dg (lim n) ((lim n).length-1)=0:=by omega
  refine OR n _ (List.getLast?_eq_getElem? .. ▸Ai (show(lim n).length-1<(lim n).length by omega)) g0
end
section
open Go
theorem J4{l:List Int}{n:Int}{i:Nat}(hn:n=(i:Int))(h:i<l.length):AI l n=some (dg l i):=by rw[hn,Av];exact Ai h
theorem Ak7{n m:Int}{a b k:Nat}(hn:n=(a:Int))(hm:m=(b:Int))(h1:a<=b)(h2:b<=k):KC n m k=some (a,b):=by
 subst hn hm;unfold KC;simp[h1,h2]
theorem Z2{b:Nat}(h:(lim b).length=1):(lim b)=[(b:Int)]/\b<65536/\b≠0:=by
 match hl:lim b with
 |[]=>rw[hl]at h;simp at h
 |[x]=>
  have hv:=Ao b;have hb:=Az b;rw[hl]at hv hb;have h0:=hb.head;simp only[val]at hv;have:b≠0:=fun h0=>by rw[h0,BF]at hl;simp at hl
  exact⟨by congr 1;omega,by omega,this⟩
 |x::y::l=>rw[hl]at h;simp at h
theorem R3{a b c:Nat}(hc:0<c):a*c/(b*c)=a/b/\a*c%(b*c)=a%b*c:=⟨Nat.mul_div_mul_right _ _ hc,Nat.mul_mod_mul_right _ _ _⟩
theorem AQ2{t by_:Int}(h1:1<=t)(h2:t<65536)(hb:by_=65536/(t+1)):1<=by_/\by_<=32768/\by_*(t+1)<=65536:=by
 have e1:=Int.emod_add_mul_ediv 65536 (t+1);have e2:=Int.emod_nonneg 65536 (show t+1≠0 by omega);have e3:=Int.emod_lt_of_pos 65536 (show 0<t+1 by omega);rw[<-hb]at e1;have e4:1<=by_:=by
  rw[hb];exact(Int.le_ediv_iff_mul_le (by omega)).2 (by omega)
 have e5:by_*2<=by_*(t+1):=zb1 (by omega) (by omega);rw[zf3]at e1;exact⟨e4,by omega,by omega⟩
set_option maxHeartbeats 1000000 in
theorem Sm {a b : Nat} (hb0 : b ≠ 0) (ha : (lim a).length <= 90000) (hb : (lim b).length <= 90000) : Fy (lim a) (lim b) = some (lim (a / b), lim (a % b)) := by
 unfold Fy;rw [H9 (by unfold Ar; omega) (by unfold Ar; omega)];simp only [za0];by_cases hab : a < b
 ·rw [FM (by omega)];simp only [show decide ((-1 : Int) < 0) = true from rfl, cond_true];rw [Nat.div_eq_of_lt hab, Nat.mod_eq_of_lt hab, BF]
 have hc : decide (CR (a : Int) b < 0) = false := by
  rcases Db (a : Int) b with ⟨h, g⟩ | ⟨h, _⟩ | ⟨h, _⟩
  ·omega
  ·rw [h]; rfl
  ·rw [h]; rfl
 simp only [hc, cond_false];have hbl : (lim b).length ≠ 0 := fun h => hb0 (Hw.1 (zb3 h))
 by_cases h1 : (lim b).length = 1
 ·obtain ⟨e1, e2, e3⟩ := Z2 h1;rw [e1];simp only [List.length_singleton, show (((1 : Nat) : Int) == 1) = true from rfl, cond_true];rw [show AI [(b : Int)] 0 = some (b : Int) from rfl];simp only [za0];rw [Sn (by omega) (by omega)];simp only [za0, zc4];rw [UK (by unfold Ar; simp)];have hm := Nat.mod_lt a (show b > 0 by omega);simp only [za0, BX (LB.cons (show (0 : Int) <= ((a % b : Nat) : Int) /\ ((a % b : Nat) : Int) < 65536 by omega) LB.nil), val]
  congr 3
 have hn1 : ((((lim b).length : Nat) : Int) == 1) = false := beq_eq_false_iff_ne.2 (by omega);obtain ⟨m, hm⟩ : ∃ m, (lim b).length = m + 2 := ⟨(lim b).length - 2, by omega⟩;obtain ⟨t1, t2, t3, t4⟩ := QI hb0;rw [hm, show m + 2 - 1 = m + 1 by omega] at t1 t2 t3 t4;have hg := J4 (l := lim b) (n := zj zk (((lim b).length : Int) - 1)) (i := m + 1) (by rw [Ab (by omega) (by omega)]; omega) (by omega);generalize ht : dg (lim b) (m + 1) = t at *
 have wt : zj zk (t + 1) = t + 1 := Ab (by omega) (by omega);have hz : (t + 1 == 0) = false := beq_eq_false_iff_ne.2 (by omega);obtain ⟨s1, s2, s3⟩ := AQ2 t1 t2 rfl;have hby : zj zk (Int.tdiv 65536 (t + 1)) = 65536 / (t + 1) := by rw [zc3 (by omega)]; exact Ab (by omega) (by omega)
 generalize hby2 : 65536 / (t + 1) = by_ at *
 obtain ⟨c, rfl⟩ : ∃ c : Nat, by_ = (c : Int) := ⟨by_.toNat, by omega⟩;have hb40 : (lim a).length <= 90000 := ha;have hBa : (a : Int) < B (lim a).length := Al.1 (za8 _);have hBb : (b : Int) < B (lim b).length := Al.1 (za8 _);have hB1 : B 1 = 65536 := rfl;have fitc : ∀ k, 1 <= k -> (((c : Int)).natAbs : Int) < B k := fun k hk => by
  have := IY hk;omega
 have hk1 : 1 <= (lim a).length := by
  rcases Nat.eq_zero_or_pos (lim a).length with h | h
  ·have := Hw.1 (zb3 h); omega
  ·exact h
 obtain ⟨ra, hra, era⟩ := Ew (x := (a : Int)) (y := (c : Int)) (k := (lim a).length) (by omega) (by rw [ze9]; exact hBa) (fitc _ hk1);obtain ⟨rb, hrb, erb⟩ := Ew (x := (b : Int)) (y := (c : Int)) (k := (lim b).length) (by omega) (by rw [ze9]; exact hBb) (fitc _ (by omega));have bn : ∀ n : Nat, big (n : Int) = (false, lim n) := fun n => by unfold big; rw [zq (by omega), ze9]
 have ra1 : ra.1 = lim (a * c) := by rw [show (a : Int) * c = ((a * c : Nat) : Int) by simp, bn] at era; exact (Prod.ext_iff.1 era).2
 have rb1 : rb.1 = lim (b * c) := by rw [show (b : Int) * c = ((b * c : Nat) : Int) by simp, bn] at erb; exact (Prod.ext_iff.1 erb).2
 rw [bn, bn] at hra hrb;have mkb : ∀ n : Nat, (lim n).length <= 90000 -> A8 false (lim n) = some (lim n, false) := fun n hn => by
  rw [Gz (Az n) (by unfold Ar; omega), Ao]; simp
 simp only [hn1, cond_false, hg, za0, wt, hz, hby, mkb a ha, mkb b hb, NC (n := (c : Int)) (by omega) (by omega), bn, hra, hrb, ra1, rb1];have hc0 : 0 < c := by omega
 have la : (lim a).length <= (lim (a * c)).length := by
  rw [Al];have h1 : ((a * c : Nat) : Int) < B (lim (a * c)).length := Al.1 (za8 _);have : a * 1 <= a * c := Nat.mul_le_mul_left _ (by omega);omega
 have la2 : (lim (a * c)).length <= (lim a).length + 1 := by
  rw [Al];rw [show ((a * c : Nat) : Int) = (a : Int) * c by simp];have e1 : (a : Int) * c <= a * 65536 := zb1 (by omega) (by omega);simp only [B];omega
 have lb : (lim (b * c)).length = m + 2 := by
  apply Nat.le_antisymm
  ·rw [Al];rw [show ((b * c : Nat) : Int) = (b : Int) * c by simp];have e1 : (b : Int) * c < B (m + 1) * (t + 1) * c := Int.mul_lt_mul_of_pos_right t4 (by omega);have e2 : B (m + 1) * ((c : Int) * (t + 1)) <= B (m + 1) * 65536 := zb1 s3 (ze1 (Fv _));have e3 : B (m + 1) * (t + 1) * c = B (m + 1) * ((c : Int) * (t + 1)) := by rw [zf4, zf3 (t + 1)]
   have e4 : B (m + 2) = B (m + 1) * 65536 := by simp only [B]; omega
   omega
  ·rw [<- hm, Al];have h1 : ((b * c : Nat) : Int) < B (lim (b * c)).length := Al.1 (za8 _);have : b * 1 <= b * c := Nat.mul_le_mul_left _ (by omega);omega
 have happ : D8 8 1 (lim (a * c)) [0] = some (lim (a * c) ++ [0]) := Tt (by omega);have hle : (lim b).length <= (lim a).length := by
  rw [Al]; omega
 simp only [happ, za0];rw [AE (r := (lim (a * c) ++ [0], (lim (b * c), (((lim b).length : Int), (c : Int))))) (by
  unfold KD
  dsimp only
  rw [Ab (by omega) (by omega), zq (by simp; omega)];rfl)]
 simp only [za0];have hlu : (lim (a * c) ++ [(0 : Int)]).length = ((lim (a * c)).length - (m + 1)) + (m + 2) := by simp; omega
 have wl : zj zk (((lim (a * c) ++ [(0 : Int)]).length : Int) - ((lim b).length : Int)) = (((lim (a * c)).length - (m + 1) : Nat) : Int) := by
  rw [Ab (by omega) (by omega)]; omega
 generalize hn : (lim (a * c)).length - (m + 1) = n at *
 rw [wl, GV (by unfold Ad; omega) (by unfold Ad; omega)];simp only [za0];have hval0 : val (lim (a * c) ++ [(0 : Int)]) = ((a * c : Nat) : Int) := by rw [JO, Ao]; omega
 have hlb0 : LB (lim (a * c) ++ [(0 : Int)]) := (Az _).append (LB.cons (by omega) LB.nil);have hbc0 : b * c ≠ 0 := Nat.mul_ne_zero hb0 (by omega);have htop := (QI hbc0).1;rw [lb, show m + 2 - 1 = m + 1 by omega] at htop;obtain ⟨u, out, hp, P⟩ := Ar0 (by_ := (c : Int)) (Az (b * c)) lb htop (by omega) (Places.start hlb0 (Az _) lb htop hlu (by
  unfold dg;rw [za4, List.getElem?_append_right (by omega), show n + (m + 1) - (lim (a * c)).length = 0 by omega];rfl))
 rw [show ((lim b).length : Int) = ((m + 2 : Nat) : Int) by omega, Ab (by omega) (by omega), hp];simp only [za0];obtain ⟨p1, p2⟩ := P.end (Az _);rw [hval0, Ao] at p1 p2;obtain ⟨q1, q2⟩ := R3 (a := a) (b := b) hc0;have p1' : val out = ((a / b : Nat) : Int) := by rw [p1, <- q1]; simp
 have p2' : val u = ((a % b * c : Nat) : Int) := by rw [p2, <- q2]; simp
 have hul := P.len;have hol := P.olen;rw [Ak7 (a := 0) (b := m + 2) (by rfl) rfl (by omega) (by omega)];simp only [za0, ze7, Nat.sub_zero, ze6];have hless := P.less;rw [ze7, Ao] at hless;have hbc : ((b * c : Nat) : Int) < B (m + 2) := by rw [<- lb]; exact Al.1 (za8 _)
 have hvt : val (u.take (m + 2)) = val u := by
  have h1 := BY u (m + 2);have h2 := (ZG P.lu (n := m + 2) (k := m + 2) (by omega) (za8 _)).2;rw [h2] at h1;omega
 rw [UK (by unfold Ar; rw [zc7]; omega)];simp only [za0];rw [BX (P.lu.take _), hvt, p2', zc4, Sn (by omega) (by
  have : (lim (a % b * c)).length <= m + 2 := by
   rw [Al];have := Nat.mul_lt_mul_of_pos_right (Nat.mod_lt a (show b > 0 by omega)) hc0;omega
  omega)]
 simp only [za0];rw [UK (by unfold Ar; omega)];simp only [za0];rw [BX P.lo, p1', zc4, zc4, Nat.mul_div_cancel _ hc0]
end
section
open Go
theorem WY(v:List Int)(k:Nat):dg (v++[0]) k=dg v k:=by
 unfold dg;simp only[za4];rcases zd3 k v.length with h|h
 ·rw[zd6 h]
 ·rw[List.getElem?_append_right h,List.getElem?_eq_none h];rcases Nat.eq_zero_or_pos (k-v.length)with g|g
  ·rw[g];rfl
  ·rw[List.getElem?_eq_none (by simp;omega)]
theorem Vg(v:List Int):val (v++[0])=val v:=by rw[JO];omega
theorem Xo{v:List Int}(h:LB v):LB (v++[0]):=h.append (LB.cons (by omega) LB.nil)
theorem AM6{u0 v:List Int}{q:Int}{j:Nat}(hu:LB u0)(hv:LB v)(hq:0<=q/\q<65536)(hlen:j+v.length<u0.length)(hl:u0.length<=1000000):
  ∃u c,JT u0 v (j:Int) q=some (u,c)/\Off u0 u j (v.length+1) c q (v++[0]):=by
 obtain⟨⟨u,c⟩,h1,h2⟩:=Cg (body:=fun(s:((List Int)×((List Int)×(Int×(Int×(Int×Int))))))=>Hj s.1 s.2.1 s.2.2.1 s.2.2.2.1 s.2.2.2.2.1 s.2.2.2.2.2)
  (st:=fun k (b:List Int×Int)=>(b.1,(v,((j:Int),(q,(b.2,(k:Int))))))) (fin:=fun b=>(b.1,b.2)) (I:=fun k b=>Off u0 b.1 j k b.2 q (v++[0])) (e:=v.length+1)
  (by
   rintro k ⟨u,c⟩ hk hI;simp only at hI;have hul:=hI.len;have hp:j+k<u.length:=by omega
   have du:=A3 hI.lb (j+k);have dv:=A3 hv k;have c0:=hI.c0;have c1:=hI.c1;have m0:0<=q*dg v k:=ze8 hq.1 dv.1;have m1:q*dg v k<=65535*65535:=Int.le_trans (zb1 (show dg v k<=65535 by omega) hq.1) (za9 (show q<=65535 by omega) (by omega));have hnx:=hI.next (Xo hv) hq hp rfl;rw[WY]at hnx;refine⟨(u.set (j+k) (dg u (j+k)-q*dg v k-c+(if dg u (j+k)-q*dg v k-c<0 then(-(dg u (j+k)-q*dg v k-c)+65536-1)/65536 else 0)*65536),if dg u (j+k)-q*dg v k-c<0 then(-(dg u (j+k)-q*dg v k-c)+65536-1)/65536 else 0),?_,hnx⟩
   unfold Hj AO
   dsimp only
   have i1:AJ ((j:Int)+(k:Int)) u.length=some (j+k):=by rw[show(j:Int)+(k:Int)=((j+k:Nat):Int) by omega];exact Be hp
   have hw1:=BM (show k<4611686018427387904 by omega);have hjk:=Ab (n:=(j:Int)+(k:Int)) (by omega) (by omega);rw[zp (by omega),hjk];simp only[cond_true,i1,za0,Ai hp,JL];rw[Ab (n:=q*dg v k) (by omega) (by omega),Ab (n:=dg u (j+k)-q*dg v k) (by omega) (by omega),Ab (n:=dg u (j+k)-q*dg v k-c) (by omega) (by omega)];have hxb: -4294967296<=dg u (j+k)-q*dg v k-c/\dg u (j+k)-q*dg v k-c<65536:=by omega
   generalize dg u (j+k)-q*dg v k-c=x at*
   by_cases hx:x<0
   ·rw[zp hx,zw hx,Ab (n:=0-x) (by omega) (by omega),Ab (n:=0-x+65536) (by omega) (by omega),Ab (n:=0-x+65536-1) (by omega) (by omega),zc3 (by omega),show 0-x+65536-1= -x+65536-1 by omega];rw[Ab (n:=(-x+65536-1)/65536) (by omega) (by omega),Ab (n:=(-x+65536-1)/65536*65536) (by omega) (by omega),Ab (n:=x+(-x+65536-1)/65536*65536) (by omega) (by omega)];simp only[cond_true,za0,zd9,hjk,i1,Ai hp,hw1]
   ·rw[zq hx,zi hx];simp only[cond_false,za0,zd9,hjk,i1,Ai hp,hw1,Int.zero_mul,Int.add_zero])
  (by
   rintro⟨u,c⟩ _;unfold Hj
   dsimp only
   rw[zq (by omega)];rfl) 0 (u0,0) (by omega) (Off.start hu j q (v++[0]))
 refine⟨u,c,?_,h2⟩
 unfold JT
 dsimp only at h1
 rw[show((0:Nat):Int)=0 from rfl]at h1;rw[h1];rfl
theorem AM3{u0 v:List Int}{j:Nat}(hu:LB u0)(hv:LB v)(hlen:j+v.length<u0.length)(hl:u0.length<=1000000):
  ∃u c,JR u0 v (j:Int)=some u/\Back u0 u j (v.length+1) c (v++[0]):=by
 obtain⟨⟨u,c⟩,h1,h2⟩:=Cg (body:=fun(s:((List Int)×((List Int)×(Int×(Int×Int)))))=>Hh s.1 s.2.1 s.2.2.1 s.2.2.2.1 s.2.2.2.2)
  (st:=fun k (b:List Int×Int)=>(b.1,(v,((j:Int),(b.2,(k:Int)))))) (fin:=fun b=>b.1) (I:=fun k b=>Back u0 b.1 j k b.2 (v++[0])) (e:=v.length+1)
  (by
   rintro k ⟨u,c⟩ hk hI;simp only at hI;have hul:=hI.len;have hp:j+k<u.length:=by omega
   have du:=hI.lb (j+k) (by simp;omega);have dv:=A3 hv k;have c0:=hI.c0;have c1:=hI.c1;have hnx:=hI.next (Xo hv) (by simp;omega) hp;rw[WY]at hnx;refine⟨⟨_,_⟩,?_,hnx⟩
   unfold Hh AO
   dsimp only
   have i1:AJ ((j:Int)+(k:Int)) u.length=some (j+k):=by rw[show(j:Int)+(k:Int)=((j+k:Nat):Int) by omega];exact Be hp
   have hw1:=BM (show k<4611686018427387904 by omega);have hjk:=Ab (n:=(j:Int)+(k:Int)) (by omega) (by omega);rw[zp (by omega),hjk];simp only[cond_true,i1,za0,Ai hp,JL];rw[Ab (n:=dg u (j+k)+dg v k) (by omega) (by omega),Ab (n:=dg u (j+k)+dg v k+c) (by omega) (by omega),zc5 (by omega),zc3 (by omega),Ab (n:=(dg u (j+k)+dg v k+c)/65536) (by omega) (by omega),hw1])
  (by
   rintro⟨u,c⟩ _;unfold Hh
   dsimp only
   rw[zq (by omega)];rfl) 0 (u0,0) (by omega) ⟨rfl,fun i _=>A3 hu i,fun _ _=>rfl,by simp only;omega,by simp only;omega,by simp[val]⟩
 refine⟨u,c,?_,h2⟩
 unfold JR
 dsimp only at h1
 rw[show((0:Nat):Int)=0 from rfl]at h1;rw[h1];rfl
theorem AD9{u v:List Int}{j m:Nat}(H:Place u v j m)(hl:u.length<=1000000):
  ∃q,IL u v (j:Int)=some q/\val (u.drop j)/val v<=q/\q<65536/\q*val v<val (u.drop j)+val v:=by
 have G:=H.guess;have hv:=H.hv;have hlen:=H.len;have hrest:=H.rest;have hst:=H.start;have d1:=A3 H.lu (j+m+1);have d2:=A3 H.lu (j+m+2);have hu:j+m<u.length:=by omega
 have htop65:dg u (j+m+2)*65536+dg u (j+m+1)<65536*(dg v (m+1)+1):=by
  have hP:=G.hP;have hU:=G.hU;have hV:=G.hV;have hv2:=G.hv2;have hvr:=G.hvr;have hu2:=G.hu2;have hur:=G.hur;rcases Int.lt_or_le (dg u (j+m+2)*65536+dg u (j+m+1)) (65536*(dg v (m+1)+1))with h|h
  ·exact h
  ·exfalso
   generalize dg u (j+m+2)*65536+dg u (j+m+1)=top at*
   generalize dg v (m+1)=v1 at*
   generalize dg v m=v2 at*
   generalize dg u (j+m)=u2 at*
   generalize val (v.take m)=vr at*
   generalize val ((u.drop j).take m)=ur at*
   have e1:=za9 (show 65536*(v1+1)*65536<=top*65536+u2 by omega) (ze1 hP);have e2:=za9 (show v1*65536+v2+1<=(v1+1)*65536 by omega) (ze1 hP);rw[Int.add_mul,Int.one_mul]at e2;have e3:65536*(v1+1)*65536*B m=65536*((v1+1)*65536*B m):=by grind
   omega
 have hv1:=G.hv1;have hv1':=G.hv1';have htop0:0<=dg u (j+m+2)*65536+dg u (j+m+1):=by omega
 have e1:=Int.emod_add_mul_ediv (dg u (j+m+2)*65536+dg u (j+m+1)) (dg v (m+1));have e2:=Int.emod_nonneg (dg u (j+m+2)*65536+dg u (j+m+1)) (show dg v (m+1)≠0 by omega);have e3:(dg u (j+m+2)*65536+dg u (j+m+1))/dg v (m+1)<=dg u (j+m+2)*65536+dg u (j+m+1):=Int.ediv_le_self _ htop0;have e4:=Int.ediv_nonneg htop0 (show 0<=dg v (m+1) by omega);have w1:=Ab (n:=dg u (j+m+2)*65536) (by omega) (by omega);have w2:=Ab (n:=dg u (j+m+2)*65536+dg u (j+m+1)) (by omega) (by omega);have w3:=Ab (n:=(dg u (j+m+2)*65536+dg u (j+m+1))/dg v (m+1)) (by omega) (by omega)
 have g1:AI u (zj zk ((j:Int)+(v.length:Int)))=some (dg u (j+m+2)):=J4 (by rw[Ab (by omega) (by omega)];omega) (by omega);have g2:AI u (zj zk (zj zk ((j:Int)+(v.length:Int))-1))=some (dg u (j+m+1)):=J4 (by rw[Ab (n:=(j:Int)+(v.length:Int)) (by omega) (by omega),Ab (by omega) (by omega)];omega) (by omega);have g3:AI v (zj zk ((v.length:Int)-1))=some (dg v (m+1)):=J4 (by rw[Ab (by omega) (by omega)];omega) (by omega);have g4:AI v (zj zk ((v.length:Int)-2))=some (dg v m):=J4 (by rw[Ab (by omega) (by omega)];omega) (by omega)
 have g5:AI u (zj zk (zj zk ((j:Int)+(v.length:Int))-2))=some (dg u (j+m)):=J4 (by rw[Ab (n:=(j:Int)+(v.length:Int)) (by omega) (by omega),Ab (by omega) (by omega)];omega) (by omega);have hz:(dg v (m+1)==0)=false:=beq_eq_false_iff_ne.2 (by omega);obtain⟨r,h1,h2⟩:=GW (f:=fun(s:((List Int)×((List Int)×(Int×(Int×(Int×Int))))))=>Dt s.1 s.2.1 s.2.2.1 s.2.2.2.1 s.2.2.2.2.1 s.2.2.2.2.2)
  (I:=fun s=>∃q r:Int,s=(u,(v,((j:Int),((v.length:Int),(q,r)))))/\q*dg v (m+1)+r=dg u (j+m+2)*65536+dg u (j+m+1)/\0<=r/\val (u.drop j)/val v<=q/\q<4294967296)
  (R:=fun q=>val (u.drop j)/val v<=q/\q<65536/\q*val v<val (u.drop j)+val v) (fun s=>s.2.2.2.2.1.toNat) (by
   rintro s ⟨q,r,rfl,f1,f2,f3,f4⟩;simp only;have hQ0:=G.hQ0;have hQ1:=G.hQ1;have hv2:=G.hv2;have hu2:=G.hu2;have htop:=G.htop;have hqv:0<=q*dg v (m+1):=ze8 (by omega) (by omega);have hqv2:0<=q*dg v m:=ze8 (by omega) hv2.1;have hqv2':q*dg v m<=4294967296*65536:=Int.le_trans (zb1 (show dg v m<=65536 by omega) (by omega)) (za9 (show q<=4294967296 by omega) (by omega));have w5:=Ab (n:=q*dg v m) (by omega) (by omega);have w6:=Ab (n:=r*65536) (by omega) (by omega);have w7:=Ab (n:=r*65536+dg u (j+m)) (by omega) (by omega);have w8:=Ab (n:=q-1) (by omega) (by omega)
   have w9:=Ab (n:=r+dg v (m+1)) (by omega) (by omega);have less:∀(hgo:val (u.drop j)/val v<=q-1),∃q' r':Int,(u,(v,((j:Int),((v.length:Int),(q-1,r+dg v (m+1))))))=(u,(v,((j:Int),((v.length:Int),(q',r')))))/\q'*dg v (m+1)+r'=dg u (j+m+2)*65536+dg u (j+m+1)/\0<=r'/\val (u.drop j)/val v<=q'/\q'<4294967296:=by
    intro hgo;exact⟨q-1,r+dg v (m+1),rfl,by rw[Int.sub_mul];omega,by omega,hgo,by omega⟩
   by_cases c2:r<65536
   ·by_cases c1:q>=65536
    ·refine .inl ⟨(u,(v,((j:Int),((v.length:Int),(q-1,r+dg v (m+1)))))),?_,less (by omega),by simp only;omega⟩
     unfold Dt;rw[zp c2,zp c1];simp only[cond_true,za0,Sum.elim_inl,zd9,g3,w8,w9]
    ·by_cases c3:q*dg v m>r*65536+dg u (j+m)
     ·have hlt:=Sg G.hP G.hv1 G.hv2 G.hvr G.hu2 G.hur G.hV G.hU f1 (by omega) c3;have hne:val (u.drop j)/val v<=q-1:=by
       rcases Int.lt_or_le (q-1) (val (u.drop j)/val v)with h|h
       ·have:q=val (u.drop j)/val v:=by omega
        have:=G.hQ;subst q;omega
       ·exact h
      refine .inl ⟨(u,(v,((j:Int),((v.length:Int),(q-1,r+dg v (m+1)))))),?_,less hne,by simp only;omega⟩
      unfold Dt;rw[zp c2,zq c1];simp only[cond_true,cond_false,za0,g4,g5,w5,w6,w7,zp c3,zd9,g3,w8,w9]
     ·refine .inr ⟨q,?_,f3,by omega,UF G.hP G.hv1 G.hv2 G.hvr G.hu2 G.hur G.hV G.hU f1 (by omega) (by omega) (by omega)⟩
      unfold Dt;rw[zp c2,zq c1];simp only[cond_true,cond_false,za0,g4,g5,w5,w6,w7,zq c3,Sum.elim_inl]
   ·have hq65:q<65536:=by
     rcases Int.lt_or_le q 65536 with h|h
     ·exact h
     ·exfalso
      have:=za9 h (show 0<=dg v (m+1) by omega);omega
    have hle:=Si G.hP G.hv1 G.hv2 G.hvr G.hu2 G.hur G.hV G.hU f1 (by omega) hq65 (by omega);have hV0:=G.hV0;refine .inr ⟨q,?_,f3,hq65,by omega⟩
    unfold Dt;rw[zq c2];rfl) (u,(v,((j:Int),((v.length:Int),((dg u (j+m+2)*65536+dg u (j+m+1))/dg v (m+1),(dg u (j+m+2)*65536+dg u (j+m+1))%dg v (m+1)))))) ⟨_,_,rfl,by rw[zf3];omega,e2,hst,by omega⟩
 refine⟨r,?_,h2⟩
 unfold IL;simp only[g1,g2,g3,za0,hz,cond_false,w1,w2,zc3 htop0,zc5 htop0,w3];rw[h1];rfl
theorem Place.part{u v u':List Int}{j m:Nat}(H:Place u v j m)(h1:u'.length=u.length)(h2:LB u')(h3:∀i,j+m+3<=i->dg u' i=dg u i){W e:Int}(h4:val u'=val u-B j*W+B (j+m+3)*e):
  val (u'.drop j)=val (u.drop j)-W+B (m+3)*e/\0<=val (u'.drop j)/\val (u'.drop j)<B (m+3):=by
 have hz:val (u'.drop (j+(m+3)))=0:=LC fun i=>by rw[QA,h3 _ (by omega)];exact(H.high (by omega)).1
 have p1:=BY (u'.drop j) (m+3);rw[List.drop_drop,hz]at p1;have p2:=Cl (h2.drop j) (m+3);have p3:=BY u' j;have p4:=BY u j;have p5:=Cl h2 j;have p6:=Cl H.lu j;refine⟨?_,by omega,by omega⟩
 refine MO p5 p6 ?_
 have e1:B (j+m+3)*e=B j*(B (m+3)*e):=by rw[show j+m+3=j+(m+3) by omega,MS];grind
 rw[zd7,Int.mul_sub];omega
set_option maxHeartbeats 1000000 in
theorem AE6 {u v out : List Int} {bits : Int} {j m : Nat} (H : Place u v j m) (hl : u.length <= 1000000) (hj : j < out.length) :
  ∃ u', BS u v out bits (j : Int) = some (.inl (u', (v, (out.set j (val (u.drop j) / val v), (bits, (j : Int) - 1))))) /\
   u'.length = u.length /\ LB u' /\ val u' = val u - B j * (val (u.drop j) / val v * val v) /\ val (u'.drop j) < val v := by
 have hlen := H.len;have hvl := H.hv;have hQ := H.quot;have hmod := H.mod;have hlt := H.lt;have hpos := H.pos;have hB3 : B (m + 3) = 65536 * B (m + 2) := rfl;obtain ⟨q, hg1, hg2, hg3, hg4⟩ := AD9 H hl;obtain ⟨u1, c, ht1, O⟩ := AM6 (j := j) (q := q) H.lu H.lv ⟨by omega, hg3⟩ (by omega) hl;have ov := O.v;have ol := O.len;have oc0 := O.c0;rw [zc0 (by simp), Vg, hvl, show j + (m + 2 + 1) = j + m + 3 by omega] at ov;have oh := O.hi;rw [hvl, show j + (m + 2 + 1) = j + m + 3 by omega] at oh;obtain ⟨p1, p2, p3⟩ := H.part ol O.lb oh (W := q * val v) (e := c) (by omega)
 have hge : decide ((j : Int) >= 0) = true := zp (by omega);have w5 := Ab (n := (j : Int) - 1) (by omega) (by omega);have hj0 : AJ (j : Int) out.length = some j := Be hj;have gout : AO out j = some (dg out j) := Ai hj;have hBp := Fv (m + 3);rcases H.one hg2 hg4 with hq | hq
 ·have hc : c = 0 := by
   rw [hq] at p1;have := MO (j := m + 3) (a := val (u1.drop j)) (b := val (u.drop j) - val (u.drop j) / val v * val v) (X := 0) (Y := c) ⟨p2, p3⟩ (by omega) (by omega);exact this.symm
  subst hc;refine ⟨u1, ?_, ol, O.lb, by rw [hq] at ov; omega, by rw [hq] at p1; omega⟩
  unfold BS;simp only [hge, cond_true, hg1, ht1, za0, ol, decide_true, show decide ((0 : Int) > 0) = false from rfl, cond_false, hj0, gout, w5];rw [hq]
 ·have hqv : q * val v = val (u.drop j) / val v * val v + val v := by rw [hq, Int.add_mul, Int.one_mul]
  have hc : c = 1 := by
   have := MO (j := m + 3) (a := val (u1.drop j)) (b := val (u.drop j) - q * val v + B (m + 3)) (X := 1) (Y := c) ⟨p2, p3⟩ (by omega) (by omega);exact this.symm
  subst hc;obtain ⟨u2, c2, hb1, K⟩ := AM3 (u0 := u1) (v := v) (j := j) O.lb H.lv (by omega) (by omega);have kl := K.len;have kh := K.hi;have kv := K.v;rw [zc0 (by simp), Vg, hvl, show j + (m + 2 + 1) = j + m + 3 by omega] at kv;rw [hvl, show j + (m + 2 + 1) = j + m + 3 by omega] at kh;have klb : LB u2 := Sr fun i hi => by
   rcases zd3 i (j + m + 3) with g | g
   ·exact K.lb i (by simp; omega)
   ·rw [kh i g]; exact A3 O.lb i
  have e1 : B j * (q * val v) = B j * (val (u.drop j) / val v * val v) + B j * val v := by rw [hqv, zd7]
  have hall : val u2 = val u - B j * (val (u.drop j) / val v * val v) + B (j + m + 3) * (1 - c2) := by
   rw [Int.mul_sub]; omega
  obtain ⟨k1, k2, k3⟩ := H.part (kl.trans ol) klb (fun i hi => (kh i hi).trans (oh i hi)) hall;have hc2 : c2 = 1 := by
   have := MO (j := m + 3) (a := val (u2.drop j)) (b := val (u.drop j) - val (u.drop j) / val v * val v) (X := 0) (Y := 1 - c2) ⟨k2, k3⟩ (by omega) (by omega);omega
  subst hc2;refine ⟨u2, ?_, kl.trans ol, klb, by omega, by omega⟩
  have w7 : zj zk (q - 1) = val (u.drop j) / val v := by rw [Ab (by omega) (by omega)]; omega
  unfold BS;simp only [hge, cond_true, hg1, ht1, za0, ol, decide_true, show decide ((1 : Int) > 0) = true from rfl, hb1, kl, hj0, gout, w5, w7]
end
section
open Go
theorem Z7{s o t:Nat}(ho:o<2^s)(h:2^s*t+o<4611686018427387904):orI .i64 (o:Int) ((2^s*t:Nat):Int)=((o+2^s*t:Nat):Int):=by
 unfold orI;rw[BitVec.ofInt_natCast,BitVec.ofInt_natCast,BitVec.toNat_or,BitVec.toNat_ofNat,BitVec.toNat_ofNat];have h64:IntKind.bits .i64=64:=rfl;rw[h64,Nat.mod_eq_of_lt (by omega),Nat.mod_eq_of_lt (by omega),Nat.or_comm,<-Nat.two_pow_add_eq_or_of_lt ho,Ab (by omega) (by omega)];omega
theorem S2{x:Int}{s:Nat}(hs:s<=63)(h0: -9223372036854775808<=x*2^s)(h1:x*2^s<=9223372036854775807):O2 .i64 x (zj zx (s:Int))=x*2^s:=by
 unfold O2;rw[Qn (by omega) (by omega),show min ((s:Int).toNat) (IntKind.bits .i64)=s by simp[IntKind.bits];omega,Ab h0 h1]
theorem Ax1{x:Int}{s:Nat}(hs:s<=63):Lu .i64 x (zj zx (s:Int))=x/2^s:=by
 unfold Lu;rw[Qn (by omega) (by omega),show min ((s:Int).toNat) (IntKind.bits .i64)=s by simp[IntKind.bits];omega];exact Int.fdiv_eq_ediv_of_nonneg _ (ze1 (Int.pow_pos (by decide)))
theorem Mg{s:Nat}(hs:s<=16):∃S T:Nat,S=2^s/\T=2^(16-s)/\S*T=65536/\1<=S/\1<=T/\S<=65536:=by
 refine⟨2^s,2^(16-s),rfl,rfl,?_,Nat.one_le_two_pow,Nat.one_le_two_pow,?_⟩
 ·rw[<-Nat.pow_add,show s+(16-s)=16 by omega]
 ·exact Nat.pow_le_pow_right (by decide) hs
theorem Tf{S T x:Int}(hST:S*T=65536)(hS:1<=S)(hT:1<=T)(hx:0<=x/\x<65536):
  x*S%65536=S*(x%T)/\x*S/65536=x/T/\0<=x/T/\x/T<S/\0<=x%T/\x%T<T/\S*(x%T)+65536*(x/T)=x*S/\S*(x%T)+S<=65536:=by
 have e1:=Int.emod_add_mul_ediv x T;have e2:=Int.emod_nonneg x (show T≠0 by omega);have e3:=Int.emod_lt_of_pos x (show 0<T by omega);have e4:=Int.ediv_nonneg hx.1 (show 0<=T by omega);have e5:x/T<S:=Int.ediv_lt_of_lt_mul (by omega) (by rw[hST];exact hx.2);have e6:x*S=S*(x%T)+65536*(x/T):=by
  have h2:S*(x%T+T*(x/T))=S*(x%T)+(S*T)*(x/T):=by rw[zd7,zf4]
  rw[e1,hST]at h2;rw[<-h2,zf3]
 have e7:S*(x%T)+S<=65536:=by
  have h2:=zb1 (show x%T+1<=T by omega) (show 0<=S by omega);rw[zd7,hST]at h2;omega
 have e8:0<=S*(x%T):=ze8 (by omega) e2;rw[e6];refine⟨?_,?_,e4,e5,e2,e3,rfl,e7⟩<;>omega
theorem YE{S T x y R:Int}(hST:S*T=65536)(hS:1<=S)(hT:1<=T)(hx:0<=x/\x<65536):(x+65536*(y+65536*R))/S=(x+65536*y)/S%65536+65536*((y+65536*R)/S):=by
 have e1:x+65536*(y+65536*R)=(x+65536*y)+S*(T*65536*R):=by
  have:S*(T*65536*R)=(S*T)*(65536*R):=by grind
  rw[this,hST];omega
 have e2:(x+65536*(y+65536*R))/S=(x+65536*y)/S+T*65536*R:=by rw[e1,Int.add_mul_ediv_left _ _ (by omega)]
 have e3:(x+65536*(y+65536*R))/S%65536=(x+65536*y)/S%65536:=by
  rw[e2,show T*65536*R=65536*(T*R) by grind,Int.add_mul_emod_self_left]
 have e4:(x+65536*(y+65536*R))/S/65536=(y+65536*R)/S:=by
  rw[Int.ediv_ediv_of_nonneg (by omega),zf3 S,<-Int.ediv_ediv_of_nonneg (by decide)]
  congr 1
  omega
 have e5:=Int.emod_add_mul_ediv ((x+65536*(y+65536*R))/S) 65536;rw[e3,e4]at e5;omega
structure Up (l out:List Int) (s i:Nat):Prop where
 lb:LB out
 len:out.length=l.length+1
 c:dg out i<2^s
 z:∀k,i<k->dg out k=0
 v:val out=val (l.take i)*2^s
theorem Up.next{l out:List Int}{s i:Nat}(h:Up l out s i)(hl:LB l)(hs:s<=15)(hi:i<l.length):
  Up l ((out.set i (dg out i+dg l i*2^s%65536)).set (i+1) (dg l i*2^s/65536)) s (i+1):=by
 obtain⟨S,T,eS,eT,hST,hS,hT,hS2⟩:=Mg (show s<=16 by omega);have hSi:((S:Nat):Int)=2^s:=by rw[eS];simp
 have hc:=h.c;rw[<-hSi]at hc⊢
 have hx:=A3 hl i;obtain⟨d1,d2,d3,d4,d5,d6,d7,d8⟩:=Tf (S:=(S:Int)) (T:=(T:Int)) (by rw[<-Int.natCast_mul,hST];rfl) (by omega) (by omega) hx;have ho:=A3 h.lb i;have hol:=h.len;have hv:=h.v;rw[<-hSi]at hv;have m0:0<=(S:Int)*(dg l i%T):=ze8 (by omega) d5;rw[d1,d2];have hz:=h.z (i+1) (by omega);refine⟨?_,by simp[hol],?_,fun k hk=> ?_,?_⟩
 ·refine(h.lb.set ⟨by omega,by omega⟩).set ⟨d3,by omega⟩
 ·rw[YB (by simp;omega),zw rfl,<-hSi];exact d4
 ·rw[BH (by omega),BH (by omega)];exact h.z k (by omega)
 ·rw[EV (Ai (by simp;omega)),BH (by omega),hz,EV (Ai (show i<out.length by omega)),hv,AT,<-hSi];have e1:B (i+1)*(dg l i/T-0)=B i*(65536*(dg l i/T)):=by simp only[B];grind
  have e2:(val (l.take i)+B i*dg l i)*S=val (l.take i)*S+B i*(dg l i*S):=by grind
  rw[e1,e2,<-d7,zd7];have e3:B i*(dg out i+S*(dg l i%T)-dg out i)=B i*(S*(dg l i%T)):=by congr 1;omega
  omega
theorem Aw3{l:List Int}{s:Nat}(hl:LB l)(hs:s<=15)(hn:l.length<=1000000):∃out,KE l (s:Int)=some out/\LB out/\out.length=l.length+1/\val out=val l*2^s:=by
 obtain⟨out,h1,h2⟩:=Cg (body:=fun(s:((List Int)×(Int×((List Int)×(Int×Int)))))=>JP s.1 s.2.1 s.2.2.1 s.2.2.2.1 s.2.2.2.2)
  (st:=fun k (b:List Int)=>(b,((s:Int),(l,((l.length:Int),(k:Int)))))) (fin:=fun b=>b) (I:=fun k b=>Up l b s k) (e:=l.length)
  (by
   rintro k out hk hI;refine⟨_,?_,hI.next hl hs hk⟩
   obtain⟨S,T,eS,eT,hST,hS,hT,hS2⟩:=Mg (show s<=16 by omega);have hSi:((S:Nat):Int)=2^s:=by rw[eS];simp
   have hx:=A3 hl k;have ho:=A3 hI.lb k;have hol:=hI.len;have hc:=hI.c;rw[<-hSi]at hc⊢
   obtain⟨d1,d2,d3,d4,d5,d6,d7,d8⟩:=Tf (S:=(S:Int)) (T:=(T:Int)) (by rw[<-Int.natCast_mul,hST];rfl) (by omega) (by omega) hx;have hxS:0<=dg l k*(S:Int)/\dg l k*(S:Int)<=65536*65536:=⟨ze8 hx.1 (by omega),Int.le_trans (zb1 (show(S:Int)<=65536 by omega) hx.1) (za9 (by omega) (by decide))⟩;have hsh:O2 .i64 (dg l k) (zj zx (s:Int))=dg l k*S:=by rw[hSi];exact S2 (by omega) (by rw[<-hSi];omega) (by rw[<-hSi];omega)
   have hor:orI .i64 (dg out k) (dg l k*S%65536)=dg out k+dg l k*S%65536:=by
    obtain⟨o,eo⟩:∃o:Nat,dg out k=(o:Int):=⟨(dg out k).toNat,by omega⟩;obtain⟨t,et⟩:∃t:Nat,dg l k%T=(t:Int):=⟨(dg l k%T).toNat,by omega⟩;rw[d1,et,eo,<-Int.natCast_mul,eS,Z7 (by rw[<-eS];omega) (by
     rw[<-eS];have:((S*t:Nat):Int)<=65536:=by rw[Int.natCast_mul,<-et];omega
     omega)]
    simp
   have hu:zj zx (s:Int)=(s:Int):=Qn (by omega) (by omega);unfold JP AO
   dsimp only
   rw[zp (by omega),BM (by omega)];have i1:AJ (k:Int) out.length=some k:=Be (by omega);have hd:decide (zj zx (s:Int)<0)=false:=by rw[hu];exact zq (by omega)
   simp only[cond_true,Av,Ai hk,za0,hd,cond_false,i1,Ai (show k<out.length by omega),hsh,zc5 hxS.1,zc3 hxS.1,hor,List.length_set];rw[Be (by omega)];simp only[za0];rw[Ai (by simp;omega)];simp only[za0];rw[Ab (n:=dg l k*S/65536) (by omega) (by omega)])
  (by
   rintro out _;unfold JP
   dsimp only
   rw[zq (Int.lt_irrefl _)];rfl) 0 (List.replicate (l.length+1) 0) (by omega) ⟨LB.zeros _,by simp,by
    rw[show dg (List.replicate (l.length+1) (0:Int)) 0=0 from rfl];exact Int.pow_pos (by decide),fun k _=>by unfold dg;rw[za4,zc8];split<;>rfl,by simp[Ez,val]⟩
 have hv:=h2.v;rw[zf1]at hv;refine⟨out,?_,h2.lb,h2.len,hv⟩
 unfold KE;rw[BM (by omega),GV (by unfold Ad;omega) (by unfold Ad;omega)];simp only[za0];rw[show((0:Nat):Int)=0 from rfl]at h1;rw[h1];rfl
theorem Aw2{l:List Int}{s:Nat}(hl:LB l)(hs:s<=15)(hn:l.length<=1000000):JS l (s:Int)=some (lim (val l/2^s).toNat):=by
 obtain⟨S,T,eS,eT,hST,hS,hT,hS2⟩:=Mg (show s<=16 by omega);have hSi:((S:Nat):Int)=2^s:=by rw[eS];simp
 have hSTi:(S:Int)*T=65536:=by rw[<-Int.natCast_mul,hST];rfl
 obtain⟨out,h1,h2⟩:=Cg (body:=fun(s:((List Int)×((List Int)×(Int×(Int×Int)))))=>Hi s.1 s.2.1 s.2.2.1 s.2.2.2.1 s.2.2.2.2)
  (st:=fun k (b:List Int)=>(b,(l,((s:Int),((l.length:Int),(k:Int)))))) (fin:=fun b=>b)
  (I:=fun k b=>LB b/\b.length=l.length/\(∀i,k<=i->dg b i=0)/\val b+B k*(val (l.drop k)/S)=val l/S) (e:=l.length)
  (by
   rintro k out hk ⟨g1,g2,g3,g4⟩;have hx:=A3 hl k;have hy:=A3 hl (k+1);have hm0:0<=(dg l k+65536*dg l (k+1))/(S:Int)%65536/\(dg l k+65536*dg l (k+1))/(S:Int)%65536<65536:=by omega
   refine⟨out.set k ((dg l k+65536*dg l (k+1))/(S:Int)%65536),?_,g1.set hm0,by simp[g2],fun i hi=>by rw[BH (by omega)];exact g3 i (by omega),?_⟩
   ·have hor:orI .i64 (dg l k) (O2 .i64 (dg l (k+1)) 16)=dg l k+65536*dg l (k+1):=by
     obtain⟨o,eo⟩:∃o:Nat,dg l k=(o:Int):=⟨(dg l k).toNat,by omega⟩;obtain⟨t,et⟩:∃t:Nat,dg l (k+1)=(t:Int):=⟨(dg l (k+1)).toNat,by omega⟩;have h16:O2 .i64 (dg l (k+1)) 16=((2^16*t:Nat):Int):=by
      have:=S2 (x:=dg l (k+1)) (s:=16) (by omega) (by omega) (by omega);rw[show zj zx ((16:Nat):Int)=16 by decide]at this;rw[this,et];omega
     rw[h16,eo,Z7 (by omega) (by omega),et];omega
    have hu:zj zx (s:Int)=(s:Int):=Qn (by omega) (by omega);unfold Hi AO
    dsimp only
    rw[zp (by omega),BM (by omega)];have i1:AJ (k:Int) out.length=some k:=Be (by omega);have hd:decide (zj zx (s:Int)<0)=false:=by rw[hu];exact zq (by omega)
    have hsr:Lu .i64 (dg l k+65536*dg l (k+1)) (zj zx (s:Int))=(dg l k+65536*dg l (k+1))/(S:Int):=by rw[Ax1 (by omega),hSi]
    have hq0:0<=(dg l k+65536*dg l (k+1))/(S:Int):=Int.ediv_nonneg (by omega) (by omega);simp only[cond_true,Av,Ai hk,za0,JL,hd,cond_false,i1,Ai (show k<out.length by omega),hor,hsr,zc5 hq0]
   ·rw[EV (Ai (show k<out.length by omega)),g3 k (za8 _),Int.sub_zero];rw[Cz l k,Cz l (k+1),YE hSTi (by omega) (by omega) hx,<-Cz l (k+1),zd7]at g4;have e:B (k+1)*(val (l.drop (k+1))/S)=B k*(65536*(val (l.drop (k+1))/S)):=by simp only[B];grind
    omega)
  (by
   rintro out _;unfold Hi
   dsimp only
   rw[zq (Int.lt_irrefl _)];rfl) 0 (List.replicate l.length 0) (by omega) ⟨LB.zeros _,by simp,fun i _=>by unfold dg;rw[za4,zc8];split<;>rfl,by rw[Ez,ze7];simp[B]⟩
 obtain⟨g1,g2,g3,g4⟩:=h2;rw[List.drop_length,show val []=0 from rfl,Int.zero_ediv,Int.mul_zero,Int.add_zero]at g4;unfold JS;rw[GV (by unfold Ad;omega) (by unfold Ad;omega)];simp only[za0];rw[show((0:Nat):Int)=0 from rfl]at h1;rw[h1];simp only[za0];rw[FY (by unfold Ar;omega)];simp only[za0];rw[BX g1,g4,hSi]
theorem AM4{a b:List Int}{t:Int}{m:Nat}(hm:b.length=m+1)(hml:m<=1000000)(ht:dg b m=t)(h1:1<=t)(h2:t<65536):
  ∃s:Nat,s<=15/\t*2^s<65536/\Ag (fun(s:((List Int)×((List Int)×Int)))=>CU s.1 s.2.1 s.2.2) (a,(b,0))=some (a,(b,(s:Int))):=by
 have bound:∀s:Nat,t*2^s<65536->s<=15:=fun s h=>by
  have h3:(2:Int)^s<2^16:=by
   have h4:(1:Int)*2^s<=t*2^s:=za9 h1 (ze1 (Int.pow_pos (by decide)));have h5:(2:Int)^16=65536:=by decide
   omega
  have h5:((2^s:Nat):Int)<((2^16:Nat):Int):=by simpa using h3
  have h6:2^s<2^16:=by omega
  have:=(Nat.pow_lt_pow_iff_right (show 1<2 by decide)).1 h6;omega
 obtain⟨r,g1,s,rfl,g2⟩:=GW (f:=fun(s:((List Int)×((List Int)×Int)))=>CU s.1 s.2.1 s.2.2)
  (I:=fun x=>∃s:Nat,x=(a,(b,(s:Int)))/\t*2^s<65536) (R:=fun x=>∃s:Nat,x=(a,(b,(s:Int)))/\t*2^s<65536) (fun x=>100-x.2.2.toNat) (by
   rintro x ⟨s,rfl,hs⟩;have hb:=bound s hs;have p0:(0:Int)<2^s:=Int.pow_pos (by decide);have p1:0<=t*2^s:=ze8 (by omega) (by omega);have hsh:O2 .i64 t (zj zx (s:Int))=t*2^s:=S2 (by omega) (by omega) (by omega);have hu:zj zx (s:Int)=(s:Int):=Qn (by omega) (by omega);have hd:decide (zj zx (s:Int)<0)=false:=by rw[hu];exact zq (by omega)
   have hg:AI b (zj zk ((b.length:Int)-1))=some t:=by rw[<-ht];exact J4 (by rw[Ab (by omega) (by omega)];omega) (by omega)
   simp only;by_cases hc:t*2^s<32768
   ·refine .inl ⟨(a,(b,((s+1:Nat):Int))),?_,⟨s+1,rfl,by rw[Int.pow_succ,<-zf4];omega⟩,by simp only;omega⟩
    unfold CU;simp only[hg,za0,hd,cond_false,hsh,zp hc,cond_true];rw[BM (by omega)]
   ·refine .inr ⟨(a,(b,(s:Int))),?_,s,rfl,hs⟩
    unfold CU;simp only[hg,za0,hd,cond_false,hsh,zq hc]) (a,(b,0)) ⟨0,rfl,by simp;omega⟩
 exact⟨s,bound s g2,g2,g1⟩
theorem Aw7{u0 v:List Int}{m:Nat}{bits:Int}(hv:LB v)(hvl:v.length=m+2)(ht:1<=dg v (m+1))(hl:u0.length<=1000000){n:Nat}{out:List Int}(h:Places u0 v m n u0 out):
  ∃u out',Ag (fun(s:((List Int)×((List Int)×((List Int)×(Int×Int)))))=>BS s.1 s.2.1 s.2.2.1 s.2.2.2.1 s.2.2.2.2) (u0,(v,(out,(bits,(n:Int)-1))))=some (u,(out',bits))/\Places u0 v m 0 u out':=by
 obtain⟨⟨u,out'⟩,h1,h2⟩:=HH (body:=fun(s:((List Int)×((List Int)×((List Int)×(Int×Int)))))=>BS s.1 s.2.1 s.2.2.1 s.2.2.2.1 s.2.2.2.2)
  (st:=fun n (b:List Int×List Int)=>(b.1,(v,(b.2,(bits,(n:Int)-1))))) (fin:=fun b=>(b.1,(b.2,bits))) (I:=fun n b=>Places u0 v m n b.1 b.2)
  (by
   rintro n ⟨u,out⟩ hI;simp only at hI;have H:=hI.place hv hvl ht;have hle:=hI.le;have hol:=hI.olen;have hul:=hI.len;obtain⟨u',g1,g2,g3,g4,g5⟩:=AE6 (out:=out) (bits:=bits) H (by omega) (by omega);refine⟨(u',out.set n (val (u.drop n)/val v)),?_,hI.next H g2 g3 g4 g5⟩
   simp only;rw[show((n+1:Nat):Int)-1=(n:Int) by omega,g1])
  (by
   rintro⟨u,out⟩ _;unfold BS
   dsimp only
   rw[zq (by omega)];rfl) n (u0,out) h
 exact⟨u,out',h1,h2⟩
theorem Places.start2{u0 v:List Int}{m n:Nat}(hu:LB u0)(hn:u0.length=n+(m+2))(h0:val (u0.drop n)<val v):Places u0 v m n u0 (List.replicate n 0):=
 ⟨rfl,hu,by omega,h0,LB.zeros n,by simp;omega,fun i hi=>by unfold dg;rw[za4,zc8];split<;>rfl,by rw[Ez];omega⟩
set_option maxHeartbeats 1000000 in
theorem NY {a b : Nat} (hb0 : b ≠ 0) (ha : (lim a).length <= 90000) (hb : (lim b).length <= 90000) : D3 (lim a) (lim b) = some (lim (a / b), lim (a % b)) := by
 unfold D3;rw [FY (by unfold Ar; omega)];simp only [za0];rw [Ly (OR a), Wc (by unfold Ar; omega) (by unfold Ar; omega)];simp only [za0];by_cases hab : a < b
 ·rw [FM (by omega)];simp only [show decide ((-1 : Int) < 0) = true from rfl, cond_true];rw [Nat.div_eq_of_lt hab, Nat.mod_eq_of_lt hab, BF]
 have hc : decide (CR (a : Int) b < 0) = false := by
  rcases Db (a : Int) b with ⟨h, g⟩ | ⟨h, _⟩ | ⟨h, _⟩
  ·omega
  ·rw [h]; rfl
  ·rw [h]; rfl
 simp only [hc, cond_false];have hbl : (lim b).length ≠ 0 := fun h => hb0 (Hw.1 (zb3 h))
 by_cases h1 : (lim b).length = 1
 ·obtain ⟨e1, e2, e3⟩ := Z2 h1;rw [e1];simp only [List.length_singleton, show (((1 : Nat) : Int) == 1) = true from rfl, cond_true];rw [show AI [(b : Int)] 0 = some (b : Int) from rfl];simp only [za0];rw [Aj9 (by omega) (by omega)];simp only [za0, zc4]
 have hn1 : ((((lim b).length : Nat) : Int) == 1) = false := beq_eq_false_iff_ne.2 (by omega);obtain ⟨m, hm⟩ : ∃ m, (lim b).length = m + 2 := ⟨(lim b).length - 2, by omega⟩;obtain ⟨t1, t2, t3, t4⟩ := QI hb0;rw [hm, show m + 2 - 1 = m + 1 by omega] at t1 t2 t3 t4;generalize ht : dg (lim b) (m + 1) = t at *
 obtain ⟨s, hs1, hs2, hs3⟩ := AM4 (a := lim a) (b := lim b) (m := m + 1) (by omega) (by omega) ht t1 t2;obtain ⟨S, T, eS, eT, hST, hS, hT, hS2⟩ := Mg (show s <= 16 by omega);have hSi : ((S : Nat) : Int) = 2 ^ s := by rw [eS]; simp
 obtain ⟨u, hu1, hu2, hu3, hu4⟩ := Aw3 (Az a) hs1 (by omega);obtain ⟨v, hv1, hv2, hv3, hv4⟩ := Aw3 (Az b) hs1 (by omega);rw [Ao, <- hSi, <- Int.natCast_mul] at hu4 hv4;simp only [hn1, cond_false, hs3, za0, hu1, hv1];rw [FY (by unfold Ar; omega)];simp only [za0];rw [BX hv2, hv4, zc4];have hBa : (a : Int) < B (lim a).length := Al.1 (za8 _);have lb : (lim (b * S)).length = m + 2 := by
  apply Nat.le_antisymm
  ·rw [Al];rw [show ((b * S : Nat) : Int) = (b : Int) * S by simp];rw [<- hSi] at hs2;have e1 : (b : Int) * S < B (m + 1) * (t + 1) * S := Int.mul_lt_mul_of_pos_right t4 (by omega);have hts : (t + 1) * (S : Int) <= 65536 := by
    obtain ⟨d1, d2, d3, d4, d5, d6, d7, d8⟩ := Tf (S := (S : Int)) (T := (T : Int)) (by rw [<- Int.natCast_mul, hST]; rfl) (by omega) (by omega) (show 0 <= t /\ t < 65536 by omega);have d9 : t * S % 65536 = t * S := Int.emod_eq_of_lt (ze8 (by omega) (by omega)) hs2;rw [Int.add_mul, Int.one_mul, <- d9, d1];exact d8
   have e2 : B (m + 1) * ((t + 1) * (S : Int)) <= B (m + 1) * 65536 := zb1 hts (ze1 (Fv _));have e3 : B (m + 1) * (t + 1) * S = B (m + 1) * ((t + 1) * (S : Int)) := zf4 ..
   have e4 : B (m + 2) = B (m + 1) * 65536 := by simp only [B]; omega
   omega
  ·rw [<- hm, Al];have h1 : ((b * S : Nat) : Int) < B (lim (b * S)).length := Al.1 (za8 _);have : b * 1 <= b * S := Nat.mul_le_mul_left _ (by omega);omega
 have hle : (lim b).length <= (lim a).length := by rw [Al]; omega
 have hbS0 : b * S ≠ 0 := Nat.mul_ne_zero hb0 (by omega);have htop := (QI hbS0).1;rw [lb, show m + 2 - 1 = m + 1 by omega] at htop;generalize hn : (lim a).length - (lim b).length + 1 = n at *
 have w0 : zj zk (((lim a).length : Int) - ((lim b).length : Int)) = (n : Int) - 1 := by rw [Ab (by omega) (by omega)]; omega
 rw [w0, Ab (n := (n : Int) - 1 + 1) (by omega) (by omega), show (n : Int) - 1 + 1 = (n : Int) by omega, GV (by unfold Ad; omega) (by unfold Ad; omega)];simp only [za0];have hless : val (u.drop n) < val (lim (b * S)) := by
  rw [Ao];have h1 := BY u n;have h2 := AR (hu2.take n);rw [hu4] at h1;have h3 : B n * val (u.drop n) <= ((a * S : Nat) : Int) := by omega
  have h4 : ((a * S : Nat) : Int) < B (lim a).length * S := by rw [Int.natCast_mul]; exact Int.mul_lt_mul_of_pos_right hBa (by omega)
  have h5 : (lim a).length = n + (m + 1) := by omega
  rw [h5, MS] at h4;have h6 : B (m + 1) * S <= ((b * S : Nat) : Int) := by
   rw [Int.natCast_mul];have : B (m + 1) * 1 <= B (m + 1) * t := zb1 t1 (ze1 (Fv _));exact za9 (by omega) (by omega)
  have h7 : B n * (val (u.drop n)) < B n * (B (m + 1) * S) := by rw [<- zf4]; omega
  have h8 := Int.lt_of_mul_lt_mul_left h7 (ze1 (Fv n));omega
 obtain ⟨u', out, hp, P⟩ := Aw7 (bits := (s : Int)) (Az (b * S)) lb htop (by omega) (Places.start2 (n := n) hu2 (by omega) hless);rw [hp];simp only [za0];obtain ⟨p1, p2⟩ := P.end (Az _);rw [hu4, Ao] at p1 p2;obtain ⟨q1, q2⟩ := R3 (a := a) (b := b) (c := S) (by omega);have p1' : val out = ((a / b : Nat) : Int) := by rw [p1, <- q1]; simp
 have p2' : val u' = ((a % b * S : Nat) : Int) := by rw [p2, <- q2]; simp
 have hul := P.len;have hol := P.olen;rw [FY (by unfold Ar; omega)];simp only [za0];rw [FY (by unfold Ar; omega)];simp only [za0];rw [BX P.lo, BX P.lu, p1', p2', zc4, zc4, Aw2 (Az _) hs1 (by
  have : (lim (a % b * S)).length <= m + 2 := by
   rw [<- lb, Al];have h1 : ((b * S : Nat) : Int) < B (lim (b * S)).length := Al.1 (za8 _);have := Nat.mul_lt_mul_of_pos_right (Nat.mod_lt a (show b > 0 by omega)) (show S > 0 by omega);omega
  omega), Ao]
 simp only [za0];rw [<- hSi, Int.natCast_mul, Int.mul_ediv_cancel _ (by omega), zc4]
end
section
open Go
theorem Hu(n:Nat):big (n:Int)=(false,lim n):=by unfold big;rw[zq (by omega),ze9]
theorem Vy(n:Nat):big (-(n:Int))=(decide (n≠0),lim n):=by unfold big;congr 1;exact decide_eq_decide.2 (by omega);congr 1;omega
theorem WP(x y:Int):((!(decide (x<0)==decide (y<0)))&&decide (x.natAbs/y.natAbs≠0),lim (x.natAbs/y.natAbs))=big (x.tdiv y):=by
 rcases Int.lt_or_le x 0 with hx|hx
 ·obtain⟨a,rfl⟩:∃a:Nat,x= -(a:Int):=⟨x.natAbs,by omega⟩;rcases Int.lt_or_le y 0 with hy|hy
  ·obtain⟨b,rfl⟩:∃b:Nat,y= -(b:Int):=⟨y.natAbs,by omega⟩;rw[Int.neg_tdiv,Int.tdiv_neg,Int.neg_neg,<-Int.ofNat_tdiv,Hu,zp hx,zp hy,Int.natAbs_neg,Int.natAbs_neg];rfl
  ·obtain⟨b,rfl⟩:∃b:Nat,y=(b:Int):=⟨y.natAbs,by omega⟩;rw[Int.neg_tdiv,<-Int.ofNat_tdiv,Vy,zp hx,zq (show ¬(b:Int)<0 by omega),Int.natAbs_neg];rfl
 ·obtain⟨a,rfl⟩:∃a:Nat,x=(a:Int):=⟨x.natAbs,by omega⟩;rcases Int.lt_or_le y 0 with hy|hy
  ·obtain⟨b,rfl⟩:∃b:Nat,y= -(b:Int):=⟨y.natAbs,by omega⟩;rw[Int.tdiv_neg,<-Int.ofNat_tdiv,Vy,zq (show ¬(a:Int)<0 by omega),zp hy,Int.natAbs_neg];rfl
  ·obtain⟨b,rfl⟩:∃b:Nat,y=(b:Int):=⟨y.natAbs,by omega⟩;rw[<-Int.ofNat_tdiv,Hu,zq (show ¬(a:Int)<0 by omega),zq (show ¬(b:Int)<0 by omega)];rfl
theorem WQ(x y:Int):(decide (x<0)&&decide (x.natAbs%y.natAbs≠0),lim (x.natAbs%y.natAbs))=big (x.tmod y):=by
 have hy:x.tmod y=x.tmod (y.natAbs:Int):=by
  rcases Int.natAbs_eq y with h|h
  ·rw[<-h]
  ·rw[h,Int.tmod_neg,Int.natAbs_neg,ze9]
 rw[hy];rcases Int.lt_or_le x 0 with hx|hx
 ·obtain⟨a,rfl⟩:∃a:Nat,x= -(a:Int):=⟨x.natAbs,by omega⟩;rw[Int.neg_tmod,<-Int.ofNat_tmod,Vy,zp hx,Int.natAbs_neg];rfl
 ·obtain⟨a,rfl⟩:∃a:Nat,x=(a:Int):=⟨x.natAbs,by omega⟩;rw[<-Int.ofNat_tmod,Hu,zq (show ¬(a:Int)<0 by omega)];rfl
theorem Ic{a b:Nat}(h:a<=b):(lim a).length<=(lim b).length:=Al.2 (Int.lt_of_le_of_lt (by omega) (Al.1 (za8 (lim b).length)))
section
variable {x y:Int} {k:Nat}
theorem L0(hk:k<=90000)(hx:(x.natAbs:Int)<B k)(hy:(y.natAbs:Int)<B k)(h0:y≠0):GE (big x) (big y)=some (big (x.tdiv y),big (x.tmod y)):=by
 have lx:=zd0 (Al.2 hx) hk;have ly:=zd0 (Al.2 hy) hk;have l1:=Ic (Nat.div_le_self x.natAbs y.natAbs);have l2:=Ic (Nat.mod_le x.natAbs y.natAbs);unfold GE;rw[show(big x).2=lim x.natAbs from rfl,show(big y).2=lim y.natAbs from rfl,Sm (by omega) lx ly];simp only[za0];rw[Gz (Az _) (by unfold Ar;omega),Gz (Az _) (by unfold Ar;omega),Ao,Ao,zc4,zc4];simp only[za0];rw[show(big x).1=decide (x<0)from rfl,show(big y).1=decide (y<0)from rfl,WP,WQ]
theorem Ab1(hk:k<=90000)(hx:(x.natAbs:Int)<B k)(hy:(y.natAbs:Int)<B k)(h0:y≠0):Jj (big x) (big y)=some (big (x.tdiv y),big (x.tmod y)):=by
 have lx:=zd0 (Al.2 hx) hk;have ly:=zd0 (Al.2 hy) hk;have l1:=Ic (Nat.div_le_self x.natAbs y.natAbs);have l2:=Ic (Nat.mod_le x.natAbs y.natAbs);unfold Jj;rw[show(big x).2=lim x.natAbs from rfl,show(big y).2=lim y.natAbs from rfl,NY (by omega) lx ly];simp only[za0];rw[Ef (Az _) (by unfold Ar;omega),Ef (Az _) (by unfold Ar;omega),Ao,Ao,zc4,zc4];simp only[za0];rw[show(big x).1=decide (x<0)from rfl,show(big y).1=decide (y<0)from rfl,WP,WQ]
end
theorem P5{b:Nat}(h:b≠0):decide ((((lim b).length:Nat):Int)>0)=true:=by rw[Lk,JH];simp[h]
theorem YL(s:Bool×List Int):∀(n a b:Nat),b<n->(lim a).length<=90000->(lim b).length<=90000->
  Ag (fun(s:((Bool×(List Int))×((List Int)×(List Int))))=>Gt s.1 s.2.1 s.2.2) (s,(lim a,lim b))=some (s,lim (Nat.gcd a b)):=by
 intro n
 induction n with
 |zero=>intro a b h;omega
 |succ n ih=>
  intro a b h ha hb;by_cases h0:b=0
  ·subst h0;rw[Nat.gcd_zero_right];refine AE ?_
   unfold Gt;rw[BF];rfl
  ·have hm:=Nat.mod_lt a (show b>0 by omega);rw[BG (s':=(s,(lim b,lim (a%b))))]
   ·rw[ih b (a%b) (by omega) hb (zd0 (Ic (Nat.mod_le _ _)) ha),Nat.gcd_comm b,<-Nat.gcd_rec,Nat.gcd_comm b]
   ·unfold Gt
    dsimp only
    rw[P5 h0,Sm h0 ha hb];rfl
theorem Zc:∀(n a b:Nat),b<n->(lim a).length<=90000->(lim b).length<=90000->
  Ag (fun(s:((List Int)×(List Int)))=>IA s.1 s.2) (lim a,lim b)=some (lim (Nat.gcd a b)):=by
 intro n
 induction n with
 |zero=>intro a b h;omega
 |succ n ih=>
  intro a b h ha hb;by_cases h0:b=0
  ·subst h0;rw[Nat.gcd_zero_right];refine AE ?_
   unfold IA;rw[BF];rfl
  ·have hm:=Nat.mod_lt a (show b>0 by omega);rw[BG (s':=(lim b,lim (a%b)))]
   ·rw[ih b (a%b) (by omega) hb (zd0 (Ic (Nat.mod_le _ _)) ha),Nat.gcd_comm b,<-Nat.gcd_rec,Nat.gcd_comm b]
   ·unfold IA
    dsimp only
    rw[P5 h0,NY h0 ha hb];rfl
theorem ZO{a b:Nat}(ha:(lim a).length<=90000)(hb:(lim b).length<=90000):(lim (Nat.gcd a b)).length<=90000:=by
 by_cases h:a=0
 ·subst h;rw[Nat.gcd_zero_left];exact hb
 ·exact zd0 (Ic (Nat.gcd_le_left b (by omega))) ha
section
variable {x y:Int} {k:Nat}
theorem UG(hk:k<=90000)(hx:(x.natAbs:Int)<B k)(hy:(y.natAbs:Int)<B k):GF (big x) (big y)=some (big (Int.gcd x y:Nat)):=by
 have lx:=zd0 (Al.2 hx) hk;have ly:=zd0 (Al.2 hy) hk;have lg:=ZO lx ly;unfold GF;rw[show(big x).2=lim x.natAbs from rfl,show(big y).2=lim y.natAbs from rfl,YL _ _ _ _ (Nat.lt_succ_self _) lx ly];simp only[za0];rw[Gz (Az _) (by unfold Ar;omega),Ao,zc4,Hu];rfl
theorem Ab2(hk:k<=90000)(hx:(x.natAbs:Int)<B k)(hy:(y.natAbs:Int)<B k):Jk (big x).2 (big y).2=some (lim (Int.gcd x y)):=by
 have lx:=zd0 (Al.2 hx) hk;have ly:=zd0 (Al.2 hy) hk;have lg:=ZO lx ly;unfold Jk;rw[show(big x).2=lim x.natAbs from rfl,show(big y).2=lim y.natAbs from rfl,Zc _ _ _ (Nat.lt_succ_self _) lx ly];simp only[za0];rw[FY (by unfold Ar;omega)];simp only[za0];rw[Ly (OR _)];rfl
end
end
section
open Go
theorem UM{a:Bool×List Int}(h:a.2.length<=1000000):GI a a=some true:=by
 have hb:Hq a.2 a.2=some true:=by
  unfold Hq;rw[bne_self_eq_false];simp only[cond_false];obtain⟨h1,h2⟩:=UA (l:=a.2) (body:=fun(s:((List Int)×((List Int)×(Int×Int))))=>Fu s.1 s.2.1 s.2.2.1 s.2.2.2)
   (st:=fun k (b:Unit)=>(a.2,(a.2,((a.2.length:Int),(k:Int))))) (step:=fun b p=>()) (fin:=fun b=>.inl ()) (I:=fun k b=>True)
   (by
    rintro k b p hk _;have hkl:=J5 hk;unfold Fu;simp only[Kc hk,cond_true,Av,hk,za0,bne_self_eq_false,cond_false,BM (show k<4611686018427387904 by omega)];exact⟨trivial,trivial⟩)
   (by
    rintro b _;unfold Fu;simp only[QD,cond_false]) () trivial
  rw[show((0:Nat):Int)=0 from rfl]at h1;rw[h1];rfl
 unfold GI;rw[beq_self_eq_true,hb];rfl
section
variable {x y:Int} (hx:(x.natAbs:Int)<B 40) (hy:(y.natAbs:Int)<B 40)
include hx hy
end
section
variable {a b:Bool×List Int} (ha:Ar a.2) (hb:Ar b.2) (h:(EB a&&EB b)=false)
include ha hb h
end
end
section
open Go
def Few(n:Nat)(l:List Int):Prop:=LB l/\l.length<=n
theorem An1{s1:Bool×List Int}{c:List Int×Int×Int}:∀(n:Nat)(k B':Nat)(c:List Int×Int×Int)(l:List Int),Cur B' c->B'+6*n<=100000000000->n<=1000->Few k l->k+n<=1000->
  ∃c' l',Ag (fun(s:(((List Int)×(Int×Int))×((Bool×(List Int))×((List Int)×Int))))=>De s.1 s.2.1 s.2.2.1 s.2.2.2) (c,(s1,(l,(n:Int))))=some (c',(s1,l'))/\Cur (B'+6*n) c'/\Few (k+n) l':=by
 intro n
 induction n with
 |zero=>
  intro k B' c l hc hB hn hl hk;exact⟨c,l,AE (by unfold De;rfl),hc.mono (by omega),hl⟩
 |succ n ih=>
  intro k B' c l hc hB hn hl hk;obtain⟨c1,v1,e1,q1,a1,b1⟩:=EU hc (by omega) 256;obtain⟨c2,v2,e2,q2,a2,b2⟩:=EU q1 (by omega) 256;have b1:=b1 (by omega);have b2:=b2 (by omega);obtain⟨c3,v3,e3,q3,m3⟩:=Nm q2 (by omega) [0,1,65535,32768,256*v1+v2,7] (by simp) (by simp);have hv:0<=v3/\v3<65536:=by simp at m3;omega
  obtain⟨c',l',h1,h2,h3⟩:=ih (k+1) (B'+6) c3 (l++[v3]) (q3.mono (by omega)) (by omega) (by omega) ⟨hl.1.append (LB.cons hv LB.nil),by simp;exact hl.2⟩ (by omega);refine⟨c',l',?_,h2.mono (by omega),by rw[show k+(n+1)=k+1+n by omega];exact h3⟩
  rw[BG (s':=(c3,(s1,(l++[v3],(n:Int)))))]
  ·exact h1
  ·unfold De;have hd:decide (((n+1:Nat):Int)>0)=true:=zp (by omega);have hl2:=hl.2;simp only[hd,cond_true,e1,e2,za0,Ab (n:=256*v1) (by omega) (by omega),Ab (n:=256*v1+v2) (by omega) (by omega),e3,Tt (show l.length<=100000000 from by omega)];rw[Ab (by omega) (by omega),show((n+1:Nat):Int)-1=(n:Int) by omega]
theorem An2{B':Nat}{c:List Int×Int×Int}(h:Cur B' c)(hB:B'<=1000000000):∃c' b,EM c=some (c',b)/\Cur (B'+300) c'/\b.2.length<=100:=by
 unfold EM;obtain⟨c0,v0,e0,q0,a0,b0⟩:=EU h (by omega) 6;have b0:=b0 (by omega);obtain⟨c1,v1,e1,q1⟩:=OX q0 (by omega) 12;simp only[e0,e1,za0];have fin:∀(c2:List Int×Int×Int)(n:Nat),Cur (B'+6) c2->n<=41->∃c' b,((Ag (fun(s:(((List Int)×(Int×Int))×((Bool×(List Int))×((List Int)×Int))))=>De s.1 s.2.1 s.2.2.1 s.2.2.2) (c2,((false,[]),([],(n:Int))))).bind fun x6=>
  ((Bq (x6.1.1,(x6.1.2.1,x6.1.2.2)) (3:Int))).bind fun x7=>
  ((Ba x7.2 x6.2.2)).bind fun x8=>
  ((Bq (x7.1.1,(x7.1.2.1,x7.1.2.2)) (40:Int))).bind fun x9=>
  bif x9.2 then
   ((BK (x9.1.1,(x9.1.2.1,x9.1.2.2)) (List.cons (0:Int) (List.cons (-(1:Int)) (List.cons (65536:Int) List.nil))))).bind fun x10=>
   ((D8 8 1 x8.1 (List.cons x10.2 List.nil))).bind fun x11=>
   some ((x10.1.1,(x10.1.2.1,x10.1.2.2)),(x8.2,x11))
  else
  some ((x9.1.1,(x9.1.2.1,x9.1.2.2)),(x8.2,x8.1)))=some (c',b)/\Cur (B'+300) c'/\b.2.length<=100:=by
  intro c2 n q2 hn;obtain⟨c3,l,e3,q3,hl⟩:=An1 (s1:=(false,[])) (c:=c2) n 0 (B'+6) c2 [] q2 (by omega) (by omega) ⟨LB.nil,by simp⟩ (by omega);obtain⟨c4,v4,e4,q4⟩:=OX q3 (by omega) 3;obtain⟨c5,v5,e5,q5⟩:=OX q4 (by omega) 40;have hll:=hl.2;have hmk:=Ef hl.1 (by unfold Ar;omega) v4;have hlen:(lim (val l).toNat).length<=0+n:=Au1 hl.1 _ 0 hl.2;simp only[e3,e4,e5,hmk,za0];cases v5
  ·exact⟨_,_,rfl,q5.mono (by omega),by simp only;omega⟩
  ·obtain⟨c6,v6,e6,q6,m6⟩:=Nm q5 (by omega) [0,-(1:Int),65536] (by simp) (by simp);simp only[cond_true,e6,za0];rw[Tt (by omega)];exact⟨_,_,rfl,q6.mono (by omega),by simp;omega⟩
 cases v1
 ·simp only[cond_false,za0,zd9];have hv:v0=((v0.toNat:Nat):Int):=by omega
  rw[hv];exact fin c1 v0.toNat (q1.mono (by omega)) (by omega)
 ·obtain⟨c2,v2,e2,q2,m2⟩:=Nm q1 (by omega) [20,39,40,41] (by simp) (by simp);simp only[cond_true,e2,za0,zd9];have hm:0<=v2/\v2<=41:=by simp at m2;omega
  have hv:v2=((v2.toNat:Nat):Int):=by omega
  rw[hv];exact fin c2 v2.toNat (q2.mono (by omega)) (by omega)
end
section
open Go
def rq(q:Rat):(Bool×List Int)×(Bool×List Int):=(big q.num,big (q.den:Int))
theorem AM2{p q:Rat}(h:rq p=rq q):p=q:=by
 have h1:=Zz (congrArg Prod.fst h);have h2:=Zz (congrArg Prod.snd h);exact Rat.ext h1 (by exact_mod_cast h2)
theorem J1{x y:Int}(hy:y≠0):x.tdiv (if y<0 then-((Int.gcd x y:Nat):Int)else(Int.gcd x y:Nat))=(Rat.divInt x y).num/\y.tdiv (if y<0 then-((Int.gcd x y:Nat):Int)else(Int.gcd x y:Nat))=((Rat.divInt x y).den:Int):=by
 have d1:((Int.gcd x y:Nat):Int)∣x:=Int.gcd_dvd_left ..
 have d2:((Int.gcd x y:Nat):Int)∣y:=Int.gcd_dvd_right ..
 rw[Rat.num_divInt,Rat.den_divInt,zi hy,Int.gcd_comm y x];generalize Int.gcd x y=n at*
 obtain⟨a,rfl⟩:=d1;obtain⟨b,rfl⟩:=d2;have hn:n≠0:=by rintro rfl;simp at hy
 have hn':(n:Int)≠0:=by omega
 have hb:b≠0:=by rintro rfl;simp at hy
 have hsg:((n:Int)*b<0)↔b<0:=by
  constructor
  ·intro h;rcases Int.lt_or_le b 0 with g|g
   ·exact g
   ·exact absurd (ze8 (show(0:Int)<=(n:Int) by omega) g) (by omega)
  ·intro h;exact Int.mul_neg_of_pos_of_neg (by omega) h
 rw[Int.natAbs_mul,ze9,Nat.mul_div_cancel_left _ (by omega)];by_cases h:b<0
 ·rw[zw (hsg.2 h),Int.sign_eq_neg_one_of_neg (hsg.2 h),Int.tdiv_neg,Int.tdiv_neg,Int.mul_tdiv_cancel_left _ hn',Int.mul_tdiv_cancel_left _ hn',
   show(-1:Int)*((n:Int)*a)=(n:Int)*(-a) by rw[Int.mul_neg,Int.neg_mul,Int.one_mul],Int.mul_ediv_cancel_left _ hn']
  exact⟨rfl,by omega⟩
 ·have h':¬(n:Int)*b<0:=fun g=>h (hsg.1 g)
  have hp:0<(n:Int)*b:=by omega
  rw[zi h',Int.sign_eq_one_of_pos hp,Int.mul_tdiv_cancel_left _ hn',Int.mul_tdiv_cancel_left _ hn',Int.one_mul,Int.mul_ediv_cancel_left _ hn'];exact⟨rfl,by omega⟩
def Sz(k:Nat)(q:Rat):Prop:=(q.num.natAbs:Int)<B k/\(q.den:Int)<B k
instance (k:Nat) (q:Rat):Decidable (Sz k q):=by unfold Sz;infer_instance
theorem Sz.mono{k m:Nat}{q:Rat}(h:Sz k q)(hkm:k<=m):Sz m q:=by
 have:=IY hkm;unfold Sz at*
 omega
theorem QU(x g:Int):(x.tdiv g).natAbs<=x.natAbs:=by rw[Int.natAbs_tdiv];exact Nat.div_le_self _ _
theorem JM{x y:Int}{k:Nat}(hx:(x.natAbs:Int)<B k)(hy:(y.natAbs:Int)<B k)(h0:y≠0):Sz k (Rat.divInt x y):=by
 obtain⟨h1,h2⟩:=J1 (x:=x) h0;have a1:=QU x (if y<0 then-((Int.gcd x y:Nat):Int)else(Int.gcd x y:Nat));have a2:=QU y (if y<0 then-((Int.gcd x y:Nat):Int)else(Int.gcd x y:Nat));rw[h1]at a1;rw[h2]at a2;unfold Sz;omega
theorem Au5(p q:Rat):p+q=Rat.divInt (p.num*q.den+q.num*p.den) ((p.den:Int)*(q.den:Int)):=by
 rw[Rat.add_def',<-Rat.divInt_ofNat,Int.natCast_mul]
theorem Au7(p q:Rat):p*q=Rat.divInt (p.num*q.num) ((p.den:Int)*(q.den:Int)):=by
 rw[Rat.mul_def',<-Rat.divInt_ofNat,Int.natCast_mul]
theorem Au6(p q:Rat):p/q=Rat.divInt (p.num*q.den) ((p.den:Int)*q.num):=by
 rw[Rat.div_def,Rat.inv_def]
 conv=>lhs;lhs;rw[<-Rat.num_divInt_den p]
 rw[Rat.divInt_mul_divInt]
theorem Ja{x y:Int}{k m:Nat}(hx:(x.natAbs:Int)<B k)(hy:(y.natAbs:Int)<B m):((x*y).natAbs:Int)<B (k+m):=by
 rw[Int.natAbs_mul];exact AS1 hx hy
theorem AR9{x y:Int}{k:Nat}(hx:(x.natAbs:Int)<B k)(hy:(y.natAbs:Int)<B k):((x+y).natAbs:Int)<B (k+1):=by
 have h1:B (k+1)=65536*B k:=by rw[MS,zf3];rfl
 have:=Fv k;omega
theorem CA{n:Nat}{k:Nat}(h:(n:Int)<B k):(((n:Int)).natAbs:Int)<B k:=by rw[ze9];exact h
theorem AL1{x:Int}{k:Nat}(h:(x.natAbs:Int)<B k):((-x).natAbs:Int)<B k:=by rw[Int.natAbs_neg];exact h
theorem upB{x:Int}{k m:Nat}(h:(x.natAbs:Int)<B k)(hkm:k<=m):(x.natAbs:Int)<B m:=Int.lt_of_lt_of_le h (IY hkm)
section
variable {p q:Rat} {k m:Nat} (hp:Sz k p) (hq:Sz m q)
include hp hq
theorem Lz:Sz (k+m) (p*q):=by
 rw[Au7];exact JM (Ja hp.1 hq.1) (Ja (CA hp.2) (CA hq.2)) (by have:=p.den_nz;have:=q.den_nz;intro h;rcases Int.mul_eq_zero.1 h with h|h<;>omega)
theorem OW:((p.num*(q.den:Int)+q.num*(p.den:Int)).natAbs:Int)<B (k+m+1):=
 AR9 (Ja hp.1 (CA hq.2)) (by rw[Nat.add_comm];exact Ja hq.1 (CA hp.2))
theorem Zf:Sz (k+m+1) (p+q):=by
 rw[Au5];exact JM (OW hp hq) (upB (Ja (CA hp.2) (CA hq.2)) (by omega)) (by have:=p.den_nz;have:=q.den_nz;intro h;rcases Int.mul_eq_zero.1 h with h|h<;>omega)
theorem AN1(h0:q≠0):Sz (k+m) (p/q):=by
 rw[Au6];exact JM (Ja hp.1 (CA hq.2)) (Ja (CA hp.2) hq.1) (by
  have:=p.den_nz;have hn:q.num≠0:=fun h=>h0 (Rat.num_eq_zero.1 h)
  intro h;rcases Int.mul_eq_zero.1 h with h|h<;>omega)
end
theorem Zg{p:Rat}{k:Nat}(hp:Sz k p):Sz k (-p):=⟨AL1 hp.1,hp.2⟩
theorem B1:B 1=65536:=rfl
theorem Wl{z:Int}{k:Nat}(h:(z.natAbs:Int)<B k)(hk:1<=k):Sz k (z:Rat):=⟨h,by
 rw[Rat.den_intCast];have:=IY hk;rw[B1]at this;omega⟩
def Ae5(p q:Rat):Int:=if p<q then-1 else if q<p then 1 else 0
theorem AA5(p q:Rat):CR (p.num*(q.den:Int)) (q.num*(p.den:Int))=Ae5 p q:=by
 unfold CR Ae5;simp only[Rat.lt_iff]
theorem ZE{p q:Rat}:Ae5 p q=0↔p=q:=by
 unfold Ae5;split
 ·rename_i h;simp;rintro rfl;exact Rat.lt_irrefl h
 ·split
  ·rename_i h;simp;rintro rfl;exact Rat.lt_irrefl h
  ·simp;exact Rat.le_antisymm (Rat.not_lt.1 ‹_›) (Rat.not_lt.1 ‹_›)
def C3(a:(Bool×List Int)×(Bool×List Int)):Bool:=EB a.1&&EB a.2&&((!a.2.1&& !a.2.2.isEmpty)&&decide (Nat.gcd (val a.1.2).toNat (val a.2.2).toNat=1))
theorem OE{a:(Bool×List Int)×(Bool×List Int)}:C3 a=true↔∃q:Rat,Sz 40 q/\a=rq q:=by
 unfold C3;constructor
 ·intro h;simp only[za2,decide_eq_true_eq]at h;obtain⟨⟨h1,h2⟩,⟨h3,h4⟩,h5⟩:=h;obtain⟨x,hx,e1⟩:=Eu.1 h1;obtain⟨y,hy,e2⟩:=Eu.1 h2;rw[e2]at h3 h4 h5;rw[e1]at h5;unfold big at h3 h4 h5;simp only[Ao,zc4]at h5;simp only[zf0,decide_eq_false_iff_not]at h3;simp only[zf0]at h4;have h6:y≠0:=by
   rintro rfl;rw[show(0:Int).natAbs=0 from rfl,BF]at h4;simp at h4
  refine⟨⟨x,y.natAbs,by omega,h5⟩,⟨hx,by show((y.natAbs:Nat):Int)<B 40;exact hy⟩,?_⟩
  unfold rq;rw[<-e1];refine Prod.ext rfl ?_
  rw[e2];show big y=big ((y.natAbs:Nat):Int)
  congr 1
  omega
 ·rintro⟨q,h,rfl⟩;unfold rq;have hd:=q.den_nz;have hb:=LZ h.1;have hb2:=LZ (CA h.2);simp only[hb,hb2,ze4];unfold big;simp only[Ao,zc4,ze9,za2,decide_eq_true_eq,zf0,decide_eq_false_iff_not];refine⟨⟨by omega,?_⟩,q.reduced⟩
  have:=JH q.den;rw[zp hd]at this;simpa using this
theorem Aq3{q:Rat}(h:Sz 40 q):C3 (rq q)=true:=OE.2 ⟨q,h,rfl⟩
end
section
open Go
end
section
open Go
abbrev RF:=Bool×(List Int×(Bool×List Int))
def rqF(q:Rat):RF:=((big q.num).1,((big q.num).2,((big (q.den:Int)).1,(big (q.den:Int)).2)))
def zF:RF:=(false,([],(false,[])))
theorem V8(q:Rat):((rqF q).1,(rqF q).2.1)=big q.num:=(rfl)
theorem Aj4(q:Rat):((rqF q).2.2.1,(rqF q).2.2.2)=big (q.den:Int):=(rfl)
theorem U3(q:Rat):(rqF q).2.2=big (q.den:Int):=(rfl)
theorem F5(a:RF):(a.1,(a.2.1,(a.2.2.1,a.2.2.2)))=a:=(rfl)
theorem KB(q:Rat):(((rqF q).1,(rqF q).2.1),((rqF q).2.2.1,(rqF q).2.2.2))=rq q:=(rfl)
theorem ZN{x y:Int}{k:Nat}(hy:(y.natAbs:Int)<B k)(h0:y≠0):(((Int.gcd x y:Nat):Int).natAbs:Int)<B k:=by
 rw[ze9];have:Int.gcd x y<=y.natAbs:=Nat.le_of_dvd (by omega) (Nat.gcd_dvd_right ..);omega
theorem Aq1{x y:Int}(h0:y≠0):((Int.gcd x y:Nat):Int)≠0:=by
 have:0<Int.gcd x y:=Nat.gcd_pos_of_pos_right _ (by omega);omega
theorem Gl{x:Int}{k:Nat}(hk:k<=1000000)(h:(x.natAbs:Int)<B k):Ar (big x).2:=by
 have:=Al.2 h;unfold big Ar;dsimp only;omega
theorem LP(x:Int)(s:Bool):(lim (val (big x).2).toNat,s&&decide ((val (big x).2).toNat≠0))=(lim x.natAbs,s&&decide (x≠0)):=by
 unfold big;simp only[Ao,zc4]
 congr 2
 exact decide_eq_decide.2 (by omega)
theorem UH{x:Int}{k:Nat}(hk:k<=1000000)(h:(x.natAbs:Int)<B k):GG (big x)=some (big (-x)):=by
 unfold GG;rw[Gz (show LB (big x).2 from Az _) (Gl hk h),LP];simp only[za0]
 congr 1
 unfold big;simp only;refine Prod.ext ?_ (by simp)
 simp only;by_cases h0:x<0
 ·rw[zp h0];simp;omega
 ·rw[zq h0];simp only[Bool.not_false,ze4];exact decide_eq_decide.2 (by omega)
theorem Wf{x:Int}{k:Nat}(hk:k<=1000000)(h:(x.natAbs:Int)<B k):HB (big x)=some (big (-x)):=by
 unfold HB;rw[Ef (show LB (big x).2 from Az _) (Gl hk h),LP];simp only[za0]
 congr 1
 unfold big;simp only;refine Prod.ext ?_ (by simp)
 simp only;by_cases h0:x<0
 ·rw[zp h0];simp;omega
 ·rw[zq h0];simp only[Bool.not_false,ze4];exact decide_eq_decide.2 (by omega)
theorem Z9{x:Int}{k:Nat}(hk:k<=1000000)(h:(x.natAbs:Int)<B k):A8 (big x).1 (big x).2=some ((big x).2,(big x).1):=by
 rw[Gz (show LB (big x).2 from Az _) (Gl hk h),LP]
 congr 1
 unfold big;simp only;refine Prod.ext rfl ?_
 simp only;by_cases h0:x<0
 ·rw[zp h0];simp;omega
 ·rw[zq h0];rfl
theorem Aa0{n:Nat}{k:Nat}(hk:k<=1000000)(h:(n:Int)<B k):A8 false (big (n:Int)).2=some ((big (n:Int)).2,(big (n:Int)).1):=by
 have:=Z9 (x:=(n:Int)) hk (CA h)
 rwa[show(big (n:Int)).1=false by rw[Hu]]at this⊢
theorem U7{x:Int}{k:Nat}(hk:k<=1000000)(h:(x.natAbs:Int)<B k):Ba (big x).1 (big x).2=some ((big x).2,(big x).1):=by
 rw[Ef (show LB (big x).2 from Az _) (Gl hk h),LP]
 congr 1
 unfold big;simp only;refine Prod.ext rfl ?_
 simp only;by_cases h0:x<0
 ·rw[zp h0];simp;omega
 ·rw[zq h0];rfl
theorem Ak2{n:Nat}{k:Nat}(hk:k<=1000000)(h:(n:Int)<B k):Ba false (big (n:Int)).2=some ((big (n:Int)).2,(big (n:Int)).1):=by
 have:=U7 (x:=(n:Int)) hk (CA h)
 rwa[show(big (n:Int)).1=false by rw[Hu]]at this⊢
theorem QG{x y:Int}{k:Nat}(hk:k<=90000)(hx:(x.natAbs:Int)<B k)(hy:(y.natAbs:Int)<B k)(h0:y≠0):Gb (big x) (big y)=some (rqF (Rat.divInt x y)):=by
 obtain⟨p1,p2⟩:=J1 (x:=x) h0;have hg:=ZN (x:=x) hy h0;have hg0:=Aq1 (x:=x) h0;unfold Gb;simp only[Ha,UG hk hx hy,za0];rw[show(big y).1=decide (y<0)from rfl];by_cases hn:y<0
 ·rw[zw hn]at p1 p2;rw[zp hn];simp only[cond_true,UH (show k<=1000000 by omega) hg,za0,zd9,L0 hk hx (AL1 hg) (by omega),L0 hk hy (AL1 hg) (by omega),p1,p2];rfl
 ·rw[zi hn]at p1 p2;rw[zq hn];simp only[cond_false,za0,zd9,L0 hk hx hg hg0,L0 hk hy hg hg0,p1,p2];rfl
theorem YA(q:Rat):(q.den:Int)≠0:=by have:=q.den_nz;omega
theorem J0(p q:Rat):(p.den:Int)*(q.den:Int)≠0:=fun h=>by rcases Int.mul_eq_zero.1 h with h|h<;>exact YA _ h
section
variable {p q:Rat} {k:Nat} (hk:k<=20000) (hp:Sz k p) (hq:Sz k q)
include hk hp hq
theorem Gp:CE (rqF p) (rqF q)=some (rqF (p+q)):=by
 obtain⟨r1,a1,b1⟩:=Ew (k:=k) (by omega) hp.1 (CA hq.2);obtain⟨r2,a2,b2⟩:=Ew (k:=k) (by omega) hq.1 (CA hp.2);obtain⟨r3,a3,b3⟩:=Ew (k:=k) (by omega) (CA hp.2) (CA hq.2);unfold CE;simp only[V8,Aj4,U3,a1,a2,a3,b1,b2,b3,za0];rw[Ag3 (k:=k+k) (by omega) (Ja hp.1 (CA hq.2)) (Ja hq.1 (CA hp.2))];simp only[za0,Ha];rw[QG (k:=k+k+1) (by omega) (OW hp hq) (upB (Ja (CA hp.2) (CA hq.2)) (by omega)) (J0 p q),<-Au5];rfl
theorem L1:DY (rqF p) (rqF q)=some (rqF (p*q)):=by
 obtain⟨r1,a1,b1⟩:=Ew (k:=k) (by omega) hp.1 hq.1;obtain⟨r3,a3,b3⟩:=Ew (k:=k) (by omega) (CA hp.2) (CA hq.2);unfold DY;simp only[V8,Aj4,U3,a1,a3,b1,b3,za0];rw[QG (k:=k+k) (by omega) (Ja hp.1 hq.1) (Ja (CA hp.2) (CA hq.2)) (J0 p q),<-Au7];rfl
theorem Ag5(h0:q≠0):IE (rqF p) (rqF q)=some (rqF (p/q)):=by
 obtain⟨r1,a1,b1⟩:=Ew (k:=k) (by omega) hp.1 (CA hq.2);obtain⟨r3,a3,b3⟩:=Ew (k:=k) (by omega) (CA hp.2) hq.1;unfold IE;simp only[V8,Aj4,U3,a1,a3,b1,b3,za0];rw[QG (k:=k+k) (by omega) (Ja hp.1 (CA hq.2)) (Ja (CA hp.2) hq.1) (by
  intro h;rcases Int.mul_eq_zero.1 h with h|h
  ·exact YA _ h
  ·exact h0 (Rat.num_eq_zero.1 h)),<-Au6]
 rfl
end
theorem Ag6{q:Rat}{k:Nat}(hk:k<=1000000)(hq:Sz k q):IF (rqF q)=some (rqF (-q)):=by
 unfold IF;simp only[V8,UH hk hq.1,za0];rw[show(rqF q).2.2.2=(big (q.den:Int)).2 from rfl,Aa0 hk hq.2];rfl
theorem Ag7{p q:Rat}{k:Nat}(hk:k<=20000)(hp:Sz k p)(hq:Sz k q):IG (rqF p) (rqF q)=some (rqF (p-q)):=by
 unfold IG;simp only[F5,Ag6 (k:=k) (by omega) hq,za0,Gp hk hp (Zg hq)];rw[Rat.sub_eq_add_neg]
theorem MG(q:Rat):Fw (rqF q)=some (Ae5 q 0):=by
 unfold Fw;simp only[V8,VI,za0]
 congr 1
 have:=AA5 q 0;simpa using this
theorem Al9:CW (1:Int)=some (big 1):=NC (by omega) (by omega)
theorem Aw0:Ff (1:Int)=some (big 1):=QQ (by omega) (by omega)
theorem ZT{n:Int}(h1: -9223372036854775808<=n)(h2:n<=9223372036854775807):Eo n=some (rqF (n:Rat)):=by
 unfold Eo;simp only[NC h1 h2,Al9,za0];rfl
theorem QS{n:Int}(h1: -9223372036854775808<=n)(h2:n<=9223372036854775807):CB n=some (rqF (n:Rat)):=by
 unfold CB;simp only[QQ h1 h2,Aw0,za0];rfl
theorem AG4{k:Nat}(hk:1<=k):(((1:Int).natAbs:Nat):Int)<B k:=by
 have:=IY hk;rw[B1]at this;omega
def BrF(a:RF):Prop:=Ar a.2.1/\Ar a.2.2.2
def toQ(a:RF):(Bool×List Int)×(Bool×List Int):=((a.1,a.2.1),(a.2.2.1,a.2.2.2))
theorem N4{q:Rat}{k:Nat}(hk:k<=1000000)(h:Sz k q):BrF (rqF q):=⟨Gl hk h.1,Gl hk (CA h.2)⟩
theorem AD4{y:Int}:(!(big y).1&& !(big y).2.isEmpty)=decide (0<y):=by
 unfold big;simp only;have:=JH y.natAbs;rw[this];by_cases h:0<y
 ·rw[zp h,zq (by omega),zp (by omega)];rfl
 ·rw[zq h];by_cases h0:y=0
  ·subst h0;rfl
  ·rw[zp (show y<0 by omega)];rfl
theorem UD{x y:Int}(hx:(x.natAbs:Int)<B 40)(hy:(y.natAbs:Int)<B 40):C3 (big x,big y)=(decide (0<y)&&decide (Int.gcd x y=1)):=by
 unfold C3;simp only[LZ hx,LZ hy,ze4,AD4];unfold big;simp only[Ao,zc4];rfl
theorem RW{g:Nat}:(CR (g:Int) 1==0)=decide (g=1):=by
 rcases Db (g:Int) 1 with⟨e,h⟩|⟨e,h⟩|⟨e,h⟩
 ·rw[e,zq (by omega)];rfl
 ·rw[e,zq (by omega)];rfl
 ·rw[e,zp (by omega)];rfl
theorem J9(y:Int):((((big y).2.length:Nat):Int)==(0:Int))=decide (y=0):=by
 rw[Bool.eq_iff_iff];simp only[beq_iff_eq,decide_eq_true_eq];unfold big;constructor
 ·intro h;have:=Hw.1 (zb3 (show(lim y.natAbs).length=0 by simpa using h));omega
 ·rintro rfl;rw[show(0:Int).natAbs=0 from rfl,BF];rfl
theorem OJ{a:RF}(h:BrF a):DX a=some (C3 (toQ a)):=by
 obtain⟨n,nl,d,dl⟩:=a;unfold DX toQ;simp only;have hl:HP [(n,nl),(d,dl)]=some (EB (n,nl)&&EB (d,dl)):=by
  rw[Aq8 (by simp) (by intro b hb;simp at hb;rcases hb with rfl|rfl;exact h.1;exact h.2)];simp
 rw[hl];simp only[za0];cases hg:EB (n,nl)&&EB (d,dl)with
 |false=>unfold C3;simp only[hg,Bool.false_and,cond_false]
 |true=>
  rw[za2]at hg;obtain⟨x,hx,e1⟩:=Eu.1 hg.1;obtain⟨y,hy,e2⟩:=Eu.1 hg.2;simp only[e1,e2,cond_true,VI,za0,UD hx hy];rcases Db y 0 with⟨e,g⟩|⟨e,g⟩|⟨e,g⟩
  ·rw[e,zq (show ¬0<y by omega)];rfl
  ·rw[e,zp (show 0<y by omega)];simp only[show decide ((1:Int)>0)=true from rfl,cond_true,UG (k:=40) (by omega) hx hy,Al9,za0,Ha,ze4];rw[VH (k:=40) (by omega) (ZN hy (by omega)) (AG4 (by omega))];simp only[za0,RW]
  ·rw[e,zq (show ¬0<y by omega)];rfl
theorem U5{a:RF}(h:BrF a):Fg a=some (C3 (toQ a)):=by
 obtain⟨n,nl,d,dl⟩:=a;unfold Fg toQ;simp only;rw[L8 h.1];simp only[za0];cases h1:EB (n,nl)with
 |false=>unfold C3;simp only[h1,Bool.false_and,Bool.not_false,cond_true]
 |true=>
  simp only[Bool.not_true,cond_false];rw[L8 h.2];simp only[za0];cases h2:EB (d,dl)with
  |false=>unfold C3;simp only[h1,h2,Bool.and_false,Bool.false_and,Bool.not_false,cond_true]
  |true=>
   obtain⟨x,hx,e1⟩:=Eu.1 h1;obtain⟨y,hy,e2⟩:=Eu.1 h2;have f1:nl=(big x).2:=congrArg Prod.snd e1;have f2:dl=(big y).2:=congrArg Prod.snd e2;have f3:d=(big y).1:=congrArg Prod.fst e2;simp only[Bool.not_true,cond_false];rw[e1,e2,UD hx hy,f3,show(big y).1=decide (y<0)from rfl];by_cases hy0:y<0
   ·rw[zp hy0,zq (show ¬0<y by omega)];rfl
   ·rw[zq hy0];simp only[cond_false];rw[f2,J9];by_cases h0:y=0
    ·rw[zp h0,zq (show ¬0<y by omega)];rfl
    ·rw[zq h0,zp (show 0<y by omega)];simp only[cond_false];rw[f1,Ab2 (k:=40) (by omega) hx hy];simp only[za0];have hl1:([1]:List Int)=lim 1:=by rw[Sy (by omega),BF];rfl
     have hgb:=Al.2 (show((Int.gcd x y:Nat):Int)<B 40 by have:=ZN (x:=x) hy h0;rwa[ze9]at this);rw[hl1,Wc (by unfold Ar;omega) (by rw[<-hl1];unfold Ar;simp)];simp only[za0,RW,ze4];exact congrArg some RW
theorem Sf{q:Rat}(h:Sz 40 q):C3 (toQ (rqF q))=true:=Aq3 h
theorem AB6{a:RF}(h:C3 (toQ a)=true):∃q,Sz 40 q/\a=rqF q:=by
 obtain⟨q,h1,h2⟩:=OE.1 h;refine⟨q,h1,?_⟩
 have e1:=congrArg Prod.fst h2;have e2:=congrArg Prod.snd h2;obtain⟨n,nl,d,dl⟩:=a;unfold toQ rq at e1 e2;simp only at e1 e2;unfold rqF;rw[<-e1,<-e2]
theorem Ag8{l:List ((Bool×List Int)×(Bool×List Int))}(hl:l.length<=1000)(hb:∀a∈l,Ar a.1.2/\Ar a.2.2):DZ l=some (l.all C3):=by
 unfold DZ;obtain⟨h1,h2⟩:=Te (l:=l) (body:=fun(s:(List ((Bool×(List Int))×(Bool×(List Int))))×(Int×Int))=>Gv s.1 s.2.1 s.2.2)
  (st:=fun k (_:Unit)=>(l,((l.length:Int),(k:Int)))) (step:=fun _ a=>if C3 a then .inr ()else .inl (.inr false)) (fin:=fun _=>.inl ()) (I:=fun _ _=>True)
  (by
   rintro k b a hk _;have hkl:=J5 hk;unfold Gv;have ha:=hb a (za5 hk);simp only[zp (show(k:Int)<(l.length:Int) by omega),cond_true,Av,hk,za0];rw[OJ (a:=(a.1.1,(a.1.2,(a.2.1,a.2.2)))) ha];simp only[za0,toQ,Ha];cases hg:C3 a with
   |true=>left;exact⟨(),by simp,by simp only[Bool.not_true,cond_false];rw[Ab (by omega) (by omega)];rfl,trivial⟩
   |false=>right;exact⟨.inr false,by simp,by simp only[Bool.not_false,cond_true]⟩)
  (by
   rintro b _;unfold Gv;simp) () trivial
 rw[show((0:Nat):Int)=0 from rfl]at h1;rw[h1];have key:∀(m:List ((Bool×List Int)×(Bool×List Int))),JA (ρ:=Unit⊕Bool) (fun(_:Unit) a=>if C3 a then .inr ()else .inl (.inr false)) () m=if m.all C3 then .inr ()else .inl (.inr false):=by
  intro m
  induction m with
  |nil=>rfl
  |cons a m ih=>
   unfold JA;rw[zc1];cases hg:C3 a with
   |true=>simp only[if_true,ze4];exact ih
   |false=>simp
 rw[key];cases l.all C3<;>rfl
def FO(q:Rat):RF×Bool:=if Sz 40 q then(rqF q,true)else(zF,false)
theorem JB{q:Rat}{n:Nat}:BJ (rqF q) (n:Int)=some (decide (Sz n q)):=by
 unfold BJ;have e1:((((rqF q).2.1.length:Nat):Int)<=(n:Int))↔((q.num.natAbs:Int)<B n):=by rw[<-Al];exact Int.ofNat_le
 have e2:((((rqF q).2.2.2.length:Nat):Int)<=(n:Int))↔((q.den:Int)<B n):=by
  have:(rqF q).2.2.2=lim q.den:=by show(big (q.den:Int)).2=_;rw[Hu]
  rw[this,<-Al];exact Int.ofNat_le
 unfold Sz;by_cases h1:(q.num.natAbs:Int)<B n
 ·rw[zp (e1.2 h1)];simp only[cond_true,decide_eq_decide.2 e2,h1,true_and]
 ·rw[zq (fun h=>h1 (e1.1 h))];simp[h1]
theorem J6(q:Rat):CX (rqF q)=some (FO q):=by
 unfold CX FO;simp only[F5];rw[show(40:Int)=((40:Nat):Int)from rfl,JB];by_cases h:Sz 40 q
 ·simp[h]
 ·simp[h];rfl
end
section
open Go
theorem AE0{x y:Int}{k:Nat}(hk:k<=1000000)(hx:(x.natAbs:Int)<B k)(hy:(y.natAbs:Int)<B k):LF (big x) (big y)=some (big (x+y)):=by
 have lx:=HI hx hk;have ly:=HI hy hk;unfold LF big;simp only;by_cases hs:decide (x<0)=decide (y<0)
 ·rw[hs,beq_self_eq_true];obtain⟨r,e1,e2,e3,e4,_⟩:=Wb (Az x.natAbs) (Az y.natAbs) (by omega) (by omega);rw[Ao,Ao]at e3;simp only[cond_true,e1,za0];rw[Ef e2 (by unfold Ar;omega)];simp only[za0];have hv:(val r).toNat=(x+y).natAbs:=by
   by_cases h1:x<0
   ·have:y<0:=by simpa[h1]using hs
    omega
   ·have:¬y<0:=by simpa[h1]using hs
    omega
  rw[hv]
  congr 2
  by_cases h2:y<0
  ·have h1:x<0:=by simpa[h2]using hs
   rw[zp h2,zp (show x+y<0 by omega),zp (show(x+y).natAbs≠0 by omega)];rfl
  ·have h1:¬x<0:=by simpa[h2]using hs
   rw[zq h2,zq (show ¬x+y<0 by omega)];rfl
 ·have hb:(decide (x<0)==decide (y<0))=false:=by simpa using hs
  rw[hb];simp only[cond_false];rw[Wc (by unfold Ar;omega) (by unfold Ar;omega)];simp only[za0];have hxy:(x<0/\¬y<0)\/(¬x<0/\y<0):=by
   by_cases h1:x<0<;>by_cases h2:y<0<;>simp[h1,h2]at hs⊢
  rcases zd3 x.natAbs y.natAbs with hlt|hge
  ·rw[FM (by omega),zq (by omega)];simp only[cond_false];have hl:(lim x.natAbs).length<=(lim y.natAbs).length:=Al.2 (by have:=Al.1 (za8 (lim y.natAbs).length);omega);rw[NZ (Az _) (Az _) hl (by omega) (by rw[Ao,Ao];omega)];simp only[za0,Ao];have e:((y.natAbs:Int)-(x.natAbs:Int)).toNat=(x+y).natAbs:=by omega
   rw[e,Ef (Az _) (by
    have:(lim (x+y).natAbs).length<=(lim y.natAbs).length:=Al.2 (by have:=Al.1 (za8 (lim y.natAbs).length);omega);unfold Ar;omega)]
   simp only[za0,Ao,zc4]
   congr 2
   by_cases h2:y<0
   ·rw[zp h2,zp (show x+y<0 by omega),zp (show(x+y).natAbs≠0 by omega)];rfl
   ·rw[zq h2,zq (show ¬x+y<0 by omega)];rfl
  ·have hc:CR (x.natAbs:Int) (y.natAbs:Int)>=0:=by unfold CR;rw[zi (by omega)];split<;>omega
   rw[zp hc];simp only[cond_true];have hl:(lim y.natAbs).length<=(lim x.natAbs).length:=Al.2 (by have:=Al.1 (za8 (lim x.natAbs).length);omega);rw[NZ (Az _) (Az _) hl (by omega) (by rw[Ao,Ao];omega)];simp only[za0,Ao];have e:((x.natAbs:Int)-(y.natAbs:Int)).toNat=(x+y).natAbs:=by omega
   rw[e,Ef (Az _) (by
    have:(lim (x+y).natAbs).length<=(lim x.natAbs).length:=Al.2 (by have:=Al.1 (za8 (lim x.natAbs).length);omega);unfold Ar;omega)]
   simp only[za0,Ao,zc4]
   congr 2
   by_cases h2:x<0
   ·rw[zp h2];by_cases h3:x+y<0
    ·rw[zp h3,zp (show(x+y).natAbs≠0 by omega)];rfl
    ·rw[zq h3,zq (show ¬(x+y).natAbs≠0 by omega)];rfl
   ·rw[zq h2,zq (show ¬x+y<0 by omega)];rfl
theorem Lr {x y : Int} {k : Nat} (hk : k <= 90000) (hx : (x.natAbs : Int) < B k) (hy : (y.natAbs : Int) < B k) (h0 : y ≠ 0) : D5 (big x) (big y) = some (rqF (Rat.divInt x y)) := by
  obtain ⟨p1, p2⟩ := J1 (x := x) h0;have hg := ZN (x := x) hy h0;have hg0 := Aq1 (x := x) h0;have hl : (lim (Int.gcd x y)).length <= k := Al.2 (by rwa [ze9] at hg);unfold D5;rw [Ab2 hk hx hy];simp only [za0];rw [Ef (Az _) (by unfold Ar; omega), Ao, zc4];simp only [za0, Bool.false_and];rw [<- Hu];simp only [Ha, Ab1 hk hx hg hg0, Ab1 hk hy hg hg0, za0];have t1 := QU x (Int.gcd x y : Nat);have t2 := QU y (Int.gcd x y : Nat);obtain ⟨c, hc⟩ : ((Int.gcd x y : Nat) : Int) ∣ y := Int.gcd_dvd_right ..
  have e2 : y.tdiv (Int.gcd x y : Nat) = c := by conv => lhs; lhs; rw [hc]
                                                 exact Int.mul_tdiv_cancel_left _ hg0
  have hsg : (y < 0) ↔ c < 0 := by
    have hp : (0 : Int) < (Int.gcd x y : Nat) := by omega
    generalize ((Int.gcd x y : Nat) : Int) = g at *
    constructor
    · intro h
      rcases Int.lt_or_le c 0 with e | e
      · exact e
      · have := ze8 (ze1 hp) e; omega
    · intro h; have := Int.mul_neg_of_pos_of_neg hp h; omega
  rw [show (big (y.tdiv (Int.gcd x y : Nat))).1 = decide (y.tdiv (Int.gcd x y : Nat) < 0) from rfl];by_cases hn : y < 0
  · rw [zw hn, Int.tdiv_neg] at p1 p2
    rw [zp (by rw [e2]; exact hsg.1 hn)];simp only [cond_true];rw [Wf (show k <= 1000000 by omega) (by omega), Wf (show k <= 1000000 by omega) (by omega)];simp only [za0, p1, p2];rfl
  · rw [zi hn] at p1 p2
    rw [zq (by rw [e2]; exact fun h => hn (hsg.2 h))];simp only [cond_false, p1, p2];rfl
theorem AE2{q:Rat}{k:Nat}(hk:k<=1000000)(hq:Sz k q):LH (rqF q)=some (rqF (-q)):=by
 unfold LH;simp only[V8,Wf hk hq.1,za0];rfl
section
variable {p q:Rat} {k:Nat} (hk:k<=20000) (hp:Sz k p) (hq:Sz k q)
include hk hp hq
theorem QR:Gc (rqF p) (rqF q)=some (rqF (p+q)):=by
 unfold Gc;simp only[V8,Aj4,U3,Kg (k:=k) (by omega) hp.1 (CA hq.2),Kg (k:=k) (by omega) hq.1 (CA hp.2),Kg (k:=k) (by omega) (CA hp.2) (CA hq.2),za0,Ha];rw[AE0 (k:=k+k) (by omega) (Ja hp.1 (CA hq.2)) (Ja hq.1 (CA hp.2))];simp only[za0,Ha];rw[Lr (k:=k+k+1) (by omega) (OW hp hq) (upB (Ja (CA hp.2) (CA hq.2)) (by omega)) (J0 p q),<-Au5];rfl
theorem Wg:HC (rqF p) (rqF q)=some (rqF (p*q)):=by
 unfold HC;simp only[V8,Aj4,U3,Kg (k:=k) (by omega) hp.1 hq.1,Kg (k:=k) (by omega) (CA hp.2) (CA hq.2),za0,Ha];rw[Lr (k:=k+k) (by omega) (Ja hp.1 hq.1) (Ja (CA hp.2) (CA hq.2)) (J0 p q),<-Au7];rfl
theorem AE1(h0:q≠0):LG (rqF p) (rqF q)=some (rqF (p/q)):=by
 unfold LG;simp only[V8,Aj4,U3,Kg (k:=k) (by omega) hp.1 (CA hq.2),Kg (k:=k) (by omega) (CA hp.2) hq.1,za0,Ha];rw[Lr (k:=k+k) (by omega) (Ja hp.1 (CA hq.2)) (Ja (CA hp.2) hq.1) (by
  intro h;rcases Int.mul_eq_zero.1 h with h|h
  ·exact YA _ h
  ·exact h0 (Rat.num_eq_zero.1 h)),<-Au6]
 rfl
end
theorem AE3{p q:Rat}{k:Nat}(hk:k<=20000)(hp:Sz k p)(hq:Sz k q):LI (rqF p) (rqF q)=some (rqF (p-q)):=by
 unfold LI;simp only[F5,AE2 (k:=k) (by omega) hq,za0,QR hk hp (Zg hq)];rw[Rat.sub_eq_add_neg]
theorem XM{q:Rat}{k:Nat}(hk:k<=1000000)(hq:Sz k q):Gd (rqF q)=some (FO q):=by
 unfold Gd FO;have e1:((((rqF q).2.1.length:Nat):Int)>40)↔¬((q.num.natAbs:Int)<B 40):=by
  rw[<-Al];show((((lim q.num.natAbs).length:Nat):Int)>40)↔_;omega
 have e2:((((rqF q).2.2.2.length:Nat):Int)>40)↔¬((q.den:Int)<B 40):=by
  rw[<-Al];have:(rqF q).2.2.2=lim q.den:=by show(big (q.den:Int)).2=_;rw[Hu]
  rw[this];omega
 by_cases h1:(q.num.natAbs:Int)<B 40
 ·rw[zq (fun h=>e1.1 h h1)];by_cases h2:(q.den:Int)<B 40
  ·rw[zq (fun h=>e2.1 h h2),zw ⟨h1,h2⟩];simp only[cond_false];rw[show(rqF q).1=(big q.num).1 from rfl,show(rqF q).2.1=(big q.num).2 from rfl,show(rqF q).2.2.2=(big (q.den:Int)).2 from rfl,U7 (k:=40) (by omega) h1,Ak2 (k:=40) (by omega) h2];rfl
  ·rw[zp (e2.2 h2),zi (fun h=>h2 h.2)];rfl
 ·rw[zp (e1.2 h1),zi (fun h=>h1 h.1)];rfl
theorem LX{q:Rat}(h:Sz 40 q):FO q=(rqF q,true):=zw h
theorem OC{q:Rat}(h:¬Sz 40 q):FO q=(zF,false):=zi h
theorem AI5{a b:RF}(ha:BrF a)(hb:BrF b):DZ [((a.1,a.2.1),(a.2.2.1,a.2.2.2)),((b.1,b.2.1),(b.2.2.1,b.2.2.2))]=some (C3 (toQ a)&&C3 (toQ b)):=by
 rw[Ag8 (by simp) (by intro x hx;simp at hx;rcases hx with rfl|rfl;exact ha;exact hb)];simp[toQ]
section
variable {p q:Rat} (hp:Sz 40 p) (hq:Sz 40 q)
include hp hq
theorem ZA:DZ [(((rqF p).1,(rqF p).2.1),((rqF p).2.2.1,(rqF p).2.2.2)),(((rqF q).1,(rqF q).2.1),((rqF q).2.2.1,(rqF q).2.2.2))]=some true:=by
 rw[AI5 (N4 (k:=40) (by omega) hp) (N4 (k:=40) (by omega) hq),Sf hp,Sf hq];rfl
theorem Aq5:HM (rqF p) (rqF q)=some (FO (p+q)):=by
 unfold HM;rw[ZA hp hq];simp only[obs,nT,cF,Ha,Gp (k:=40) (by omega) hp hq,J6]
theorem Aq6:HN (rqF p) (rqF q)=some (FO (p*q)):=by
 unfold HN;rw[ZA hp hq];simp only[obs,nT,cF,Ha,L1 (k:=40) (by omega) hp hq,J6]
end
section
variable {a b:RF} (ha:BrF a) (hb:BrF b) (h:(C3 (toQ a)&&C3 (toQ b))=false)
include ha hb h
end
def Lp(n d:Int):RF×Bool:=if d=0\/¬n.natAbs<=4611686018427387904\/¬d.natAbs<=4611686018427387904 then(zF,false)else(rqF (Rat.divInt n d),true)
theorem B4:B 4=18446744073709551616:=rfl
theorem AB7(n d:Int):Jf n d=some (Lp n d):=by
 unfold Jf Lp;by_cases h0:d=0
 ·rw[zw (.inl h0),h0];rfl
 ·rw[show(d==0)=false from beq_eq_false_iff_ne.2 h0];simp only[cond_false,OL,za0];by_cases h1:n.natAbs<=4611686018427387904
  ·rw[show(decide (-4611686018427387904<=n)&&decide (n<=4611686018427387904))=true by simp;omega];by_cases h2:d.natAbs<=4611686018427387904
   ·rw[show(decide (-4611686018427387904<=d)&&decide (d<=4611686018427387904))=true by simp;omega,zi (by omega)];simp only[Bool.not_true,cond_false,NC (n:=n) (by omega) (by omega),NC (n:=d) (by omega) (by omega),za0,Ha,QG (k:=4) (by omega) (x:=n) (y:=d) (by rw[B4];omega) (by rw[B4];omega) h0]
   ·rw[show(decide (-4611686018427387904<=d)&&decide (d<=4611686018427387904))=false by
     rw[Bool.and_eq_false_iff];simp only[decide_eq_false_iff_not];omega,zw (.inr (.inr h2))]
    rfl
  ·rw[show(decide (-4611686018427387904<=n)&&decide (n<=4611686018427387904))=false by
    rw[Bool.and_eq_false_iff];simp only[decide_eq_false_iff_not];omega,zw (.inr (.inl h1))]
   rfl
theorem Ab0(n d:Int):Ji n d=some (Lp n d):=by
 unfold Ji Lp;simp only[Wd,za0];by_cases h1:n.natAbs<=4611686018427387904
 ·rw[show(decide (-4611686018427387904<=n)&&decide (n<=4611686018427387904))=true by simp;omega];by_cases h2:d.natAbs<=4611686018427387904
  ·rw[show(decide (-4611686018427387904<=d)&&decide (d<=4611686018427387904))=true by simp;omega];by_cases h0:d=0
   ·rw[zw (.inl h0),h0];rfl
   ·rw[show(d==0)=false from beq_eq_false_iff_ne.2 h0,zi (by omega)];simp only[Bool.not_true,cond_false,QQ (n:=n) (by omega) (by omega),QQ (n:=d) (by omega) (by omega),za0,Ha,Lr (k:=4) (by omega) (x:=n) (y:=d) (by rw[B4];omega) (by rw[B4];omega) h0]
  ·rw[show(decide (-4611686018427387904<=d)&&decide (d<=4611686018427387904))=false by
    rw[Bool.and_eq_false_iff];simp only[decide_eq_false_iff_not];omega,zw (.inr (.inr h2))]
   rfl
 ·rw[show(decide (-4611686018427387904<=n)&&decide (n<=4611686018427387904))=false by
   rw[Bool.and_eq_false_iff];simp only[decide_eq_false_iff_not];omega,zw (.inr (.inl h1))]
  rfl
theorem SL{n d:Int}(h0:d≠0)(h1:n.natAbs<=4611686018427387904)(h2:d.natAbs<=4611686018427387904):Lp n d=(rqF (Rat.divInt n d),true):=by
 unfold Lp;rw[zi (by omega)]
theorem SM{n d:Int}(h0:d≠0)(h1:n.natAbs<=4611686018427387904)(h2:d.natAbs<=4611686018427387904):Sz 4 (Rat.divInt n d):=JM (by rw[B4];omega) (by rw[B4];omega) h0
theorem UN{a:RF}(h1:a.2.1.length<=1000000)(h2:a.2.2.2.length<=1000000):Bh a a=some true:=by
 unfold Bh;rw[UM (a:=(a.1,a.2.1)) h1,UM (a:=(a.2.2.1,a.2.2.2)) h2];rfl
theorem J8{q:Rat}{k:Nat}(hk:k<=1000000)(h:Sz k q):Bh (rqF q) (rqF q)=some true:=
 UN (zd0 (Al.2 h.1) hk) (zd0 (Al.2 (CA h.2)) hk)
theorem Lj:Bh zF zF=some true:=UN (by simp[zF]) (by simp[zF])
theorem Sq(q:Rat):Bh (FO q).1 (FO q).1=some true:=by
 by_cases h:Sz 40 q
 ·rw[LX h];exact J8 (k:=40) (by omega) h
 ·rw[OC h];exact Lj
end
section
open Go
def ShF(a:RF):Prop:=a.2.1.length<=100/\a.2.2.2.length<=100
theorem ShF.br{a:RF}(h:ShF a):BrF a:=by unfold ShF at h;unfold BrF Ar;omega
theorem AG8{q:Rat}{k:Nat}(hk:k<=100)(h:Sz k q):ShF (rqF q):=⟨zd0 (Al.2 h.1) hk,zd0 (Al.2 (CA h.2)) hk⟩
theorem AR5:ShF zF:=by unfold ShF zF;simp
theorem Ai8(n d:Int):ShF (Lp n d).1:=by
 unfold Lp
 split
 ·exact AR5
 ·exact AG8 (k:=4) (by omega) (SM (by omega) (by omega) (by omega))
theorem AL9{B':Nat}{c:List Int×Int×Int}(h:Cur B' c)(hB:B'<=900000000):∃c' a,Gx c=some (c',a)/\Cur (B'+700) c'/\ShF a:=by
 unfold Gx;obtain⟨c0,v0,e0,q0⟩:=OX h (by omega) 12;simp only[e0,obs,Ha];cases v0
 ·obtain⟨c1,v1,e1,q1,a1,b1⟩:=EU q0 (by omega) 41;obtain⟨c2,v2,e2,q2,a2,b2⟩:=EU q1 (by omega) 12;simp only[cF,e1,e2,obs,Ab0,Ha];exact⟨_,_,rfl,q2.mono (by omega),Ai8 _ _⟩
 ·obtain⟨c1,x,e1,q1,l1⟩:=An2 q0 (by omega);obtain⟨c2,y,e2,q2,l2⟩:=An2 q1 (by omega);simp only[cT,e1,e2,obs,Ha,L8 (show Ar x.2 by unfold Ar;omega),L8 (show Ar y.2 by unfold Ar;omega)];have fin:∃c' a,(some ((c2,(x.1,(x.2,y))):(List Int×Int×Int)×RF))=some (c',a)/\Cur (B'+700) c'/\ShF a:=⟨_,_,rfl,q2.mono (by omega),l1,l2⟩;cases hx:EB x with
  |false=>simp only[cF];exact fin
  |true=>
   simp only[cT];cases hy:EB y with
   |false=>simp only[cF];exact fin
   |true=>
    simp only[cT];obtain⟨u,hu,rfl⟩:=Eu.1 hx;obtain⟨v,hv,rfl⟩:=Eu.1 hy;have hz:=J9 v;by_cases h0:v=0
    ·subst h0;have:decide ((((big 0).2.length:Nat):Int)>0)=false:=by simp[big,BF]
     rw[this];simp only[cF];exact fin
    ·rw[zq h0]at hz;have:decide ((((big v).2.length:Nat):Int)>0)=true:=by
      rw[beq_eq_false_iff_ne]at hz;exact zp (by omega)
     rw[this];simp only[cT,Lr (k:=40) (by omega) hu hv h0,obs];exact⟨_,_,rfl,q2.mono (by omega),AG8 (k:=40) (by omega) (JM hu hv h0)⟩
end
section
open Go
theorem AL5{k:Nat}(hk:1<=k):Sz k (1:Rat):=Wl (z:=1) (AG4 hk) hk
theorem Aw4:CB (1:Int)=some (rqF 1):=QS (by omega) (by omega)
end
section
open Go
def lin(M:Nat->Rat):Nat->List Rat->Rat
 |_,[]=>0
 |i,a::l=>a*M i+lin M (i+1) l
theorem SA(M:Nat->Rat):∀(l m:List Rat)(i:Nat),lin M i (l++m)=lin M i l+lin M (i+l.length) m
 |[],m,i=>by
  show lin M i m=0+lin M (i+0) m;rw[Nat.add_zero];grind
 |a::l,m,i=>by
  show a*M i+lin M (i+1) (l++m)=a*M i+lin M (i+1) l+lin M (i+(l.length+1)) m;rw[SA M l m (i+1),show i+1+l.length=i+(l.length+1) by omega]
  grind
theorem NK(M:Nat->Rat):∀(n i:Nat),lin M i (List.replicate n 0)=0
 |0,i=>rfl
 |n+1,i=>by
  show 0*M i+lin M (i+1) (List.replicate n 0)=0;rw[NK M n (i+1)]
  grind
theorem VP(M:Nat->Rat):∀(l:List Rat)(i j:Nat)(c:Rat),j<l.length->lin M i (l.set j c)=lin M i l+(c-l.getD j 0)*M (i+j)
 |[],i,j,c,h=>absurd h (by simp)
 |a::l,i,0,c,h=>by
  show c*M i+lin M (i+1) l=a*M i+lin M (i+1) l+(c-a)*M (i+0);rw[Nat.add_zero];grind
 |a::l,i,j+1,c,h=>by
  have ih:=VP M l (i+1) j c (by simpa using h);show a*M i+lin M (i+1) (l.set j c)=a*M i+lin M (i+1) l+(c-l.getD j 0)*M (i+(j+1));rw[ih,show i+1+j=i+(j+1) by omega]
  grind
theorem IW(M:Nat->Rat)(c:Rat):∀(l:List Rat)(i:Nat),lin (fun j=>c*M j) i l=c*lin M i l
 |[],i=>by show(0:Rat)=c*0;grind
 |a::l,i=>by
  show a*(c*M i)+lin (fun j=>c*M j) (i+1) l=c*(a*M i+lin M (i+1) l);rw[IW M c l (i+1)]
  grind
theorem As5(M:Nat->Rat):∀(l:List Rat)(i:Nat),lin M i l=lin (fun k=>M (i+k)) 0 l:=by
 have key:∀(l:List Rat)(i j:Nat),lin M (i+j) l=lin (fun k=>M (i+k)) j l:=by
  intro l
  induction l with
  |nil=>intro i j;rfl
  |cons a l ih=>
   intro i j;show a*M (i+j)+lin M (i+j+1) l=a*M (i+j)+lin (fun k=>M (i+k)) (j+1) l;rw[show i+j+1=i+(j+1) by omega,ih i (j+1)]
 intro l i;exact key l i 0
def dlt(j i:Nat):Rat:=if i=j then 1 else 0
theorem Hx(j:Nat):∀(l:List Rat)(i:Nat),lin (dlt j) i l=if i<=j then l.getD (j-i) 0 else 0
 |[],i=>by
  show(0:Rat)=_;simp
 |a::l,i=>by
  show a*dlt j i+lin (dlt j) (i+1) l=_;rw[Hx j l (i+1)];unfold dlt;by_cases h1:i=j
  ·subst h1;rw[zw rfl,zi (by omega),zw (za8 _),Nat.sub_self];show a*1+0=a
   grind
  ·rw[zi h1];by_cases h2:i<=j
   ·rw[zw (show i+1<=j by omega),zw h2,show j-i=(j-(i+1))+1 by omega];show a*0+l.getD (j-(i+1)) 0=l.getD (j-(i+1)) 0
    grind
   ·rw[zi (show ¬i+1<=j by omega),zi h2]
    grind
theorem WX{l m:List Rat}(h:∀M,lin M 0 l=lin M 0 m)(j:Nat):l.getD j 0=m.getD j 0:=by
 have:=h (dlt j);rw[Hx,Hx,zw (zf5 _),zw (zf5 _)]at this;exact this
def A7(l:List Rat):List Rat:=(l.reverse.dropWhile (· ==0)).reverse
theorem Gr(l:List Rat)(a:Rat):A7 (l++[a])=if a=0 then A7 l else l++[a]:=by
 unfold A7;rw[List.reverse_append,List.reverse_singleton,List.singleton_append,List.dropWhile_cons];by_cases h:a=0
 ·rw[zw h,h];rfl
 ·rw[zi h,zi (by simpa using h),List.reverse_cons,List.reverse_reverse]
theorem Lx{P:List Rat->Prop}(h0:P [])(h1:∀l a,P l->P (l++[a])):∀l,P l:=by
 intro l;have:∀n (l:List Rat),l.length=n->P l:=by
  intro n
  induction n with
  |zero=>intro l h;rw[zb3 h];exact h0
  |succ n ih=>
   intro l h;have hne:l≠[]:=fun e=>by rw[e]at h;simp at h
   rw[<-List.dropLast_concat_getLast hne];exact h1 _ _ (ih _ (by rw[List.length_dropLast];omega))
 exact this _ l rfl
theorem Ll(M:Nat->Rat)(i:Nat):∀l:List Rat,lin M i (A7 l)=lin M i l:=by
 refine Lx rfl fun l a ih=> ?_
 rw[Gr];by_cases h:a=0
 ·rw[zw h,ih,SA,h];show lin M i l=lin M i l+(0*M (i+l.length)+0)
  grind
 ·rw[zi h]
theorem Mc(l:List Rat)(j:Nat):(A7 l).getD j 0=l.getD j 0:=WX (fun M=>Ll M 0 l) j
theorem C5:∀l:List Rat,(A7 l).length<=l.length:=by
 refine Lx (za8 _) fun l a ih=> ?_
 rw[Gr]
 split
 ·rw[ze5];simp;omega
 ·exact za8 _
theorem JN:∀l:List Rat,A7 l=[]\/∃m a,A7 l=m++[a]/\a≠0:=by
 refine Lx (.inl rfl) fun l a ih=> ?_
 rw[Gr];by_cases h:a=0
 ·rw[zw h];exact ih
 ·rw[zi h];exact .inr ⟨l,a,rfl,h⟩
def Nv(l:List Rat):Prop:=l=[]\/∃m a,l=m++[a]/\a≠0
theorem Ak9{l:List Rat}(h:Nv l):A7 l=l:=by
 rcases h with rfl|⟨m,a,rfl,ha⟩
 ·rfl
 ·rw[Gr,zi ha]
theorem Zk{l:List Rat}{n:Nat}(h:∀j,n<=j->l.getD j 0=0):(A7 l).length<=n:=by
 rcases JN l with e|⟨m,a,e,ha⟩
 ·rw[e];simp
 ·rcases zd3 n (A7 l).length with hlt|hge
  ·exfalso
   have h1:=h m.length (by rw[e,ze5]at hlt;simp at hlt;omega);rw[<-Mc,e]at h1;simp at h1;exact ha h1
  ·exact hge
theorem W5{l m:List Rat}(hl:Nv l)(hm:Nv m)(h:∀j,l.getD j 0=m.getD j 0):l=m:=by
 have len:∀{l m:List Rat},Nv l->(∀j,l.getD j 0=m.getD j 0)->l.length<=m.length:=by
  intro l m hl h;rcases hl with rfl|⟨k,a,rfl,ha⟩
  ·simp
  ·rcases zd3 m.length (k++[a]).length with hlt|hge
   ·exfalso
    have h1:=h k.length;rw[ze5]at hlt;simp at hlt;rw[show m.getD k.length 0=0 by rw[za4,List.getElem?_eq_none (by omega)];rfl]at h1;simp at h1;exact ha h1
   ·exact hge
 have e:l.length=m.length:=Nat.le_antisymm (len hl h) (len hm fun j=>(h j).symm);refine List.ext_getElem e fun j h1 h2=> ?_
 have:=h j;rw[za4,za4,za1 h1,za1 h2]at this;exact this
def GQ:List Rat->List Rat->List Rat
 |[],q=>q
 |p,[]=>p
 |a::p,b::q=>(a+b)::GQ p q
theorem NI(M:Nat->Rat):∀(p q:List Rat)(i:Nat),lin M i (GQ p q)=lin M i p+lin M i q
 |[],q,i=>by
  cases q<;>simp[GQ,lin]<;>grind
 |a::p,[],i=>by
  show lin M i (a::p)=lin M i (a::p)+0
  grind
 |a::p,b::q,i=>by
  show(a+b)*M i+lin M (i+1) (GQ p q)=a*M i+lin M (i+1) p+(b*M i+lin M (i+1) q);rw[NI M p q (i+1)]
  grind
def KZ(out:List Rat)(j:Nat)(c:Rat):List Rat:=out.set j (out.getD j 0+c)
theorem Ui(out:List Rat)(j:Nat)(c:Rat):(KZ out j c).length=out.length:=by simp[KZ]
theorem Ah7(M:Nat->Rat){out:List Rat}{j:Nat}(h:j<out.length)(c:Rat):lin M 0 (KZ out j c)=lin M 0 out+c*M j:=by
 unfold KZ;rw[VP M out 0 j _ h,ze6]
 grind
def E6(a:Rat):List Rat->List Rat->Nat->List Rat
 |out,[],_=>out
 |out,b::q,j=>E6 a (KZ out j (a*b)) q (j+1)
theorem Ik(a:Rat):∀(q out:List Rat)(j:Nat),(E6 a out q j).length=out.length
 |[],out,j=>rfl
 |b::q,out,j=>by
  show(E6 a (KZ out j (a*b)) q (j+1)).length=_;rw[Ik a q,Ui]
theorem NJ(M:Nat->Rat)(a:Rat):∀(q out:List Rat)(j:Nat),j+q.length<=out.length->lin M 0 (E6 a out q j)=lin M 0 out+a*lin M j q
 |[],out,j,h=>by
  show lin M 0 out=lin M 0 out+a*0
  grind
 |b::q,out,j,h=>by
  rw[zc6]at h;show lin M 0 (E6 a (KZ out j (a*b)) q (j+1))=lin M 0 out+a*(b*M j+lin M (j+1) q);rw[NJ M a q _ (j+1) (by rw[Ui];omega),Ah7 M (by omega)]
  grind
def bil(M:Nat->Rat)(i:Nat)(p q:List Rat):Rat:=lin (fun k=>lin M k q) i p
def Jb(q:List Rat):List Rat->List Rat->Nat->List Rat
 |out,[],_=>out
 |out,a::p,i=>Jb q (E6 a out q i) p (i+1)
theorem Xr(M:Nat->Rat)(q:List Rat):∀(p out:List Rat)(i:Nat),i+p.length+q.length<=out.length->lin M 0 (Jb q out p i)=lin M 0 out+bil M i p q
 |[],out,i,h=>by
  show lin M 0 out=lin M 0 out+0
  grind
 |a::p,out,i,h=>by
  rw[zc6]at h;show lin M 0 (Jb q (E6 a out q i) p (i+1))=lin M 0 out+(a*lin M i q+bil M (i+1) p q);rw[Xr M q p _ (i+1) (by rw[Ik];omega),NJ M a q out i (by omega)]
  grind
def KA(p q:List Rat):List Rat:=A7 (Jb q (List.replicate (p.length+q.length) 0) p 0)
theorem Xs(M:Nat->Rat)(p q:List Rat):lin M 0 (KA p q)=bil M 0 p q:=by
 unfold KA;rw[Ll,Xr M q p _ 0 (by simp),NK]
 grind
def pw(x:Rat):Nat->Rat
 |0=>1
 |n+1=>pw x n*x
theorem Y5(x:Rat)(i:Nat):∀k,pw x (i+k)=pw x i*pw x k
 |0=>by show pw x i=pw x i*1;grind
 |k+1=>by
  show pw x (i+k)*x=pw x i*(pw x k*x);rw[Y5 x i k]
  grind
def evP(p:List Rat)(x:Rat):Rat:=lin (pw x) 0 p
theorem AJ5(p q:List Rat)(x:Rat):evP (KA p q) x=evP p x*evP q x:=by
 unfold evP;rw[Xs];unfold bil;have e:(fun k=>lin (pw x) k q)=fun k=>lin (pw x) 0 q*pw x k:=by
  funext k
  rw[As5];have:(fun j=>pw x (k+j))=fun j=>pw x k*pw x j:=funext fun j=>Y5 x k j
  rw[this,IW]
  grind
 rw[e,IW]
 grind
theorem AB4(p:List Rat)(x:Rat):evP (A7 p) x=evP p x:=Ll _ 0 p
theorem AJ4(p q:List Rat)(x:Rat):evP (GQ p q) x=evP p x+evP q x:=NI _ p q 0
def Sj(x:Rat)(p:List Rat):Rat:=p.foldr (fun a v=>v*x+a) 0
theorem QF(x:Rat):∀p:List Rat,Sj x p=evP p x
 |[]=>rfl
 |a::p=>by
  show Sj x p*x+a=a*pw x 0+lin (pw x) (0+1) p;rw[QF x p,As5 (pw x) p (0+1)];have:(fun k=>pw x (0+1+k))=fun k=>x*pw x k:=funext fun k=>by
   rw[Y5];show 1*x*pw x k=x*pw x k
   grind
  rw[this,IW];show evP p x*x+a=a*1+x*evP p x
  grind
def FS(q:List Rat):Rat:=q.getD (q.length-1) 0
def DF(q:List Rat)(i:Nat)(s:List Rat×List Rat):List Rat×List Rat:=
 (E6 (-(s.1.getD (i+(q.length-1)) 0/FS q)) s.1 q i,s.2.set i (s.1.getD (i+(q.length-1)) 0/FS q))
def I4(q:List Rat):Nat->List Rat×List Rat->List Rat×List Rat
 |0,s=>s
 |i+1,s=>I4 q i (DF q i s)
theorem La(q:List Rat)(i:Nat)(s:List Rat×List Rat):(DF q i s).1.length=s.1.length/\(DF q i s).2.length=s.2.length:=⟨Ik _ _ _ _,by simp[DF]⟩
theorem Xq(M:Nat->Rat)(q:List Rat):∀(i:Nat)(s:List Rat×List Rat),i<=s.2.length->i+q.length<=s.1.length+1->(∀j,j<i->s.2.getD j 0=0)->
  lin M 0 (I4 q i s).1+bil M 0 (I4 q i s).2 q=lin M 0 s.1+bil M 0 s.2 q
 |0,s,_,_,_=>rfl
 |i+1,s,h1,h2,h3=>by
  obtain⟨k1,k2⟩:=La q i s;have ih:=Xq M q i (DF q i s) (by omega) (by omega) (fun j hj=>by
   have:=h3 j (by omega);show(s.2.set i _).getD j 0=0;rw[za4,List.getElem?_set_ne (by omega),<-za4];exact this)
  show lin M 0 (I4 q i (DF q i s)).1+bil M 0 (I4 q i (DF q i s)).2 q=_;rw[ih];show lin M 0 (E6 _ s.1 q i)+lin (fun k=>lin M k q) 0 (s.2.set i _)=lin M 0 s.1+lin (fun k=>lin M k q) 0 s.2;rw[NJ M _ q s.1 i (by omega),VP _ s.2 0 i _ (by omega),h3 i (by omega),ze6]
  grind
theorem SR(a:Rat):∀(q out:List Rat)(j m:Nat),j+q.length<=out.length->(E6 a out q j).getD m 0=out.getD m 0+(if j<=m/\m<j+q.length then a*q.getD (m-j) 0 else 0):=by
 intro q out j m h;have e:=NJ (dlt m) a q out j h;rw[Hx,Hx,Hx,zw (zf5 _),Nat.sub_zero]at e;rw[e]
 congr 1
 by_cases h1:j<=m
 ·rw[zw h1];by_cases h2:m<j+q.length
  ·rw[zw ⟨h1,h2⟩]
  ·rw[zi (fun h=>h2 h.2),show q.getD (m-j) 0=0 by rw[za4,List.getElem?_eq_none (by omega)];rfl]
   grind
 ·rw[zi h1,zi (fun h=>h1 h.1)]
  grind
theorem W0{q:List Rat}(hq:FS q≠0)(h0:0<q.length){i:Nat}{s:List Rat×List Rat}(h:i+q.length<=s.1.length){m:Nat}(hm:i+(q.length-1)<=m):
  (DF q i s).1.getD m 0=if m=i+(q.length-1)then 0 else s.1.getD m 0:=by
 show(E6 _ s.1 q i).getD m 0=_;rw[SR _ q s.1 i m h];by_cases e:m=i+(q.length-1)
 ·rw[zw e,zw ⟨by omega,by omega⟩,e,show i+(q.length-1)-i=q.length-1 by omega];show s.1.getD (i+(q.length-1)) 0+ -(s.1.getD (i+(q.length-1)) 0/FS q)*FS q=0;have hd:=Rat.div_mul_cancel hq (a:=s.1.getD (i+(q.length-1)) 0)
  grind
 ·rw[zi e,zi (by omega)]
  grind
theorem WZ{q:List Rat}(hq:FS q≠0)(h0:0<q.length):∀(i:Nat)(s:List Rat×List Rat),i+q.length<=s.1.length+1->(∀m,i+(q.length-1)<=m->s.1.getD m 0=0)->
  ∀m,q.length-1<=m->(I4 q i s).1.getD m 0=0
 |0,s,_,h,m,hm=>h m (by omega)
 |i+1,s,h1,h,m,hm=>by
  refine WZ hq h0 i (DF q i s) (by rw[(La q i s).1];omega) (fun m hm=> ?_) m hm
  rw[W0 hq h0 (by omega) hm];by_cases e:m=i+(q.length-1)
  ·rw[zw e]
  ·rw[zi e];exact h m (by omega)
theorem AJ1{p q:List Rat}(hq:FS q≠0)(h0:0<q.length){k n:Nat}(hk:k=p.length+1-q.length)(hn:k<=n)(M:Nat->Rat):
  lin M 0 (I4 q k (p,List.replicate n 0)).1+bil M 0 (I4 q k (p,List.replicate n 0)).2 q=lin M 0 p:=by
 have zz:∀j,(List.replicate n (0:Rat)).getD j 0=0:=fun j=>by
  rw[za4,zc8]
  split<;>rfl
 by_cases hle:q.length<=p.length
 ·rw[Xq M q k _ (by simp;omega) (by simp only;omega) (fun j _=>zz j)];show lin M 0 p+lin _ 0 (List.replicate n 0)=lin M 0 p;rw[NK]
  grind
 ·have:k=0:=by omega
  subst this;show lin M 0 p+lin _ 0 (List.replicate n 0)=lin M 0 p;rw[NK]
  grind
theorem Af0{p q:List Rat}(hq:FS q≠0)(h0:0<q.length){k n:Nat}(hk:k=p.length+1-q.length):(A7 (I4 q k (p,List.replicate n 0)).1).length<q.length:=by
 have over:∀m,p.length<=m->p.getD m 0=0:=fun m hm=>by rw[za4,List.getElem?_eq_none hm];rfl
 have h:=Zk (l:=(I4 q k (p,List.replicate n 0)).1) (n:=q.length-1) (fun j hj=>by
  by_cases hle:q.length<=p.length
  ·exact WZ hq h0 k _ (by simp only;omega) (fun m hm=>over m (by omega)) j hj
  ·have:k=0:=by omega
   subst this;exact over j (by omega))
 omega
end
section
open Go
def Szs(k:Nat)(l:List Rat):Prop:=∀a∈l,Sz k a
theorem Szs.mono{k m:Nat}{l:List Rat}(h:Szs k l)(hkm:k<=m):Szs m l:=fun a ha=>(h a ha).mono hkm
theorem sz0{k:Nat}(hk:1<=k):Sz k (0:Rat):=Sz.mono (k:=1) (by
 have:=Wl (z:=0) (k:=1) (by rw[B1];decide) (by omega);exact this) hk
theorem N5{n k:Nat}(hk:1<=k):Szs k (List.replicate n 0):=fun a ha=>by rw[List.eq_of_mem_replicate ha];exact sz0 hk
theorem DL{k:Nat}(hk:1<=k){l:List Rat}(h:Szs k l)(j:Nat):Sz k (l.getD j 0):=by
 rw[za4];cases hj:l[j]? with
 |none=>exact sz0 hk
 |some a=>exact h a (za5 hj)
theorem AF0{k:Nat}{l:List Rat}(h:Szs k l){a:Rat}(ha:Sz k a)(j:Nat):Szs k (l.set j a):=fun b hb=>by
 rcases List.mem_or_eq_of_mem_set hb with hb|rfl
 ·exact h b hb
 ·exact ha
theorem Ay1{l:List Rat}{a:Rat}(h:a∈A7 l):a∈l:=by
 unfold A7 at h;have h:=List.mem_reverse.1 h;exact List.mem_reverse.1 ((List.dropWhile_sublist _).subset h)
theorem ER{k:Nat}{l:List Rat}(h:Szs k l):Szs k (A7 l):=fun a ha=>h a (Ay1 ha)
theorem Aa7{k m n:Nat}(hk:1<=k){a:Rat}(ha:Sz m a):∀(q out:List Rat)(j:Nat),Szs n q->j+q.length<=out.length->Szs k out->Szs (k+(m+n)+1) (E6 a out q j):=by
 intro q out j hq hlen ho x hx;obtain⟨i,hi⟩:=ze3 hx;have hxe:(E6 a out q j).getD i 0=x:=by rw[za4,hi];rfl
 rw[<-hxe,SR a q out j i hlen];have h1:=DL hk ho i;by_cases h:j<=i/\i<j+q.length
 ·rw[zw h];obtain⟨b,hb⟩:∃b,q[i-j]? =some b:=⟨q[i-j],za1 (by omega)⟩;rw[show q.getD (i-j) 0=b by rw[za4,hb];rfl];exact Zf h1 (Lz ha (hq b (za5 hb)))
 ·rw[zi h,show out.getD i 0+0=out.getD i 0 by grind];exact h1.mono (by omega)
theorem QK{m n:Nat}{q:List Rat}(hq:Szs n q):∀(p out:List Rat)(i k:Nat),1<=k->Szs m p->i+p.length+q.length<=out.length->Szs k out->Szs (k+p.length*(m+n+1)) (Jb q out p i)
 |[],out,i,k,_,_,_,ho=>ho.mono (by omega)
 |a::p,out,i,k,hk,hp,hlen,ho=>by
  rw[zc6]at hlen;have h1:=Aa7 hk (hp a (by simp)) q out i hq (by omega) ho;have h2:=QK hq p (E6 a out q i) (i+1) (k+(m+n)+1) (by omega) (fun x hx=>hp x (by simp[hx])) (by rw[Ik];omega) h1;refine h2.mono ?_
  rw[zc6,zf2];omega
theorem ON{q:List Rat}(h0:0<q.length):FS q∈q:=by
 unfold FS;rw[za4,za1 (by omega)];exact List.getElem_mem _
theorem YC{q:List Rat}{m k:Nat}(hk:1<=k)(hq:Szs m q)(h0:0<q.length)(hl:FS q≠0){i:Nat}{s:List Rat×List Rat}(h1:i+q.length<=s.1.length)(hs:Szs k s.1):
  Sz (k+m) (s.1.getD (i+(q.length-1)) 0/FS q)/\Szs (2*k+2*m+1) (DF q i s).1:=by
 have hd:Sz (k+m) (s.1.getD (i+(q.length-1)) 0/FS q):=AN1 (DL hk hs _) (hq _ (ON h0)) hl;refine⟨hd,?_⟩
 exact(Aa7 hk (Zg hd) q s.1 i hq h1 hs).mono (by omega)
end
section
open Go
abbrev RQ1:=(Bool×List Int)×(Bool×List Int)
abbrev LQ:=List RQ1
def pq(l:List Rat):LQ:=l.map rq
theorem As(l:List Rat):(pq l).length=l.length:=List.length_map ..
theorem AL8(a:Rat):[rq a]=pq [a]:=(rfl)
theorem AL7(l m:List Rat):pq l++pq m=pq (l++m):=(List.map_append ..).symm
theorem Cx{l:List Rat}{k:Nat}{a:Rat}(h:l[k]? =some a):AI (pq l) (k:Int)=some (rq a):=by rw[Av,pq,zd5,h];rfl
theorem NQ{l:List Rat}{k:Nat}(h:k<l.length):AO (pq l) k=some (rq (l.getD k 0)):=by
 unfold AO pq;rw[zd5,za4,za1 h];rfl
theorem Y3(l:List Rat)(k:Nat)(a:Rat):(pq l).set k (rq a)=pq (l.set k a):=by unfold pq;rw[List.map_set]
theorem Vv{l:List Rat}{a:Rat}(h:l.length<=1000):D8 64 4 (pq l) [rq a]=some (pq (l++[a])):=by
 rw[Vu (by rw[As];simp[Ad];omega) (by rw[As];simp[Ad];omega),AL8,AL7]
theorem fl(a:Rat):(((rq a).1.1,((rq a).1.2,((rq a).2.1,(rq a).2.2))):RF)=rqF a:=(rfl)
theorem VJ{i n:Nat}{z:Int}(hz:z=(i:Int))(h:i<n):AJ z n=some i:=by rw[hz];exact Be h
theorem Xe{l:List Rat}{a:Rat}{n:Int}(hn:n=(l.length:Int)):AI (pq (l++[a])) n=some (rq a):=by
 rw[hn];exact Cx (by simp)
theorem Az5(a:Rat):((((rqF a).2.1.length:Nat):Int)==(0:Int))=decide (a=0):=by
 have h:=J9 a.num;rw[show(rqF a).2.1=(big a.num).2 from rfl,h];by_cases e:a=0
 ·rw[zp e,zp (by rw[e];rfl)]
 ·rw[zq e,zq (fun h=>e (Rat.num_eq_zero.1 h))]
theorem S0(a:Rat):HS (rqF a)=some (decide (a=0)):=by
 unfold HS;rw[Az5]
theorem Al0:∀l:List Rat,l.take (A7 l).length=A7 l:=by
 refine Lx rfl fun l a ih=> ?_
 rw[Gr];by_cases h:a=0
 ·rw[zw h,List.take_append_of_le_length (C5 l),ih]
 ·rw[zi h,zf1]
theorem Me(l:List Rat):A7 (A7 l)=A7 l:=Ak9 (JN l)
theorem L9{l:List Rat}(hl:l.length<=1000):Dv (pq l)=some (pq (A7 l)):=by
 have key:∀l:List Rat,l.length<=1000->Ag (fun(s:LQ)=>Ch s) (pq l)=some (pq (A7 l)):=by
  refine Lx (P:=fun l=>l.length<=1000->Ag (fun(s:LQ)=>Ch s) (pq l)=some (pq (A7 l))) ?_ ?_
  ·intro _;refine AE (show Ch (pq [])=_ from ?_)
   unfold Ch;rfl
  ·intro l a ih hl;rw[ze5,List.length_singleton]at hl;have hlen:(((pq (l++[a])).length:Nat):Int)=(l.length:Int)+1:=by rw[As];simp
   have hw:zj zk ((l.length:Int)+1-1)=(l.length:Int):=by rw[Ab (by omega) (by omega)];omega
   rw[Gr];by_cases h:a=0
   ·rw[zw h];refine(BG (f:=fun(s:LQ)=>Ch s) (s':=pq l) (show Ch (pq (l++[a]))=_ from ?_)).trans (ih (by omega))
    unfold Ch;rw[hlen,hw,zp (by omega),Xe rfl];simp only[cT,obs,fl,S0,zp h];rw[show KC (0:Int) (l.length:Int) (pq (l++[a])).length=some (0,l.length) by
     unfold KC;rw[zw ⟨by omega,by omega,by omega⟩];simp]
    simp only[obs,ze7];rw[show List.take l.length (pq (l++[a]))=pq l by rw[pq,pq,<-List.map_take,List.take_append_of_le_length (za8 _),zf1]]
   ·rw[zi h];refine AE (show Ch (pq (l++[a]))=_ from ?_)
    unfold Ch;rw[hlen,hw,zp (by omega),Xe rfl];simp only[cT,obs,fl,S0,zq h,cF]
 unfold Dv;rw[key l hl];simp only[obs];rw[show Ij (pq (A7 l)).length 64 4=true by
  have:=C5 l;unfold Ij;rw[As,zp (by unfold Ad;omega),zp (by unfold Ad;omega)];rfl]
 rfl
theorem OK{l:List Rat}(hl:l.length<=1000):FB (pq l)=some (pq (A7 l)):=by
 have key:∀n:Nat,n<=l.length->Ag (fun(s:LQ×Int)=>C8 s.1 s.2) (pq l,(n:Int))=some (pq l,(((A7 (l.take n)).length:Nat):Int)):=by
  intro n
  induction n with
  |zero=>
   intro _;refine AE (show C8 (pq l) ((0:Nat):Int)=_ from ?_)
   unfold C8;rfl
  |succ n ih=>
   intro hn;have hw:zj zk (((n+1:Nat):Int)-1)=(n:Int):=by rw[Ab (by omega) (by omega)];omega
   obtain⟨a,ha⟩:∃a,l[n]? =some a:=⟨l[n],za1 (by omega)⟩;have ht:l.take (n+1)=l.take n++[a]:=by rw[List.take_add_one,ha];rfl
   rw[ht,Gr];by_cases h:a=0
   ·rw[zw h];refine(BG (f:=fun(s:LQ×Int)=>C8 s.1 s.2) (s':=(pq l,(n:Int))) (show C8 (pq l) ((n+1:Nat):Int)=_ from ?_)).trans (ih (by omega))
    unfold C8;rw[hw,zp (by omega),Cx ha];simp only[cT,obs,fl,MG,h];rfl
   ·rw[zi h];refine AE (show C8 (pq l) ((n+1:Nat):Int)=_ from ?_)
    unfold C8;rw[hw,zp (by omega),Cx ha];simp only[cT,obs,fl,MG];rw[show(Ae5 a 0==0)=false by rw[beq_eq_false_iff_ne];exact fun e=>h (ZE.1 e)];simp only[cF,ze5,zc7,List.length_singleton];rw[Nat.min_eq_left (by omega)]
 unfold FB;have:=key l.length (za8 _);rw[As,this];have ht:=C5 l;simp only[obs,zf1];rw[show KC (0:Int) (((A7 l).length:Nat):Int) (pq l).length=some (0,(A7 l).length) by
  unfold KC;rw[As,zw ⟨by omega,by omega,by omega⟩];simp]
 simp only[obs,ze7];rw[show List.take (A7 l).length (pq l)=pq (A7 l) by unfold pq;rw[<-List.map_take,Al0]]
def Af7(l:List Rat):Bool:=decide (l.getD (l.length-1) 1≠0)
def AH(l:List Rat):Bool:=decide (l.length<=7)&&(l.all (fun q=>decide (Sz 6 q))&&Af7 l)
theorem Ap0{l:List Rat}:Af7 l=true↔Nv l:=by
 unfold Af7;rw[decide_eq_true_iff];rcases List.eq_nil_or_concat l with rfl|⟨m,a,rfl⟩
 ·exact⟨fun _=>.inl rfl,fun _=>by simp⟩
 ·rw[List.concat_eq_append,ze5,List.length_singleton,Nat.add_sub_cancel,show(m++[a]).getD m.length 1=a by simp];refine⟨fun h=>.inr ⟨m,a,rfl,h⟩,fun h=> ?_⟩
  rcases h with h|⟨m',a',h,h0⟩
  ·simp at h
  ·have:=List.append_inj' h rfl;have e:a=a':=by simpa using this.2
   rw[e];exact h0
theorem A9{l:List Rat}:AH l=true↔l.length<=7/\Szs 6 l/\Nv l:=by
 unfold AH;rw[za2,za2,decide_eq_true_iff,Ap0,za6];refine and_congr_right fun _=>and_congr_left fun _=> ?_
 exact⟨fun h a ha=>of_decide_eq_true (h a ha),fun h a ha=>zp (h a ha)⟩
theorem VG{q:Rat}{k:Nat}(hk:k<=1000000)(h:Sz k q):DX (rqF q)=some (decide (Sz 40 q))/\Fg (rqF q)=some (decide (Sz 40 q)):=by
 have e:C3 (toQ (rqF q))=decide (Sz 40 q):=by
  by_cases h:Sz 40 q
  ·rw[zp h,Sf h]
  ·rw[zq h];cases hg:C3 (toQ (rqF q))with
   |false=>rfl
   |true=>
    obtain⟨p,hp,e⟩:=OE.1 hg;exact absurd ((AM2 (show rq q=rq p from e))▸hp) h
 rw[OJ (N4 hk h),U5 (N4 hk h),e];exact⟨rfl,rfl⟩
theorem U6(q:Rat):Fh (rqF q)=some (decide (Sz 6 q)):=by
 have:=JB (q:=q) (n:=6);unfold BJ at this;unfold Fh;exact this
theorem Im{q:Rat}(h:Sz 6 q):Sz 40 q:=h.mono (by omega)
theorem ZZ{q:Rat}{k:Nat}(hk:k<=1000000)(h:Sz k q):Ho 6 (rqF q)=some (6, !decide (Sz 6 q)):=by
 unfold Ho;simp only[F5,(VG hk h).1,obs];by_cases h6:Sz 6 q
 ·rw[zp (Im h6)];simp only[nT,cF];rw[show(6:Int)=((6:Nat):Int)from rfl,JB];rfl
 ·by_cases h40:Sz 40 q
  ·rw[zp h40];simp only[nT,cF];rw[show(6:Int)=((6:Nat):Int)from rfl,JB];rfl
  ·rw[zq h40,zq h6];rfl
theorem Uz{ρ:Type}{f:Rat->Bool}{r:ρ}:∀l:List Rat,JA (ρ:=ρ) (fun(_:Unit) a=>if f a then .inr ()else .inl r) () l=if l.all f then .inr ()else .inl r
 |[]=>rfl
 |a::l=>by
  unfold JA;rw[zc1];cases h:f a with
  |true=>simp only[if_true,ze4];exact Uz l
  |false=>simp
theorem UO{l:List Rat}(h:l≠[])(h1:l.length<=1000):AI (pq l) (zj zk ((l.length:Int)-1))=some (rq (l.getD (l.length-1) 0))/\l.getD (l.length-1) 1=l.getD (l.length-1) 0:=by
 have h0:=List.length_pos_iff.2 h;have e:l[l.length-1]? =some l[l.length-1]:=za1 (by omega);rw[Ab (by omega) (by omega),show(l.length:Int)-1=((l.length-1:Nat):Int) by omega,Cx e,za4,za4,e];exact⟨rfl,rfl⟩
def okC(q:Rat):Bool:=decide (Sz 6 q)
theorem ZQ(l:List Rat):AH l=(decide (l.length<=7)&&(l.all okC&&Af7 l)):=(rfl)
theorem Ar4{l:List Rat}{k:Nat}(hk:k<=1000000)(h:Szs k l)(hl:l.length<=1000):A2 6 (pq l)=some (6, !l.all okC):=by
 unfold A2 BO;have key:∀(n k':Nat),k'+n=l.length->∃r,Ag (fun(s:Int×LQ×Int×Int)=>Ak s.1 s.2.1 s.2.2.1 s.2.2.2) (6,(pq l,((l.length:Int),(k':Int))))=some r/\
   if(l.drop k').all okC then r=.inl 6 else ∃j:Nat,r=.inr (6,(j:Int)):=by
  intro n
  induction n with
  |zero=>
   intro k' hk';have:k'=l.length:=by omega
   subst this;refine⟨_,AE (show Ak 6 (pq l) (l.length:Int) (l.length:Int)=some (.inr (.inl 6))from ?_),?_⟩
   ·unfold Ak;rw[zq (by omega)];rfl
   ·rw[List.drop_length];rfl
  |succ n ih=>
   intro k' hk';have hlt:k'<l.length:=by omega
   have he:l[k']? =some l[k']:=za1 hlt;rw[zb9 hlt,zc1];have hz:=h _ (za5 he);by_cases h6:Sz 6 l[k']
   ·obtain⟨r,e,hr⟩:=ih (k'+1) (by omega);rw[show okC l[k']=true from zp h6,ze4];refine⟨r,(BG (f:=fun(s:Int×LQ×Int×Int)=>Ak s.1 s.2.1 s.2.2.1 s.2.2.2) (show Ak 6 (pq l) (l.length:Int) (k':Int)=_ from ?_)).trans e,hr⟩
    unfold Ak;rw[zp (by omega),Cx he];simp only[cT,obs,fl,ZZ hk hz,zp h6,nT,cF];rw[BM (by omega)]
   ·rw[show okC l[k']=false from zq h6,Bool.false_and];refine⟨_,AE (f:=fun(s:Int×LQ×Int×Int)=>Ak s.1 s.2.1 s.2.2.1 s.2.2.2) (r:=.inr (6,(k':Int))) (show Ak 6 (pq l) (l.length:Int) (k':Int)=_ from ?_),k',rfl⟩
    unfold Ak;rw[zp (by omega),Cx he];simp only[cT,obs,fl,ZZ hk hz,zq h6,nF]
 obtain⟨r,e,hr⟩:=key l.length 0 (by omega);rw[ze7]at hr;rw[As,show(0:Int)=((0:Nat):Int)from rfl,e];cases ha:l.all okC with
 |true=>rw[ha,zw rfl]at hr;rw[hr];rfl
 |false=>
  rw[ha,zi (by simp)]at hr;obtain⟨j,hj⟩:=hr;rw[hj];simp only[obs,sEr];rw[zp (by omega)];rfl
theorem QN{l:List Rat}:((((pq l).length:Nat):Int)==(0:Int))=decide (l=[]):=by
 rw[As];cases l with
 |nil=>rfl
 |cons a l=>rw[zq (by simp),beq_eq_false_iff_ne,zc6];omega
theorem Sl{l:List Rat}{k:Nat}(hk:k<=1000000)(h:Szs k l)(hl:l.length<=1000):Bj (pq l)=some (AH l):=by
 unfold Bj Mr;rw[ZQ,As];by_cases h7:l.length<=7
 ·rw[zq (show ¬(l.length:Int)>7 by omega),zp h7,Ar4 hk h hl];simp only[cF,obs,ze4];cases ha:l.all okC with
  |false=>rfl
  |true=>
   simp only[nT,cF,ze4];rw[<-As l,QN,As];by_cases hn:l=[]
   ·rw[zp hn,hn];rfl
   ·obtain⟨e1,e2⟩:=UO hn hl;rw[zq hn,e1];simp only[cF,obs,fl,MG];unfold Af7;rw[e2]
    congr 1
    by_cases hz:l.getD (l.length-1) 0=0
    ·rw[hz];rfl
    ·rw[zp hz,bne_iff_ne];exact fun e=>hz (ZE.1 e)
 ·rw[zp (show(l.length:Int)>7 by omega),zq h7];rfl
theorem Kf{l:List Rat}{k:Nat}(hk:k<=1000000)(h:Szs k l)(hl:l.length<=1000):Cc (pq l)=some (AH l):=by
 unfold Cc;obtain⟨h1,h2⟩:=Te (l:=l) (body:=fun(s:LQ×LQ×Int×Int)=>DS s.1 s.2.1 s.2.2.1 s.2.2.2)
  (st:=fun k (_:Unit)=>(pq l,(pq l,((l.length:Int),(k:Int))))) (step:=fun _ a=>if okC a then .inr ()else .inl (.inr false)) (fin:=fun _=>.inl (pq l)) (I:=fun _ _=>True)
  (by
   rintro k' b a hk' _;have hkl:=J5 hk';have hz:=h a (za5 hk');unfold DS;simp only[zp (show(k':Int)<(l.length:Int) by omega),cT,Cx hk',obs,fl,U6];by_cases h6:Sz 6 a
   ·left
    refine⟨(),by rw[show okC a=true from zp h6];rfl,?_,trivial⟩
    simp only[zp h6,nT,cF,(VG hk hz).2,obs,zp (Im h6)];rw[BM (by omega)]
   ·right
    refine⟨.inr false,by rw[show okC a=false from zq h6];rfl,?_⟩
    simp only[zq h6,nF,cT])
  (by
   rintro b _;show DS (pq l) (pq l) (l.length:Int) (l.length:Int)=_;unfold DS;rw[zq (by omega)];rfl) () trivial
 rw[As,show(0:Int)=((0:Nat):Int)from rfl,h1,Uz,ZQ];cases ha:l.all okC with
 |false=>simp
 |true=>
  simp only[if_true,zd9,obs,Sum.elim_inl,ze4,As];by_cases h7:l.length<=7
  ·rw[zp (show(l.length:Int)<=7 by omega),zp h7];simp only[cT,ze4];rw[<-As l,show((0:Nat):Int)=0 from rfl,QN,As];by_cases hn:l=[]
   ·rw[zp hn,hn];rfl
   ·obtain⟨e1,e2⟩:=UO hn hl;rw[zq hn,e1];simp only[cF,obs,fl,S0];unfold Af7;rw[e2];simp
  ·rw[zq (show ¬(l.length:Int)<=7 by omega),zq h7];rfl
def H3(l:List Rat):LQ×Bool:=if AH l then(pq l,true)else([],false)
theorem Aq9{q:Rat}{k:Nat}(hk:k<=1000000)(h:Sz k q):JQ (rqF q)=some (rqF q):=by
 unfold JQ;rw[show A8 (rqF q).1 (rqF q).2.1=_ from Z9 hk h.1,show A8 false (rqF q).2.2.2=_ from Aa0 hk h.2];rfl
theorem GA{l:List Rat}{k:Nat}(hk:k<=1000000)(h:Szs k l)(hl:l.length<=1000):B7 (pq l)=some (H3 (A7 l)):=by
 unfold B7;rw[OK hl];have hl':=C5 l;have h':=ER h;generalize A7 l=m at hl' h';simp only[obs];obtain⟨b,e,hb⟩:=Cg (body:=fun(s:LQ×LQ×Int×Int)=>B3 s.1 s.2.1 s.2.2.1 s.2.2.2)
  (st:=fun k (b:Unit)=>(pq (m.take k),(pq m,((m.length:Int),(k:Int))))) (fin:=fun _=>pq m) (I:=fun _ _=>True) m.length
  (by
   rintro k' b hk' _;refine⟨(),?_,trivial⟩
   have he:m[k']? =some m[k']:=za1 hk';have ht:m.take (k'+1)=m.take k'++[m[k']]:=by rw[List.take_add_one,he];rfl
   show B3 (pq (m.take k')) (pq m) (m.length:Int) (k':Int)=_;unfold B3;rw[zp (by omega),Cx he];simp only[cT,obs,fl,Aq9 hk (h' _ (za5 he)),KB];rw[Vv (by rw[zc7];omega),<-ht];simp only[obs];rw[BM (by omega)])
  (by
   rintro b _;show B3 (pq (m.take m.length)) (pq m) (m.length:Int) (m.length:Int)=_;unfold B3;rw[zq (by omega),zf1];rfl) 0 () (zf5 _) trivial
 rw[As,show([]:LQ)=pq (m.take 0)from rfl,show(0:Int)=((0:Nat):Int)from rfl,e];simp only[obs,Sl hk h' (by omega)];unfold H3;cases AH m<;>rfl
theorem Ak0{q:Rat}(h:Sz 6 q):Gd (rqF q)=some (rqF q,true):=by rw[XM (k:=6) (by omega) h,LX (Im h)]
theorem N1{m:List Rat}{k:Nat}(hk:k<=1000000)(h:Szs k m)(hl:m.length<=1000):EW (pq m)=some (H3 m):=by
 unfold EW;rw[Kf hk h hl];unfold H3;cases hg:AH m with
 |false=>rfl
 |true=>
  obtain⟨g1,g2,g3⟩:=A9.1 hg;simp only[obs,nT,cF,if_true];obtain⟨b,e,hb⟩:=Cg (body:=fun(s:LQ×LQ×Int×Int)=>En s.1 s.2.1 s.2.2.1 s.2.2.2)
   (st:=fun k (b:Unit)=>(pq (m.take k),(pq m,((m.length:Int),(k:Int))))) (fin:=fun _=>pq m) (I:=fun _ _=>True) m.length
   (by
    rintro k' b hk' _;refine⟨(),?_,trivial⟩
    have he:m[k']? =some m[k']:=za1 hk';have ht:m.take (k'+1)=m.take k'++[m[k']]:=by rw[List.take_add_one,he];rfl
    show En (pq (m.take k')) (pq m) (m.length:Int) (k':Int)=_;unfold En;rw[zp (by omega),Cx he];simp only[cT,obs,fl,Ak0 (g2 _ (za5 he)),KB];rw[Vv (by rw[zc7];omega),<-ht];simp only[obs];rw[BM (by omega)])
   (by
    rintro b _;show En (pq (m.take m.length)) (pq m) (m.length:Int) (m.length:Int)=_;unfold En;rw[zq (by omega),zf1];rfl) 0 () (zf5 _) trivial
  rw[As,show([]:LQ)=pq (m.take 0)from rfl,show(0:Int)=((0:Nat):Int)from rfl,e];rfl
end
section
open Go
theorem NE:Eo (0:Int)=some (rqF 0):=ZT (by omega) (by omega)
theorem N0:CB (0:Int)=some (rqF 0):=QS (by omega) (by omega)
theorem Rz:∀k:Fin 21,Mv .u64 (k.val:Int) 4294967295=(k.val:Int):=by decide
theorem AA3{n:Nat}(h:n<=20):Dg (1:Int) (n:Int)=some ((0:Int),(n:Int)):=by
 unfold Dg FD;have e1:=Rz ⟨1,by omega⟩;have e2:=Rz ⟨n,by omega⟩;simp only[show((1:Nat):Int)=1 from rfl]at e1 e2;have s0:∀{m:Int},0<=m->m<4294967296->Lu .u64 m 32=0:=fun {m} h0 h1=>by
  show m.fdiv (2^(min 32 64))=0;rw[show(2:Int)^(min 32 64)=4294967296 from rfl,Int.fdiv_eq_ediv_of_nonneg _ (by omega)];omega
 have w:∀{m:Int},0<=m->m<4294967296->zj zx m=m:=fun h0 h1=>Qn h0 (by omega)
 simp only[obs,e1,e2,Int.one_mul];simp only[s0 (show(0:Int)<=1 by omega) (by omega),s0 (show(0:Int)<=(n:Int) by omega) (by omega),w (show(0:Int)<=(n:Int) by omega) (by omega),Int.zero_mul,Int.mul_zero,Int.zero_add,Int.add_zero,
  w (show(0:Int)<=0 by omega) (by omega),s0 (show(0:Int)<=0 by omega) (by omega),show Mv .u64 (0:Int) 4294967295=0 from Rz ⟨0,by omega⟩]
theorem ZU{n:Nat}(h:n<=20):A5 [rq 0] (n:Int)=some (pq (List.replicate n 0)):=by
 unfold A5 Jh;simp only;rw[zw ⟨by omega,by omega⟩,AA3 h];simp only[obs,if_true];rw[show((n:Int)).toNat=n by omega,pq,List.map_replicate]
theorem Jr:∀p q:List Rat,(GQ p q).length=max p.length q.length
 |[],q=>by cases q<;>simp[GQ]
 |a::p,[]=>by simp[GQ]
 |a::p,b::q=>by
  show(GQ p q).length+1=max (p.length+1) (q.length+1);rw[Jr p q];omega
theorem WK(p q:List Rat)(j:Nat):(GQ p q).getD j 0=p.getD j 0+q.getD j 0:=by
 have:=NI (dlt j) p q 0;rw[Hx,Hx,Hx,zw (zf5 _),zw (zf5 _),zw (zf5 _),Nat.sub_zero]at this;exact this
def Jd(p q:List Rat)(k:Nat):List Rat:=(List.range k).map fun i=>p.getD i 0+q.getD i 0
theorem S6(p q:List Rat)(k:Nat):(Jd p q k).length=k:=by simp[Jd]
theorem Vb(p q:List Rat)(k:Nat):Jd p q (k+1)=Jd p q k++[p.getD k 0+q.getD k 0]:=by
 unfold Jd;rw[List.range_succ,List.map_append];rfl
theorem Ab4(p q:List Rat):Jd p q (max p.length q.length)=GQ p q:=by
 refine List.ext_getElem (by rw[S6,Jr]) fun j h1 h2=> ?_
 have:=WK p q j;rw[za4,za1 h2]at this;rw[show(GQ p q)[j]=_ from this];simp[Jd]
theorem getD_none{l:List Rat}{k:Nat}(h:¬k<l.length):l.getD k 0=0:=by rw[za4,List.getElem?_eq_none (by omega)];rfl
theorem getD_some{l:List Rat}{k:Nat}(h:k<l.length):l[k]? =some (l.getD k 0):=by rw[za4,za1 h];rfl
theorem AC8(a b:Nat):VQ [(a:Int),(b:Int)]=((max a b:Nat):Int):=by
 show(if(b:Int)>(a:Int)then(b:Int)else(a:Int))=_
 split<;>omega
theorem Ab5{p q:List Rat}{k:Nat}(hk:1<=k)(hp:Szs k p)(hq:Szs k q):Szs (2*k+1) (GQ p q):=fun a ha=>by
 obtain⟨j,hj⟩:=ze3 ha;have e:=WK p q j;rw[za4,hj]at e;rw[show a=_ from e];exact(Zf (DL hk hp j) (DL hk hq j)).mono (by omega)
section
variable {p q:List Rat} {m:Nat} (hm:1<=m) (hm2:m<=20000) (hp:Szs m p) (hq:Szs m q) (lp:p.length<=400) (lq:q.length<=400)
include hm hm2 hp hq lp lq
theorem AK1:MT (pq p) (pq q)=some (pq (A7 (GQ p q))):=by
 unfold MT;obtain⟨b,e,hb⟩:=Cg (body:=fun(s:(LQ×(LQ×(LQ×(Int×Int)))))=>F9 s.1 s.2.1 s.2.2.1 s.2.2.2.1 s.2.2.2.2)
  (st:=fun k (b:Unit)=>(pq (Jd p q k),(pq p,(pq q,(((max p.length q.length:Nat):Int),(k:Int)))))) (fin:=fun _=>pq (GQ p q)) (I:=fun _ _=>True) (max p.length q.length)
  (by
   rintro k b hk _;refine⟨(),?_,trivial⟩
   have l1:=S6 p q k;have ha:D8 64 4 (pq (Jd p q k)) [rq (p.getD k 0+q.getD k 0)]=some (pq (Jd p q (k+1))):=by rw[Vv (by omega),Vb]
   have w:=BM (show k<4611686018427387904 by omega);have z1:=DL hm hp k;have z2:=DL hm hq k;show F9 (pq (Jd p q k)) (pq p) (pq q) ((max p.length q.length:Nat):Int) (k:Int)=some (.inl (pq (Jd p q (k+1)),(pq p,(pq q,(((max p.length q.length:Nat):Int),((k+1:Nat):Int))))));unfold F9;rw[zp (by omega),As,NE];simp only[cT,obs];by_cases h1:k<p.length
   ·rw[zp (show(k:Int)<(p.length:Int) by omega),Cx (getD_some h1)];simp only[cT,obs,fl,F5,Gp hm2 (sz0 hm) z1,sEr];rw[show(0:Rat)+p.getD k 0=p.getD k 0 by grind,As];by_cases h2:k<q.length
    ·rw[zp (show(k:Int)<(q.length:Int) by omega),Cx (getD_some h2)];simp only[cT,obs,fl,F5,Gp hm2 z1 z2,KB,ha,w]
    ·rw[zq (show ¬(k:Int)<(q.length:Int) by omega)];have e2:p.getD k 0+q.getD k 0=p.getD k 0:=by rw[getD_none h2];grind
     rw[e2]at ha;simp only[cF,KB,ha,obs,w]
   ·rw[zq (show ¬(k:Int)<(p.length:Int) by omega)];have h2:k<q.length:=by omega
    have e2:p.getD k 0+q.getD k 0=0+q.getD k 0:=by rw[getD_none h1]
    rw[e2]at ha;simp only[cF,obs,sEr];rw[As,zp (show(k:Int)<(q.length:Int) by omega),Cx (getD_some h2)];simp only[cT,obs,fl,F5,Gp hm2 (sz0 hm) z2,KB,ha,w])
  (by
   rintro b _;show F9 (pq (Jd p q (max p.length q.length))) (pq p) (pq q) ((max p.length q.length:Nat):Int) ((max p.length q.length:Nat):Int)=_;unfold F9;rw[zq (by omega),Ab4];rfl) 0 () (zf5 _) trivial
 rw[As,As,AC8,show([]:LQ)=pq (Jd p q 0)from rfl,show(0:Int)=((0:Nat):Int)from rfl,e];simp only[obs];rw[OK (by rw[Jr];omega)];rfl
omit hm hm2 hp hq lp lq in
theorem Aw5 (l:List Rat) (k:Nat):HR (pq l) (k:Int)=some (rqF (l.getD k 0)):=by
 unfold HR;rw[As];by_cases h:k<l.length
 ·rw[zp (by omega),Cx (getD_some h)];rfl
 ·rw[zq (by omega),getD_none h,N0];rfl
theorem AE4:LJ (pq p) (pq q)=some (pq (A7 (GQ p q))):=by
 unfold LJ;obtain⟨b,e,hb⟩:=Cg (body:=fun(s:(LQ×(LQ×(LQ×Int))))=>E8 s.1 s.2.1 s.2.2.1 s.2.2.2)
  (st:=fun k (b:Unit)=>(pq (Jd p q k),(pq p,(pq q,(k:Int))))) (fin:=fun _=>pq (GQ p q)) (I:=fun _ _=>True) (max p.length q.length)
  (by
   rintro k b hk _;refine⟨(),?_,trivial⟩
   have l1:=S6 p q k;have ha:D8 64 4 (pq (Jd p q k)) [rq (p.getD k 0+q.getD k 0)]=some (pq (Jd p q (k+1))):=by rw[Vv (by omega),Vb]
   have w:=BM (show k<4611686018427387904 by omega);show E8 (pq (Jd p q k)) (pq p) (pq q) (k:Int)=some (.inl (pq (Jd p q (k+1)),(pq p,(pq q,((k+1:Nat):Int)))));unfold E8;rw[As,As];have hx:∀{α β:Type}(x:α)(y:β),(bif decide ((k:Int)<(p.length:Int))then some (Sum.inr x)else bif decide ((k:Int)<(q.length:Int))then some (Sum.inr x)else some (Sum.inl y))=some (Sum.inr x):=fun x y=>by
    by_cases h1:k<p.length
    ·rw[zp (show(k:Int)<(p.length:Int) by omega)];rfl
    ·rw[zq (show ¬(k:Int)<(p.length:Int) by omega),zp (show(k:Int)<(q.length:Int) by omega)];rfl
   rw[hx];simp only[obs,sEr,Aw5,F5,QR hm2 (DL hm hp k) (DL hm hq k),KB,ha,w])
  (by
   rintro b _;show E8 (pq (Jd p q (max p.length q.length))) (pq p) (pq q) ((max p.length q.length:Nat):Int)=_;unfold E8;rw[As,As,zq (show ¬((max p.length q.length:Nat):Int)<(p.length:Int) by omega),zq (show ¬((max p.length q.length:Nat):Int)<(q.length:Int) by omega),Ab4];rfl) 0 () (zf5 _) trivial
 rw[show([]:LQ)=pq (Jd p q 0)from rfl,show(0:Int)=((0:Nat):Int)from rfl,e];simp only[obs];rw[L9 (by rw[Jr];omega)];rfl
end
theorem Qj(a:Rat):∀(q1 q2 out:List Rat)(j:Nat),E6 a out (q1++q2) j=E6 a (E6 a out q1 j) q2 (j+q1.length)
 |[],q2,out,j=>rfl
 |b::q1,q2,out,j=>by
  show E6 a (KZ out j (a*b)) (q1++q2) (j+1)=E6 a (E6 a (KZ out j (a*b)) q1 (j+1)) q2 (j+(q1.length+1));rw[Qj a q1 q2,show j+1+q1.length=j+(q1.length+1) by omega]
theorem P6(q:List Rat):∀(p1 p2 out:List Rat)(i:Nat),Jb q out (p1++p2) i=Jb q (Jb q out p1 i) p2 (i+p1.length)
 |[],p2,out,i=>rfl
 |a::p1,p2,out,i=>by
  show Jb q (E6 a out q i) (p1++p2) (i+1)=Jb q (Jb q (E6 a out q i) p1 (i+1)) p2 (i+(p1.length+1));rw[P6 q p1 p2,show i+1+p1.length=i+(p1.length+1) by omega]
theorem GX(q:List Rat):∀(p out:List Rat)(i:Nat),(Jb q out p i).length=out.length
 |[],out,i=>rfl
 |a::p,out,i=>by
  show(Jb q (E6 a out q i) p (i+1)).length=_;rw[GX q p,Ik]
theorem NW{σ ρ:Type}{body:σ->Option (σ⊕ρ)}(st:Nat->List Rat->σ)(fin:List Rat->ρ){q out0:List Rat}{a:Rat}{j:Nat}(hj:j+q.length<=out0.length)
  (hgo:∀k out b,q[k]? =some b->out.length=out0.length->out.getD (j+k) 0=out0.getD (j+k) 0->body (st k out)=some (.inl (st (k+1) (KZ out (j+k) (a*b)))))
  (hend:∀out,out.length=out0.length->body (st q.length out)=some (.inr (fin out))):Ag body (st 0 out0)=some (fin (E6 a out0 q j)):=by
 obtain⟨b,e,hb⟩:=Cg (body:=body) (st:=st) (fin:=fin) (I:=fun k out=>out=E6 a out0 (q.take k) j) q.length
  (by
   rintro k out hk rfl;have he:q[k]? =some q[k]:=za1 hk;refine⟨_,hgo k _ _ he (Ik _ _ _ _) ?_,?_⟩
   ·rw[SR a _ out0 j _ (by rw[zc7];omega),zi (by rw[zc7];omega)]
    grind
   ·rw[show q.take (k+1)=q.take k++[q[k]] by rw[List.take_add_one,he];rfl,Qj,zc7,Nat.min_eq_left (by omega)];rfl)
  (by
   rintro out rfl;exact hend _ (Ik _ _ _ _)) 0 out0 (zf5 _) rfl
 rw[e,hb,zf1]
theorem Xy{σ ρ:Type}{body:σ->Option (σ⊕ρ)}(st:Nat->List Rat->σ)(fin:List Rat->ρ){p q out0:List Rat}
  (hgo:∀k a,p[k]? =some a->body (st k (Jb q out0 (p.take k) 0))=some (.inl (st (k+1) (E6 a (Jb q out0 (p.take k) 0) q k))))
  (hend:∀out,body (st p.length out)=some (.inr (fin out))):Ag body (st 0 out0)=some (fin (Jb q out0 p 0)):=by
 obtain⟨b,e,hb⟩:=Cg (body:=body) (st:=st) (fin:=fin) (I:=fun k out=>out=Jb q out0 (p.take k) 0) p.length
  (by
   rintro k out hk rfl;have he:p[k]? =some p[k]:=za1 hk;refine⟨_,hgo k _ he,?_⟩
   rw[show p.take (k+1)=p.take k++[p[k]] by rw[List.take_add_one,he];rfl,P6,zc7,Nat.min_eq_left (by omega),ze6];rfl)
  (by
   rintro out rfl;exact hend _) 0 out0 (zf5 _) rfl
 rw[e,hb,zf1]
theorem Nj{out:List Rat}{j:Nat}{c:Rat}:(pq out).set j (rq (out.getD j 0+c))=pq (KZ out j c):=Y3 ..
theorem XV{k n:Nat}{l:List Rat}(h:Szs k l):Szs k (l.take n):=fun a ha=>h a (List.mem_of_mem_take ha)
theorem AP1{out0 q p:List Rat}{a:Rat}{i n m K:Nat}(hm:1<=m)(hm2:2*m<=20000)(ha:Sz m a)(hq:Szs m q)(ho:Szs K out0)(hK:1<=K)(hK2:K+2*m<=20000)(hj:i+q.length<=out0.length)(hl:out0.length<=1000):
  Ag (fun(s:(LQ×(RF×(LQ×(Int×(LQ×(Int×(Int×(LQ×(Int×Int))))))))))=>DR s.1 s.2.1 s.2.2.1 s.2.2.2.1 s.2.2.2.2.1 s.2.2.2.2.2.1 s.2.2.2.2.2.2.1 s.2.2.2.2.2.2.2.1 s.2.2.2.2.2.2.2.2.1 s.2.2.2.2.2.2.2.2.2)
   (pq out0,(rqF a,(pq q,((i:Int),(pq p,((n:Int),((i:Int),(pq q,((q.length:Int),(0:Int))))))))))=some (pq (E6 a out0 q i),(pq q,(pq p,((n:Int),(i:Int))))):=by
 refine NW (body:=fun(s:(LQ×(RF×(LQ×(Int×(LQ×(Int×(Int×(LQ×(Int×Int))))))))))=>DR s.1 s.2.1 s.2.2.1 s.2.2.2.1 s.2.2.2.2.1 s.2.2.2.2.2.1 s.2.2.2.2.2.2.1 s.2.2.2.2.2.2.2.1 s.2.2.2.2.2.2.2.2.1 s.2.2.2.2.2.2.2.2.2)
  (fun k out=>(pq out,(rqF a,(pq q,((i:Int),(pq p,((n:Int),((i:Int),(pq q,((q.length:Int),(k:Int))))))))))) (fun out=>(pq out,(pq q,(pq p,((n:Int),(i:Int)))))) hj ?_ ?_
 ·intro k out b hk hlen hget;have hkl:=J5 hk;have hz:Sz K (out.getD (i+k) 0):=by rw[hget];exact DL hK ho _
  have hb:=hq b (za5 hk);show DR (pq out) (rqF a) (pq q) (i:Int) (pq p) (n:Int) (i:Int) (pq q) (q.length:Int) (k:Int)=_;unfold DR;have hi:AJ (zj zk ((i:Int)+(k:Int))) (pq out).length=some (i+k):=by
   rw[Ab (by omega) (by omega)];exact VJ (by omega) (by rw[As];omega)
  rw[zp (by omega),Cx hk,hi];simp only[cT,obs,NQ (show i+k<out.length by omega),fl,F5,L1 (show m<=20000 by omega) ha hb];rw[Gp (k:=K+2*m) (by omega) (hz.mono (by omega)) ((Lz ha hb).mono (by omega))];simp only[obs,KB];rw[Nj,BM (by omega)]
 ·intro out hlen;show DR (pq out) (rqF a) (pq q) (i:Int) (pq p) (n:Int) (i:Int) (pq q) (q.length:Int) (q.length:Int)=_;unfold DR;rw[zq (by omega)];rfl
theorem AK2{out0 q p:List Rat}{m K:Nat}(hm:1<=m)(hm2:2*m<=20000)(hp:Szs m p)(hq:Szs m q)(ho:Szs K out0)(hK:1<=K)(hK2:K+p.length*(m+m+1)+2*m<=20000)(hj:p.length+q.length<=out0.length)(hl:out0.length<=1000):
  Ag (fun(s:(LQ×(LQ×(LQ×(Int×Int)))))=>DQ s.1 s.2.1 s.2.2.1 s.2.2.2.1 s.2.2.2.2) (pq out0,(pq q,(pq p,((p.length:Int),(0:Int)))))=some (pq (Jb q out0 p 0)):=by
 refine Xy (body:=fun(s:(LQ×(LQ×(LQ×(Int×Int)))))=>DQ s.1 s.2.1 s.2.2.1 s.2.2.2.1 s.2.2.2.2)
  (fun k out=>(pq out,(pq q,(pq p,((p.length:Int),(k:Int)))))) (fun out=>pq out) ?_ ?_
 ·intro k a hk;have hkl:=J5 hk;have hz:=QK hq (p.take k) out0 0 K hK (XV hp) (by rw[zc7];omega) ho;have hle:(p.take k).length*(m+m+1)<=p.length*(m+m+1):=zd4 _ (by rw[zc7];omega);show DQ (pq (Jb q out0 (p.take k) 0)) (pq q) (pq p) (p.length:Int) (k:Int)=_;unfold DQ;rw[zp (by omega),Cx hk];simp only[cT,obs,fl,As];rw[AP1 hm hm2 (hp a (za5 hk)) hq hz (by omega) (by omega) (by rw[GX];omega) (by rw[GX];omega)];simp only[obs];rw[BM (by omega)]
 ·intro out;show DQ (pq out) (pq q) (pq p) (p.length:Int) (p.length:Int)=_;unfold DQ;rw[zq (by omega)];rfl
theorem AQ1{out0 q p:List Rat}{a:Rat}{i n m K:Nat}(hm:1<=m)(hm2:2*m<=20000)(ha:Sz m a)(hq:Szs m q)(ho:Szs K out0)(hK:1<=K)(hK2:K+2*m<=20000)(hj:i+q.length<=out0.length)(hl:out0.length<=1000):
  Ag (fun(s:(LQ×(RF×(LQ×(Int×(LQ×(Int×(Int×(LQ×(Int×Int))))))))))=>DW s.1 s.2.1 s.2.2.1 s.2.2.2.1 s.2.2.2.2.1 s.2.2.2.2.2.1 s.2.2.2.2.2.2.1 s.2.2.2.2.2.2.2.1 s.2.2.2.2.2.2.2.2.1 s.2.2.2.2.2.2.2.2.2)
   (pq out0,(rqF a,(pq q,((i:Int),(pq p,((n:Int),((i:Int),(pq q,((q.length:Int),(0:Int))))))))))=some (pq (E6 a out0 q i),(pq q,(pq p,((n:Int),(i:Int))))):=by
 refine NW (body:=fun(s:(LQ×(RF×(LQ×(Int×(LQ×(Int×(Int×(LQ×(Int×Int))))))))))=>DW s.1 s.2.1 s.2.2.1 s.2.2.2.1 s.2.2.2.2.1 s.2.2.2.2.2.1 s.2.2.2.2.2.2.1 s.2.2.2.2.2.2.2.1 s.2.2.2.2.2.2.2.2.1 s.2.2.2.2.2.2.2.2.2)
  (fun k out=>(pq out,(rqF a,(pq q,((i:Int),(pq p,((n:Int),((i:Int),(pq q,((q.length:Int),(k:Int))))))))))) (fun out=>(pq out,(pq q,(pq p,((n:Int),(i:Int)))))) hj ?_ ?_
 ·intro k out b hk hlen hget;have hkl:=J5 hk;have hz:Sz K (out.getD (i+k) 0):=by rw[hget];exact DL hK ho _
  have hb:=hq b (za5 hk);show DW (pq out) (rqF a) (pq q) (i:Int) (pq p) (n:Int) (i:Int) (pq q) (q.length:Int) (k:Int)=_;unfold DW;have hi:AJ (zj zk ((i:Int)+(k:Int))) (pq out).length=some (i+k):=by
   rw[Ab (by omega) (by omega)];exact VJ (by omega) (by rw[As];omega)
  rw[zp (by omega),Cx hk,hi];simp only[cT,obs,NQ (show i+k<out.length by omega),fl,F5,Wg (show m<=20000 by omega) ha hb];rw[QR (k:=K+2*m) (by omega) (hz.mono (by omega)) ((Lz ha hb).mono (by omega))];simp only[obs,KB];rw[Nj,BM (by omega)]
 ·intro out hlen;show DW (pq out) (rqF a) (pq q) (i:Int) (pq p) (n:Int) (i:Int) (pq q) (q.length:Int) (q.length:Int)=_;unfold DW;rw[zq (by omega)];rfl
theorem AM7{out0 q p:List Rat}{m K:Nat}(hm:1<=m)(hm2:2*m<=20000)(hp:Szs m p)(hq:Szs m q)(ho:Szs K out0)(hK:1<=K)(hK2:K+p.length*(m+m+1)+2*m<=20000)(hj:p.length+q.length<=out0.length)(hl:out0.length<=1000):
  Ag (fun(s:(LQ×(LQ×(LQ×(Int×Int)))))=>DU s.1 s.2.1 s.2.2.1 s.2.2.2.1 s.2.2.2.2) (pq out0,(pq q,(pq p,((p.length:Int),(0:Int)))))=some (pq (Jb q out0 p 0)):=by
 refine Xy (body:=fun(s:(LQ×(LQ×(LQ×(Int×Int)))))=>DU s.1 s.2.1 s.2.2.1 s.2.2.2.1 s.2.2.2.2)
  (fun k out=>(pq out,(pq q,(pq p,((p.length:Int),(k:Int)))))) (fun out=>pq out) ?_ ?_
 ·intro k a hk;have hkl:=J5 hk;have hz:=QK hq (p.take k) out0 0 K hK (XV hp) (by rw[zc7];omega) ho;have hle:(p.take k).length*(m+m+1)<=p.length*(m+m+1):=zd4 _ (by rw[zc7];omega);show DU (pq (Jb q out0 (p.take k) 0)) (pq q) (pq p) (p.length:Int) (k:Int)=_;unfold DU;rw[zp (by omega),Cx hk];simp only[cT,obs,fl,As];rw[AQ1 hm hm2 (hp a (za5 hk)) hq hz (by omega) (by omega) (by rw[GX];omega) (by rw[GX];omega)];simp only[obs];rw[BM (by omega)]
 ·intro out;show DU (pq out) (pq q) (pq p) (p.length:Int) (p.length:Int)=_;unfold DU;rw[zq (by omega)];rfl
section
variable {p q:List Rat} {m:Nat} (hm:1<=m) (hp:Szs m p) (hq:Szs m q)
include hm hp hq
theorem AC1(hm2:m<=6)(lp:p.length<=7)(lq:q.length<=7):LE (pq p) (pq q)=some (pq (KA p q)):=by
 unfold LE;rw[NE,As,As,Ab (by omega) (by omega),show(p.length:Int)+(q.length:Int)=((p.length+q.length:Nat):Int) by omega];simp only[obs,KB];rw[ZU (by omega)];simp only[obs];have hmul:p.length*(m+m+1)<=7*13:=Nat.mul_le_mul (by omega) (by omega);rw[AK2 hm (by omega) hp hq (N5 (k:=1) (by omega)) (by omega) (by omega) (by simp) (by simp;omega)];simp only[obs];rw[OK (by rw[GX];simp;omega)];rfl
theorem Wh(hm2:m<=30)(lp:p.length<=20)(lq:q.length<=20):HD (pq p) (pq q)=some (pq (KA p q)):=by
 unfold HD;obtain⟨b,e,hb⟩:=Cg (body:=fun(s:(LQ×(LQ×(LQ×Int))))=>Fb s.1 s.2.1 s.2.2.1 s.2.2.2)
  (st:=fun k (b:Unit)=>(pq (List.replicate k 0),(pq p,(pq q,(k:Int))))) (fin:=fun _=>(pq (List.replicate (p.length+q.length) 0),(pq p,pq q))) (I:=fun _ _=>True) (p.length+q.length)
  (by
   rintro k b hk _;refine⟨(),?_,trivial⟩
   show Fb (pq (List.replicate k 0)) (pq p) (pq q) (k:Int)=_;unfold Fb;rw[As,As,Ab (n:=(p.length:Int)+(q.length:Int)) (by omega) (by omega),zp (by omega),N0];simp only[cT,obs,KB];rw[Vv (by simp;omega),show List.replicate k (0:Rat)++[0]=List.replicate (k+1) 0 from(List.replicate_succ' ..).symm];simp only[obs];rw[BM (by omega)])
  (by
   rintro b _;show Fb (pq (List.replicate (p.length+q.length) 0)) (pq p) (pq q) ((p.length+q.length:Nat):Int)=_;unfold Fb;rw[As,As,Ab (n:=(p.length:Int)+(q.length:Int)) (by omega) (by omega),zq (by omega)];rfl) 0 () (zf5 _) trivial
 rw[show([]:LQ)=pq (List.replicate 0 0)from rfl,show(0:Int)=((0:Nat):Int)from rfl,e];have hmul:p.length*(m+m+1)<=20*61:=Nat.mul_le_mul (by omega) (by omega);simp only[obs,As,show((0:Nat):Int)=0 from rfl];rw[AM7 hm (by omega) hp hq (N5 (k:=1) (by omega)) (by omega) (by omega) (by simp) (by simp;omega)];simp only[obs];rw[L9 (by rw[GX];simp;omega)];rfl
theorem QL:Szs (1+p.length*(m+m+1)) (KA p q):=ER (QK hq p _ 0 1 (by omega) hp (by simp) (N5 (by omega)))
omit hm hp hq in
theorem NM (p q:List Rat):(KA p q).length<=p.length+q.length:=by
 refine zd0 (C5 _) ?_
 rw[GX];simp
end
end
section
open Go
theorem AA4{p:List Rat}(h:p.length<=1000):Bz (pq p)=some (pq p):=by
 unfold Bz;cases p with
 |nil=>rfl
 |cons a p=>
  show AV (pq (a::p))=_;unfold AV;rw[show neL (pq (a::p))=some ()from rfl,show Ij (pq (a::p)).length 64 4=true by
   unfold Ij;rw[As,zp (by unfold Ad;omega),zp (by unfold Ad;omega)];rfl]
  rfl
theorem W1{σ ρ:Type}{body:σ->Option (σ⊕ρ)}(st:Int->List Rat×List Rat->σ)(fin:List Rat×List Rat->ρ){q:List Rat}(I:Nat->List Rat×List Rat->Prop)
  (hgo:∀i s,I (i+1) s->body (st (i:Int) s)=some (.inl (st ((i:Int)-1) (DF q i s)))/\I i (DF q i s))
  (hend:∀z s,z<0->body (st z s)=some (.inr (fin s))):∀(n:Nat)(s:List Rat×List Rat)(z:Int),n=(z+1).toNat->I n s->Ag body (st z s)=some (fin (I4 q n s))/\I 0 (I4 q n s):=by
 intro n
 induction n with
 |zero=>
  intro s z hz h;exact⟨AE (hend z s (by omega)),h⟩
 |succ n ih=>
  intro s z hz h;obtain rfl:z=(n:Int):=by omega
  obtain⟨h1,h2⟩:=hgo n s h;rw[BG h1];exact ih (DF q n s) _ (by omega) h2
def dsz:Nat->Nat
 |0=>6
 |t+1=>2*dsz t+13
theorem Ao7:∀t,t<=7->dsz t<=2419:=by decide
theorem QB:∀t,6<=dsz t
 |0=>za8 _
 |t+1=>by have:=QB t;unfold dsz;omega
structure DvI (q:List Rat) (N a b:Nat) (i:Nat) (s:List Rat×List Rat):Prop where
 l1:s.1.length=a
 l2:s.2.length=b
 iN:i<=N
 sz:Szs (dsz (N-i)) s.1
 sq:Szs 2500 s.2
theorem VD{q:List Rat}{N a b i:Nat}{s:List Rat×List Rat}(h:DvI q N a b (i+1) s)(hN:N<=7)(hq:Szs 6 q)(h0:0<q.length)(hl:FS q≠0)(ha:N+q.length<=a+1):
  DvI q N a b i (DF q i s)/\Sz (dsz (N-(i+1))+6) (s.1.getD (i+(q.length-1)) 0/FS q)/\dsz (N-(i+1))<=1203:=by
 have hi:=h.iN;have hd:dsz (N-i)=2*dsz (N-(i+1))+13:=by rw[show N-i=(N-(i+1))+1 by omega];rfl
 have hle:dsz (N-(i+1))<=1203:=by have:=Ao7 (N-i) (by omega);omega
 have hp:=QB (N-(i+1));obtain⟨h1,h2⟩:=YC (m:=6) (k:=dsz (N-(i+1))) (by omega) hq h0 hl (i:=i) (s:=s) (by rw[h.l1];omega) h.sz;obtain⟨e1,e2⟩:=La q i s;exact⟨⟨by rw[e1,h.l1],by rw[e2,h.l2],by omega,h2.mono (by omega),AF0 h.sq (h1.mono (by omega)) i⟩,h1,hle⟩
theorem AK0{out0 qt q:List Rat}{d:Rat}{i K:Nat}(hK:6<=K)(hK2:K<=1203)(hd:Sz (K+6) d)(hq:Szs 6 q)(ho:Szs K out0)(hj:i+q.length<=out0.length)(hl:out0.length<=1000)(hi:i<qt.length)(hqt:qt.getD i 0=d):
  Ag (fun(s:(LQ×(LQ×(LQ×(Int×(Int×(LQ×(Int×Int))))))))=>CK s.1 s.2.1 s.2.2.1 s.2.2.2.1 s.2.2.2.2.1 s.2.2.2.2.2.1 s.2.2.2.2.2.2.1 s.2.2.2.2.2.2.2) (pq out0,(pq qt,(pq q,((q.length:Int),((i:Int),(pq q,((q.length:Int),(0:Int))))))))=some (pq (E6 (-d) out0 q i),(pq qt,(pq q,((q.length:Int),(i:Int))))):=by
 refine NW (body:=fun(s:(LQ×(LQ×(LQ×(Int×(Int×(LQ×(Int×Int))))))))=>CK s.1 s.2.1 s.2.2.1 s.2.2.2.1 s.2.2.2.2.1 s.2.2.2.2.2.1 s.2.2.2.2.2.2.1 s.2.2.2.2.2.2.2)
  (a:= -d) (fun k out0=>(pq out0,(pq qt,(pq q,((q.length:Int),((i:Int),(pq q,((q.length:Int),(k:Int))))))))) (fun out0=>(pq out0,(pq qt,(pq q,((q.length:Int),(i:Int)))))) hj ?_ ?_
 ·intro k out b hk hlen hget;have hkl:=J5 hk;have hz:Sz K (out.getD (i+k) 0):=by rw[hget];exact DL (by omega) ho _
  have hb:=hq b (za5 hk);show CK (pq out) (pq qt) (pq q) (q.length:Int) (i:Int) (pq q) (q.length:Int) (k:Int)=_;unfold CK;have hik:AJ (zj zk ((i:Int)+(k:Int))) (pq out).length=some (i+k):=by
   rw[Ab (by omega) (by omega)];exact VJ (by omega) (by rw[As];omega)
  rw[zp (by omega),Cx hk,hik];simp only[cT,obs,NQ (show i+k<out.length by omega),fl,F5,show AJ (i:Int) (pq qt).length=some i from VJ rfl (by rw[As];exact hi),NQ hi,hqt,L1 (k:=K+6) (by omega) hd (hb.mono (by omega))];rw[Ag7 (k:=K+12) (by omega) (hz.mono (by omega)) ((Lz hd hb).mono (by omega))];simp only[obs,KB];rw[show out.getD (i+k) 0-d*b=out.getD (i+k) 0+ -d*b by grind,Nj,BM (by omega)]
 ·intro out hlen;show CK (pq out) (pq qt) (pq q) (q.length:Int) (i:Int) (pq q) (q.length:Int) (q.length:Int)=_;unfold CK;rw[zq (by omega)];rfl
theorem AM5{out0 qt q:List Rat}{d:Rat}{i K:Nat}(hK:6<=K)(hK2:K<=1203)(hd:Sz (K+6) d)(hq:Szs 6 q)(ho:Szs K out0)(hj:i+q.length<=out0.length)(hl:out0.length<=1000):
  Ag (fun(s:(LQ×(LQ×(RF×(LQ×(Int×(LQ×(Int×Int))))))))=>DT s.1 s.2.1 s.2.2.1 s.2.2.2.1 s.2.2.2.2.1 s.2.2.2.2.2.1 s.2.2.2.2.2.2.1 s.2.2.2.2.2.2.2) (pq out0,(pq qt,(rqF d,(pq q,((i:Int),(pq q,((q.length:Int),(0:Int))))))))=some (pq (E6 (-d) out0 q i),(pq qt,(pq q,(i:Int)))):=by
 refine NW (body:=fun(s:(LQ×(LQ×(RF×(LQ×(Int×(LQ×(Int×Int))))))))=>DT s.1 s.2.1 s.2.2.1 s.2.2.2.1 s.2.2.2.2.1 s.2.2.2.2.2.1 s.2.2.2.2.2.2.1 s.2.2.2.2.2.2.2)
  (a:= -d) (fun k out0=>(pq out0,(pq qt,(rqF d,(pq q,((i:Int),(pq q,((q.length:Int),(k:Int))))))))) (fun out0=>(pq out0,(pq qt,(pq q,(i:Int))))) hj ?_ ?_
 ·intro k out b hk hlen hget;have hkl:=J5 hk;have hz:Sz K (out.getD (i+k) 0):=by rw[hget];exact DL (by omega) ho _
  have hb:=hq b (za5 hk);show DT (pq out) (pq qt) (rqF d) (pq q) (i:Int) (pq q) (q.length:Int) (k:Int)=_;unfold DT;have hik:AJ (zj zk ((i:Int)+(k:Int))) (pq out).length=some (i+k):=by
   rw[Ab (by omega) (by omega)];exact VJ (by omega) (by rw[As];omega)
  rw[zp (by omega),Cx hk,hik];simp only[cT,obs,NQ (show i+k<out.length by omega),fl,F5,Wg (k:=K+6) (by omega) hd (hb.mono (by omega))];rw[AE3 (k:=K+12) (by omega) (hz.mono (by omega)) ((Lz hd hb).mono (by omega))];simp only[obs,KB];rw[show out.getD (i+k) 0-d*b=out.getD (i+k) 0+ -d*b by grind,Nj,BM (by omega)]
 ·intro out hlen;show DT (pq out) (pq qt) (rqF d) (pq q) (i:Int) (pq q) (q.length:Int) (q.length:Int)=_;unfold DT;rw[zq (by omega)];rfl
theorem Aa3(q:List Rat):∀(i:Nat)(s a b:List Rat),i<=a.length->i<=b.length->(∀j,a.getD j 0=b.getD j 0)->
  (I4 q i (s,a)).1=(I4 q i (s,b)).1/\∀j,(I4 q i (s,a)).2.getD j 0=(I4 q i (s,b)).2.getD j 0
 |0,s,a,b,_,_,h=>⟨rfl,h⟩
 |i+1,s,a,b,ha,hb,h=>by
  have hs:∀(l:List Rat)(c:Rat)(j:Nat),i<l.length->(l.set i c).getD j 0=if i=j then c else l.getD j 0:=fun l c j hl=>by
   rw[za4,List.getElem?_set];by_cases e:i=j
   ·rw[zw e,zw e,zw hl];rfl
   ·rw[zi e,zi e,<-za4]
  refine Aa3 q i (E6 _ s q i) (a.set i _) (b.set i _) (by rw[List.length_set];omega) (by rw[List.length_set];omega) fun j=> ?_
  rw[hs a _ j (by omega),hs b _ j (by omega),h j]
def nq(p q:List Rat):Nat:=p.length+1-q.length
def dm(p q:List Rat):List Rat×List Rat:=I4 q (nq p q) (p,List.replicate (nq p q) 0)
def Iv(p q:List Rat):List Rat:=A7 (dm p q).2
def Iw(p q:List Rat):List Rat:=A7 (dm p q).1
theorem Vj(n j:Nat):(List.replicate n (0:Rat)).getD j 0=0:=by
 rw[za4,zc8]
 split<;>rfl
theorem AB1{p q:List Rat}{n:Nat}(h:nq p q<=n):A7 (I4 q (nq p q) (p,List.replicate n 0)).1=Iw p q/\A7 (I4 q (nq p q) (p,List.replicate n 0)).2=Iv p q:=by
 obtain⟨h1,h2⟩:=Aa3 q (nq p q) p (List.replicate n 0) (List.replicate (nq p q) 0) (by simpa using h) (by simp) (fun j=>by rw[Vj,Vj]);refine⟨by unfold Iw dm;rw[h1],W5 (JN _) (JN _) fun j=> ?_⟩
 unfold Iv dm;rw[Mc,Mc];exact h2 j
section
variable {p q:List Rat} (hp:Szs 6 p) (hq:Szs 6 q) (lp:p.length<=7) (lq:q.length<=7) (h0:0<q.length) (hl:FS q≠0)
include hp hq lp lq h0 hl
theorem R2{n:Nat}:DvI q (nq p q) p.length n (nq p q) (p,List.replicate n 0):=⟨rfl,by simp,za8 _,by rw[Nat.sub_self];exact hp,N5 (by omega)⟩
theorem R4:Szs 2500 (dm p q).1/\Szs 2500 (dm p q).2/\(dm p q).1.length=p.length/\(dm p q).2.length=nq p q:=by
 have key:∀(i:Nat)(s:List Rat×List Rat),DvI q (nq p q) p.length (nq p q) i s->DvI q (nq p q) p.length (nq p q) 0 (I4 q i s):=by
  intro i
  induction i with
  |zero=>intro s h;exact h
  |succ i ih=>
   intro s h;have hi:=h.iN;exact ih _ (VD h (by unfold nq;omega) hq h0 hl (by unfold nq at*;omega)).1
 have h:=key _ _ (R2 hp hq lp lq h0 hl (n:=nq p q));have:=Ao7 (nq p q-0) (by unfold nq;omega);exact⟨h.sz.mono (by omega),h.sq,h.l1,h.l2⟩
omit hp in
theorem As1:AI (pq q) (zj zk ((q.length:Int)-1))=some (rq (FS q)):=by
 rw[Ab (by omega) (by omega),show(q.length:Int)-1=((q.length-1:Nat):Int) by omega];exact Cx (getD_some (by omega))
theorem Ag9:IH (pq p) (pq q)=some (pq (Iv p q),pq (Iw p q)):=by
 unfold IH;rw[AA4 (by omega),NE];have hn:nq p q<=7:=by unfold nq;omega
 have hm:VQ [(0:Int),zj zk (zj zk ((((pq p).length:Nat):Int)-(((pq q).length:Nat):Int))+1)]=((nq p q:Nat):Int):=by
  rw[As,As,Ab (n:=(p.length:Int)-(q.length:Int)) (by omega) (by omega),Ab (by omega) (by omega)];show(if((p.length:Int)-(q.length:Int)+1)>0 then((p.length:Int)-(q.length:Int)+1)else(0:Int))=_;unfold nq
  split<;>omega
 simp only[obs,KB];rw[hm,ZU (by omega)];simp only[obs];have hs:=R2 hp hq lp lq h0 hl (n:=nq p q);have key:=W1 (q:=q) (body:=fun(s:(LQ×(LQ×(LQ×(Int×Int)))))=>Ds s.1 s.2.1 s.2.2.1 s.2.2.2.1 s.2.2.2.2)
  (st:=fun z s=>(pq s.1,(pq s.2,(pq q,((q.length:Int),z))))) (fin:=fun s=>(pq s.1,pq s.2)) (I:=DvI q (nq p q) p.length (nq p q))
  (by
   rintro i ⟨r,t⟩ h;have hi:=h.iN;have l1:r.length=p.length:=h.l1;have l2:t.length=nq p q:=h.l2;have hnn:nq p q+q.length<=p.length+1:=by unfold nq at*;omega
   obtain⟨g1,g2,g3⟩:=VD h hn hq h0 hl hnn;refine⟨?_,g1⟩
   have g0:=QB (nq p q-(i+1));have zr:Sz (dsz (nq p q-(i+1))) (r.getD (i+(q.length-1)) 0):=DL (by omega) h.sz _;have zl:=hq _ (ON h0);show Ds (pq r) (pq t) (pq q) (q.length:Int) (i:Int)=_;unfold Ds;rw[zp (by omega),Ab (n:=(i:Int)+(q.length:Int)) (by omega) (by omega),Ab (n:=(i:Int)+(q.length:Int)-1) (by omega) (by omega),
    show AJ ((i:Int)+(q.length:Int)-1) (pq r).length=some (i+(q.length-1))from VJ (by omega) (by rw[As];omega),show AJ (i:Int) (pq t).length=some i from VJ rfl (by rw[As];omega)]
   simp only[cT,obs,NQ (show i+(q.length-1)<r.length by omega),NQ (show i<t.length by omega),As1 hq lp lq h0 hl,fl,F5];rw[Ag5 (k:=dsz (nq p q-(i+1))+6) (by omega) (zr.mono (by omega)) (zl.mono (by omega)) hl];simp only[obs,KB,Y3,As];rw[AK0 (K:=dsz (nq p q-(i+1))) g0 g3 g2 hq h.sz (by rw[show(r,t).1=r from rfl];omega) (show r.length<=1000 by omega) (by rw[List.length_set];omega) (by rw[za4,List.getElem?_set_self (by omega)];rfl)];simp only[obs];rw[Ab (n:=(i:Int)-1) (by omega) (by omega)];rfl)
  (by
   rintro z s hz;show Ds (pq s.1) (pq s.2) (pq q) (q.length:Int) z=_;unfold Ds;rw[zq (by omega)];rfl) (nq p q) (p,List.replicate (nq p q) 0) ((nq p q:Int)-1) (by omega) hs
 rw[As,As,List.length_replicate,Ab (n:=(nq p q:Int)-1) (by omega) (by omega),key.1];obtain⟨f1,f2,f3,f4⟩:=R4 hp hq lp lq h0 hl;simp only[obs];rw[show(I4 q (nq p q) (p,List.replicate (nq p q) 0))=dm p q from rfl,OK (l:=(dm p q).2) (by omega),OK (l:=(dm p q).1) (by omega)];rfl
theorem AE5:LK (pq p) (pq q)=some (pq (Iv p q),pq (Iw p q)):=by
 unfold LK;have hn:nq p q<=7:=by unfold nq;omega
 rw[show Ij (pq p).length 64 4=true by
  unfold Ij;rw[As,zp (by unfold Ad;omega),zp (by unfold Ad;omega)];rfl]
 simp only[cT];obtain⟨b,e,hb⟩:=Cg (body:=fun(s:(LQ×(LQ×(LQ×(LQ×Int)))))=>E9 s.1 s.2.1 s.2.2.1 s.2.2.2.1 s.2.2.2.2)
  (st:=fun k (b:Unit)=>(pq p,(pq (List.replicate k 0),(pq p,(pq q,(k:Int)))))) (fin:=fun _=>(pq p,(pq (List.replicate p.length 0),(pq p,pq q)))) (I:=fun _ _=>True) p.length
  (by
   rintro k b hk _;refine⟨(),?_,trivial⟩
   show E9 (pq p) (pq (List.replicate k 0)) (pq p) (pq q) (k:Int)=_;unfold E9;rw[As,zp (by omega),N0];simp only[cT,obs,KB];rw[Vv (by simp;omega),show List.replicate k (0:Rat)++[0]=List.replicate (k+1) 0 from(List.replicate_succ' ..).symm];simp only[obs];rw[BM (by omega)])
  (by
   rintro b _;show E9 (pq p) (pq (List.replicate p.length 0)) (pq p) (pq q) (p.length:Int)=_;unfold E9;rw[As,zq (by omega)];rfl) 0 () (zf5 _) trivial
 rw[show([]:LQ)=pq (List.replicate 0 0)from rfl,show(0:Int)=((0:Nat):Int)from rfl,e];simp only[obs];have hs:=R2 hp hq lp lq h0 hl (n:=p.length);have hnb:nq p q<=p.length:=by unfold nq;omega
 have key:=W1 (q:=q) (body:=fun(s:(LQ×(LQ×(LQ×Int))))=>Fa s.1 s.2.1 s.2.2.1 s.2.2.2)
  (st:=fun z s=>(pq s.1,(pq s.2,(pq q,z)))) (fin:=fun s=>(pq s.1,pq s.2)) (I:=DvI q (nq p q) p.length p.length)
  (by
   rintro i ⟨r,t⟩ h;have hi:=h.iN;have l1:r.length=p.length:=h.l1;have l2:t.length=p.length:=h.l2;have hnn:nq p q+q.length<=p.length+1:=by unfold nq at*;omega
   obtain⟨g1,g2,g3⟩:=VD h hn hq h0 hl hnn;refine⟨?_,g1⟩
   have g0:=QB (nq p q-(i+1));have zr:Sz (dsz (nq p q-(i+1))) (r.getD (i+(q.length-1)) 0):=DL (by omega) h.sz _;have zl:=hq _ (ON h0);show Fa (pq r) (pq t) (pq q) (i:Int)=_;unfold Fa;rw[zp (by omega),As q,Ab (n:=(i:Int)+(q.length:Int)) (by omega) (by omega),Ab (n:=(i:Int)+(q.length:Int)-1) (by omega) (by omega),
    show AJ ((i:Int)+(q.length:Int)-1) (pq r).length=some (i+(q.length-1))from VJ (by omega) (by rw[As];omega),show AJ (i:Int) (pq t).length=some i from VJ rfl (by rw[As];omega)]
   simp only[cT,obs,NQ (show i+(q.length-1)<r.length by omega),NQ (show i<t.length by omega),As1 hq lp lq h0 hl,fl,F5];rw[AE1 (k:=dsz (nq p q-(i+1))+6) (by omega) (zr.mono (by omega)) (zl.mono (by omega)) hl];simp only[obs,KB,Y3,F5];rw[AM5 (K:=dsz (nq p q-(i+1))) g0 g3 g2 hq h.sz (by rw[show(r,t).1=r from rfl];omega) (show r.length<=1000 by omega)];simp only[obs];rw[Ab (n:=(i:Int)-1) (by omega) (by omega)];rfl)
  (by
   rintro z s hz;show Fa (pq s.1) (pq s.2) (pq q) z=_;unfold Fa;rw[zq (by omega)];rfl) (nq p q) (p,List.replicate p.length 0) ((p.length:Int)-(q.length:Int)) (by unfold nq;omega) hs
 rw[As,As,Ab (n:=(p.length:Int)-(q.length:Int)) (by omega) (by omega),key.1];have hD:=key.2;obtain⟨m1,m2⟩:=AB1 hnb;simp only[obs];rw[L9 (by rw[hD.l2];omega),L9 (by rw[hD.l1];omega),m1,m2];rfl
end
theorem ZS{x:Rat}(hx:Sz 6 x):∀l:List Rat,Szs 6 l->Sz (1+13*l.length) (Sj x l)
 |[],_=>sz0 (by omega)
 |a::l,h=>by
  have ih:=ZS hx l fun b hb=>h b (by simp[hb])
  show Sz _ (Sj x l*x+a);rw[zc6];exact(Zf (Lz ih hx) (h a (by simp))).mono (by omega)
theorem Zy{σ ρ:Type}{body:σ->Option (σ⊕ρ)}(st:Int->Rat->σ)(fin:Rat->ρ){p:List Rat}{x:Rat}
  (hgo:∀k a v,p[k]? =some a->v=Sj x (p.drop (k+1))->body (st (k:Int) v)=some (.inl (st ((k:Int)-1) (v*x+a))))
  (hend:∀v,body (st (-1) v)=some (.inr (fin v))):Ag body (st ((p.length:Int)-1) 0)=some (fin (Sj x p)):=by
 have key:∀n:Nat,n<=p.length->Ag body (st ((n:Int)-1) (Sj x (p.drop n)))=some (fin (Sj x p)):=by
  intro n
  induction n with
  |zero=>intro _;exact AE (hend _)
  |succ n ih=>
   intro hn;have he:p[n]? =some p[n]:=za1 (by omega);have hg:=hgo n p[n] _ he rfl;rw[show(((n+1:Nat):Int)-1)=(n:Int) by omega,BG hg];have:=ih (by omega);rw[zb9 (show n<p.length by omega)]at this;exact this
 have:=key p.length (za8 _);rw[List.drop_length]at this;exact this
section
variable {p:List Rat} {x:Rat} (hp:Szs 6 p) (lp:p.length<=7) (hx:Sz 6 x)
include hp lp hx
theorem Sk{k:Nat}:Sz 100 (Sj x (p.drop k)):=(ZS hx (p.drop k) fun a ha=>hp a (List.mem_of_mem_drop ha)).mono (by rw[List.length_drop];omega)
theorem AS2:Vl (pq p) (rqF x)=some (rqF (evP p x)):=by
 unfold Vl;rw[NE,As,Ab (by omega) (by omega)];simp only[obs,F5];have key:=Zy (p:=p) (x:=x) (body:=fun(s:(RF×(RF×(RF×(LQ×Int)))))=>Je s.1 s.2.1 s.2.2.1 s.2.2.2.1 s.2.2.2.2)
  (fun z v=>(rqF x,(zF,(rqF v,(pq p,z))))) (fun v=>(zF,rqF v))
  (by
   rintro k a v hk rfl;have hkl:=J5 hk;have zv:=Sk hp lp hx (k:=k+1);have za:=hp a (za5 hk);show Je (rqF x) zF (rqF (Sj x (p.drop (k+1)))) (pq p) (k:Int)=_;unfold Je;rw[zp (by omega),Cx hk];simp only[cT,obs,fl,F5,L1 (k:=100) (by omega) zv (hx.mono (by omega)),Gp (k:=106) (by omega) ((Lz zv hx).mono (by omega)) (za.mono (by omega))];rw[Ab (by omega) (by omega)])
  (by
   rintro v;show Je (rqF x) zF (rqF v) (pq p) (-1)=_;unfold Je;rw[zq (by omega)];rfl)
 rw[show((false,(([]:List Int),(false,([]:List Int)))):RF)=zF from rfl,key,QF];rfl
theorem Aw6:JU (pq p) (rqF x)=some (rqF (evP p x)):=by
 unfold JU;rw[N0,As,Ab (by omega) (by omega)];simp only[obs,F5];have key:=Zy (p:=p) (x:=x) (body:=fun(s:(RF×(RF×(RF×(LQ×Int)))))=>Em s.1 s.2.1 s.2.2.1 s.2.2.2.1 s.2.2.2.2)
  (fun z v=>(rqF x,(zF,(rqF v,(pq p,z))))) (fun v=>(zF,rqF v))
  (by
   rintro k a v hk rfl;have hkl:=J5 hk;have zv:=Sk hp lp hx (k:=k+1);have za:=hp a (za5 hk);show Em (rqF x) zF (rqF (Sj x (p.drop (k+1)))) (pq p) (k:Int)=_;unfold Em;rw[zp (by omega),Cx hk];simp only[cT,obs,fl,F5,Wg (k:=100) (by omega) zv (hx.mono (by omega)),QR (k:=106) (by omega) ((Lz zv hx).mono (by omega)) (za.mono (by omega))];rw[Ab (by omega) (by omega)])
  (by
   rintro v;show Em (rqF x) zF (rqF v) (pq p) (-1)=_;unfold Em;rw[zq (by omega)];rfl)
 rw[show((false,(([]:List Int),(false,([]:List Int)))):RF)=zF from rfl,key,QF];rfl
theorem AO8:Sz 100 (evP p x):=by
 have:=Sk hp lp hx (k:=0);rw[ze7,QF]at this;exact this
end
end
end Go.Proofs.YtnohbihcoikkbaaGreat.Ev
