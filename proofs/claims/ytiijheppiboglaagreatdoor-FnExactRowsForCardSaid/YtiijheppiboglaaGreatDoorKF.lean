/- What the theorem of this claim leans on, part 6. -/
import Derived.Test.YtiijheppiboglaaGreatDoorKE
import Derived.KernelRfl
set_option maxHeartbeats 2000000
open Option renaming bind_some → za0, map_eq_some_iff → zb6, map_some → zd9
open List renaming getElem?_eq_getElem → za1, getElem?_eq_some_iff → za3, mem_of_getElem? → za4, all_eq_true → za5, drop_eq_getElem_cons → zb0, mem_flatMap → zb1, mem_append → zb3, eq_nil_of_length_eq_zero → zb4, flatMap_cons → zb5, getD_eq_getElem?_getD → zb7, length_cons → zb8, map_cons → zb9, getElem?_take → zc0, take_of_length_le → zc4, length_append → zc7, mem_cons → zc8, getElem?_map → zc9, all_cons → zd0, length_map → zd1, length_pos_iff → zd2, getElem?_drop → zd3, mem_map → zd4, drop_eq_nil_of_le → zd5, mem_singleton → zd8, append_nil → ze5, length_nil → ze7, drop_zero → ze8
open Bool renaming and_eq_true → za2, false_eq_true → zc3, true_and → ze2
open Nat renaming eq_of_beq_eq_true → za6, le_refl → za7, mul_le_mul_right → zd6, lt_of_lt_of_le → zd7, lt_or_ge → ze0, zero_add → ze4, le_trans → ze6, add_mul → zf1
open Sum renaming elim_inr → za8
open Int renaming mul_le_mul_of_nonneg_right → za9, mul_le_mul_of_nonneg_left → zb2, tdiv_eq_ediv_of_nonneg → zc1, toNat_natCast → zc5, tmod_eq_emod_of_nonneg → zc6, mul_add → ze1, le_of_lt → ze3, mul_nonneg → ze9, natCast_mul → zf0
open Array renaming getD_eq_getD_getElem? → zc2
set_option linter.unusedVariables false
set_option linter.unusedSimpArgs false
set_option linter.unusedSectionVars false
namespace Go.Proofs.YtiijheppiboglaaGreatDoor.Ev
section
open Go
theorem GS {n k:Nat} (h:(n:Int)<B k) (hk:k<=1000000):(lim n).length<=1000000:=ze6 (Ax.2 h) hk
theorem Az2 {x y:Int} {k:Nat} (hk:k<=1000000) (hx:(x.natAbs:Int)<B k) (hy:(y.natAbs:Int)<B k):G4 (big x) (big y)=some (big (x + y)):=by
 have lx:=GS hx hk;have ly:=GS hy hk;unfold G4 big;simp only;by_cases hs:decide (x<0)=decide (y<0)
 ·rw[hs,beq_self_eq_true];obtain ⟨r,e1,e2,e3,e4⟩:=A3q (AO x.natAbs) (AO y.natAbs) (by omega) (by omega);rw[AE,AE] at e3;simp only[cond_true,e1,za0];rw[IU e2 (by unfold AH; omega)];simp only[za0];have hv:(val r).toNat=(x + y).natAbs:=by
   by_cases h1:x<0
   ·have:y<0:=by simpa[h1] using hs
    omega
   ·have:¬y<0:=by simpa[h1] using hs
    omega
  rw[hv]
  congr 2
  by_cases h2:y<0
  ·have h1:x<0:=by simpa[h2] using hs
   rw[decide_eq_true h2,decide_eq_true (show x + y<0 by omega),decide_eq_true (show (x + y).natAbs≠0 by omega)]; rfl
  ·have h1:¬x<0:=by simpa[h2] using hs
   rw[decide_eq_false h2,decide_eq_false (show ¬x + y<0 by omega)]; rfl
 ·have hb:(decide (x<0)==decide (y<0))=false:=by simpa using hs
  rw[hb];simp only[cond_false];rw[HJ (by unfold AH; omega) (by unfold AH; omega)];simp only[za0];have hxy:(x<0/\¬y<0)\/(¬x<0/\y<0):=by
   by_cases h1:x<0 <;> by_cases h2:y<0 <;> simp[h1,h2] at hs ⊢
  rcases ze0 x.natAbs y.natAbs with hlt | hge
  ·rw[Ep (by omega),decide_eq_false (by omega)];simp only[cond_false];have hl:(lim x.natAbs).length<=(lim y.natAbs).length:=Ax.2 (by have:=Ax.1 (za7 (lim y.natAbs).length); omega);rw[Ao4 (AO _) (AO _) hl (by omega) (by rw[AE,AE]; omega)];simp only[za0,AE];have e:((y.natAbs:Int)-(x.natAbs:Int)).toNat=(x + y).natAbs:=by omega
   rw[e,IU (AO _) (by
    have:(lim (x + y).natAbs).length<=(lim y.natAbs).length:=Ax.2 (by have:=Ax.1 (za7 (lim y.natAbs).length); omega);unfold AH; omega)]
   simp only[za0,AE,zc5]
   congr 2
   by_cases h2:y<0
   ·rw[decide_eq_true h2,decide_eq_true (show x + y<0 by omega),decide_eq_true (show (x + y).natAbs≠0 by omega)]; rfl
   ·rw[decide_eq_false h2,decide_eq_false (show ¬x + y<0 by omega)]; rfl
  ·have hc:C3 (x.natAbs:Int) (y.natAbs:Int)>=0:=by unfold C3; rw[if_neg (by omega)]; split <;> omega
   rw[decide_eq_true hc];simp only[cond_true];have hl:(lim y.natAbs).length<=(lim x.natAbs).length:=Ax.2 (by have:=Ax.1 (za7 (lim x.natAbs).length); omega);rw[Ao4 (AO _) (AO _) hl (by omega) (by rw[AE,AE]; omega)];simp only[za0,AE];have e:((x.natAbs:Int)-(y.natAbs:Int)).toNat=(x + y).natAbs:=by omega
   rw[e,IU (AO _) (by
    have:(lim (x + y).natAbs).length<=(lim x.natAbs).length:=Ax.2 (by have:=Ax.1 (za7 (lim x.natAbs).length); omega);unfold AH; omega)]
   simp only[za0,AE,zc5]
   congr 2
   by_cases h2:x<0
   ·rw[decide_eq_true h2];by_cases h3:x + y<0
    ·rw[decide_eq_true h3,decide_eq_true (show (x + y).natAbs≠0 by omega)]; rfl
    ·rw[decide_eq_false h3,decide_eq_false (show ¬(x + y).natAbs≠0 by omega)]; rfl
   ·rw[decide_eq_false h2,decide_eq_false (show ¬x + y<0 by omega)]; rfl
theorem SU {o x y c:Int} (ho : 0<=o/\o<65536) (hx : 0<=x/\x<65536) (hy : 0<=y/\y<65536) (hc : 0<=c/\c<65536) :
  (0<=x*y/\x*y<=4294836225)/\0<=(o + x*y + c)/65536/\(o + x*y + c)/65536<65536/\0<=(o + x*y + c)%65536/\(o + x*y + c)%65536<65536/\(o + x*y + c)%65536 + 65536*((o + x*y + c)/65536)=o + x*y + c:=by
 have h1 : 0<=x*y:=ze9 hx.1 hy.1;have h2:x*y<=65535*65535:=Int.le_trans (zb2 (show y<=65535 by omega) hx.1) (za9 (show x<=65535 by omega) (by omega));omega
theorem A11 {out:List Int} {p:Nat} {o d c c' t V:Int} (ho:out[p]? = some o) (hd:d + 65536*c'=o + t + c) (hV:val out + B p*c=V):val (out.set p d) + B (p + 1)*c'=V + B p*t:=by
 rw[Gq ho];have e1:B (p + 1)*c'=B p*(65536*c'):=by simp only[B]; rw[Int.mul_comm 65536 (B p),Int.mul_assoc]
 have e2:B p*d + B p*(65536*c')=B p*o + B p*t + B p*c:=by rw[<-ze1,hd,ze1,ze1]
 rw[e1,Int.mul_sub];omega
theorem As {l:List Int} {k:Nat} (h:k<l.length):l[k]? = some (dg l k):=by rw[za1 h,GF (za1 h)]
theorem Cg {l:List Int} {k j:Nat} {x:Int} (h:k≠j):dg (l.set k x) j=dg l j:=by
 unfold dg;rw[zb7,zb7,List.getElem?_set_ne h]
structure Row (out0 out:List Int) (i k:Nat) (c x:Int) (b:List Int):Prop where
 len:out.length=out0.length
 lb:LB out
 hi:∀ j,i + k<=j->dg out j=dg out0 j
 c0 : 0<=c
 c1:c<65536
 v:val out + B (i + k)*c=val out0 + B i*(x*val (b.take k))
theorem Row.start {out0:List Int} (h:LB out0) (i:Nat) (x:Int) (b:List Int):Row out0 out0 i 0 0 x b:=⟨rfl,h,fun _ _=>rfl,by omega,by omega,by simp[val]⟩
theorem Row.next {out0 out:List Int} {i k:Nat} {c x:Int} {b:List Int} (h:Row out0 out i k c x b) (hb:LB b) (hx : 0<=x/\x<65536) (hk:i + k<out.length) :
  Row out0 (out.set (i + k) ((dg out (i + k) + x*dg b k + c)%65536)) i (k + 1) ((dg out (i + k) + x*dg b k + c)/65536) x b:=by
 have hs:=SU (Bh h.lb (i + k)) hx (Bh hb k) ⟨h.c0,h.c1⟩;refine ⟨by rw[List.length_set]; exact h.len,h.lb.set ⟨hs.2.2.2.1,hs.2.2.2.2.1⟩,fun j hj=>by rw[Cg (by omega)]; exact h.hi j (by omega),hs.2.1,hs.2.2.1,?_⟩
 have:=A11 (As hk) hs.2.2.2.2.2 h.v;rw[show i + (k + 1)=i + k + 1 by omega,this,A9,ze1,ze1];have:B (i + k)*(x*dg b k)=B i*(x*(B k*dg b k)):=by rw[UX]; grind
 omega
theorem A5D {a0 a1 a2:Bool×List Int} {out0:List Int} {i:Nat} {x:Int} (hx : 0<=x/\x<65536) (h0:LB out0) (hb:LB a1.2) (hlen:i + a1.2.length<=out0.length) (ho:out0.length<=10000000) (s7:List Int) (s8 s9:Int) :
  ∃ out c,Ah (fun (s:((Bool×(List Int))×((Bool×(List Int))×((Bool×(List Int))×((List Int)×(Int×(Int×(Int×((List Int)×(Int×(Int×((List Int)×(Int×Int)))))))))))))=>Gi s.1 s.2.1 s.2.2.1 s.2.2.2.1 s.2.2.2.2.1 s.2.2.2.2.2.1 s.2.2.2.2.2.2.1 s.2.2.2.2.2.2.2.1 s.2.2.2.2.2.2.2.2.1 s.2.2.2.2.2.2.2.2.2.1 s.2.2.2.2.2.2.2.2.2.2.1 s.2.2.2.2.2.2.2.2.2.2.2.1 s.2.2.2.2.2.2.2.2.2.2.2.2) ((a0.1,a0.2),((a1.1,a1.2),((a2.1,a2.2),(out0,((i:Int),(x,((0:Int),(s7,(s8,(s9,(a1.2,((((List.length a1.2):Nat):Int),(0:Int))))))))))))) =
   some ((a0.1,a0.2),((a1.1,a1.2),((a2.1,a2.2),(out,((i:Int),(c,(s7,(s8,s9))))))))/\Row out0 out i a1.2.length c x a1.2:=by
 obtain ⟨⟨out,c⟩,h1,h2⟩:=CJ (body:=fun (s:((Bool×(List Int))×((Bool×(List Int))×((Bool×(List Int))×((List Int)×(Int×(Int×(Int×((List Int)×(Int×(Int×((List Int)×(Int×Int)))))))))))))=>Gi s.1 s.2.1 s.2.2.1 s.2.2.2.1 s.2.2.2.2.1 s.2.2.2.2.2.1 s.2.2.2.2.2.2.1 s.2.2.2.2.2.2.2.1 s.2.2.2.2.2.2.2.2.1 s.2.2.2.2.2.2.2.2.2.1 s.2.2.2.2.2.2.2.2.2.2.1 s.2.2.2.2.2.2.2.2.2.2.2.1 s.2.2.2.2.2.2.2.2.2.2.2.2)
  (st:=fun k (b:List Int×Int)=>((a0.1,a0.2),((a1.1,a1.2),((a2.1,a2.2),(b.1,((i:Int),(x,(b.2,(s7,(s8,(s9,(a1.2,((((List.length a1.2):Nat):Int),(k:Int))))))))))))))
  (fin:=fun b=>((a0.1,a0.2),((a1.1,a1.2),((a2.1,a2.2),(b.1,((i:Int),(b.2,(s7,(s8,s9)))))))))
  (I:=fun k b=>Row out0 b.1 i k b.2 x a1.2) (e:=a1.2.length)
  (by
   rintro k ⟨out,c⟩ hk hI;simp only at hI;have hl:=hI.len;have hp:i + k<out.length:=by omega
   have hs:=SU (Bh hI.lb (i + k)) hx (Bh hb k) ⟨hI.c0,hI.c1⟩;have dl:=Bh hI.lb (i + k);have c0:=hI.c0;have c1:=hI.c1;refine ⟨(_,_),?_,hI.next hb hx hp⟩
   unfold Gi AV
   dsimp only
   have i1:A2 ((i:Int) + (k:Int)) out.length=some (i + k):=by rw[show (i:Int) + (k:Int)=((i + k:Nat):Int) by omega]; exact A0 hp
   rw[decide_eq_true (by omega),Aj (n:=(i:Int) + (k:Int)) (by omega) (by omega)];simp only[cond_true,An,As hk,za0,i1,As hp];rw[Aj (n:=x*dg a1.2 k) (by omega) (by omega),Aj (n:=dg out (i + k) + x*dg a1.2 k) (by omega) (by omega),Aj (n:=c + (dg out (i + k) + x*dg a1.2 k)) (by omega) (by omega),show c + (dg out (i + k) + x*dg a1.2 k)=dg out (i + k) + x*dg a1.2 k + c by omega,
    zc6 (by omega),zc1 (by omega),Aj (n:=(dg out (i + k) + x*dg a1.2 k + c)/65536) (by omega) (by omega),AM (by omega)])
  (by
   rintro ⟨out,c⟩ _;unfold Gi
   dsimp only
   rw[decide_eq_false (by omega)];rfl) 0 (out0,0) (by omega) (Row.start h0 i x _)
 exact ⟨out,c,h1,h2⟩
theorem D9 {x y:Int} {k:Nat} (hk:k<=100000) (hx:(x.natAbs:Int)<B k) (hy:(y.natAbs:Int)<B k):∃ r,BE (big x) (big y)=some r/\(r.2,r.1)=big (x*y):=by
 have lx:=ze6 (Ax.2 hx) hk;have ly:=ze6 (Ax.2 hy) hk;unfold BE;generalize ha:lim x.natAbs=a at lx;generalize hb':lim y.natAbs=b at ly;have la:LB a:=ha▸AO _;have lb:LB b:=hb'▸AO _;have e1:(big x).2=a:=ha;have e2:(big y).2=b:=hb';rw[e1,e2,Aj (by omega) (by omega),show ((a.length:Nat):Int) + ((b.length:Nat):Int)=((a.length + b.length:Nat):Int) by omega,Jn (by unfold Ag; omega) (by unfold Ag; omega)];simp only[za0]
 obtain ⟨out,h1,h2⟩:=CJ (body:=fun (s:((Bool×(List Int))×((Bool×(List Int))×((Bool×(List Int))×((List Int)×((List Int)×(Int×Int)))))))=>IV s.1 s.2.1 s.2.2.1 s.2.2.2.1 s.2.2.2.2.1 s.2.2.2.2.2.1 s.2.2.2.2.2.2)
  (st:=fun i (o:List Int)=>(((big x).1,a),(((big y).1,b),((false,([]:List Int)),(o,(a,(((a.length:Nat):Int),(i:Int))))))))
  (fin:=fun o=>(((big x).1,a),(((big y).1,b),((false,([]:List Int)),o))))
  (I:=fun i o=>o.length=a.length + b.length/\LB o/\(∀ j,i + b.length<=j->dg o j=0)/\val o=val (a.take i)*val b) (e:=a.length)
  (by
   rintro i o hi ⟨h1,h2,h3,h4⟩;have hd:=Bh la i;obtain ⟨o1,c,q1,q2⟩:=A5D (a0:=((big x).1,a)) (a1:=((big y).1,b)) (a2:=(false,[])) hd h2 lb (show i + b.length<=o.length by omega) (show o.length<=10000000 by omega) a ((a.length:Nat):Int) (i:Int);simp only at q1 q2;have hl1:=q2.len;have hp:i + b.length<o1.length:=by omega
   have hz:dg o1 (i + b.length)=0:=by rw[q2.hi _ (za7 _),h3 _ (by omega)]
   have c0:=q2.c0;have c1:=q2.c1;refine ⟨o1.set (i + b.length) c,?_,by rw[List.length_set]; omega,q2.lb.set ⟨c0,c1⟩,fun j hj=>?_,?_⟩
   ·unfold IV AV
    dsimp only
    rw[decide_eq_true (by omega),An,As hi];simp only[cond_true,za0];rw[q1];simp only[za0];have i1:A2 ((i:Int) + ((b.length:Nat):Int)) o1.length=some (i + b.length):=by rw[show (i:Int) + ((b.length:Nat):Int)=((i + b.length:Nat):Int) by omega]; exact A0 hp
    rw[Aj (n:=(i:Int) + ((b.length:Nat):Int)) (by omega) (by omega),i1];simp only[za0,As hp,hz];rw[Aj (n:=0 + c) (by omega) (by omega),AM (by omega),Int.zero_add]
   ·rw[Cg (by omega),q2.hi j (by omega),h3 j (by omega)]
   ·rw[Gq (As hp),hz,Int.sub_zero];have hv:=q2.v;rw[List.take_length] at hv;rw[A9,Int.add_mul,<-h4];have:B i*dg a i*val b=B i*(dg a i*val b):=Int.mul_assoc ..
    omega)
  (by
   rintro o _;unfold IV
   dsimp only
   rw[decide_eq_false (by omega)];rfl) 0 (List.replicate (a.length + b.length) 0) (by omega) ⟨by simp,LB.zeros _,fun j _=>by
    unfold dg; rw[zb7,List.getElem?_replicate]; split <;> rfl,by rw[FT]; simp[val]⟩
 rw[show ((0:Nat):Int)=0 from rfl] at h1;rw[h1];obtain ⟨g1,g2,g3,g4⟩:=h2;rw[List.take_length] at g4;simp only[za0];rw[IU g2 (by unfold AH; omega)];simp only[za0];refine ⟨_,rfl,?_⟩
 have hv:(val out).toNat=(x*y).natAbs:=by rw[g4,<-ha,<-hb',AE,AE,Int.natAbs_mul]; omega
 rw[hv];unfold big
 congr 1
 by_cases hx0:x=0
 ·subst hx0; simp
 ·by_cases hy0:y=0
  ·subst hy0; simp
  ·have hne:(x*y).natAbs≠0:=by
    rw[Int.natAbs_mul];intro h;rcases Nat.mul_eq_zero.1 h with h | h <;> omega
   rw[decide_eq_true hne];by_cases h1:x<0
   ·by_cases h2:y<0
    ·have:=Int.mul_pos_of_neg_of_neg h1 h2;rw[decide_eq_true h1,decide_eq_true h2,decide_eq_false (by omega)]; rfl
    ·have:=Int.mul_neg_of_neg_of_pos h1 (show 0<y by omega);rw[decide_eq_true h1,decide_eq_false h2,decide_eq_true (by omega)]; rfl
   ·by_cases h2:y<0
    ·have:=Int.mul_neg_of_pos_of_neg (show 0<x by omega) h2;rw[decide_eq_false h1,decide_eq_true h2,decide_eq_true (by omega)]; rfl
    ·have:=Int.mul_pos (show 0<x by omega) (show 0<y by omega);rw[decide_eq_false h1,decide_eq_false h2,decide_eq_false (by omega)]; rfl
end
section
open Go
theorem A7z {out0 b:List Int} {i:Nat} {x:Int} (hx : 0<=x/\x<65536) (h0:LB out0) (hb:LB b) (hlen:i + b.length<out0.length) (hz:∀ j,i + b.length<=j->dg out0 j=0) (ho:out0.length<=10000000) (s6:List Int) (s7 s8:Int) :
  ∃ out,Ah (fun (s:((List Int)×((List Int)×(Int×(Int×(Int×(Int×((List Int)×(Int×Int)))))))))=>DW s.1 s.2.1 s.2.2.1 s.2.2.2.1 s.2.2.2.2.1 s.2.2.2.2.2.1 s.2.2.2.2.2.2.1 s.2.2.2.2.2.2.2.1 s.2.2.2.2.2.2.2.2) (out0,(b,((i:Int),(x,((0:Int),((0:Int),(s6,(s7,s8))))))))=some (out,(b,(s6,(s7,s8)))) /\
   out.length=out0.length/\LB out/\(∀ j,i + 1 + b.length<=j->dg out j=0)/\val out=val out0 + B i*(x*val b):=by
 obtain ⟨r,h1,out,rfl,h2⟩:=Hm (f:=fun (s:((List Int)×((List Int)×(Int×(Int×(Int×(Int×((List Int)×(Int×Int)))))))))=>DW s.1 s.2.1 s.2.2.1 s.2.2.2.1 s.2.2.2.2.1 s.2.2.2.2.2.1 s.2.2.2.2.2.2.1 s.2.2.2.2.2.2.2.1 s.2.2.2.2.2.2.2.2)
  (I:=fun s=>∃ (k:Nat) (out:List Int) (c:Int),s=(out,(b,((i:Int),(x,(c,((k:Int),(s6,(s7,s8))))))))/\k<=b.length + 1/\Row out0 out i k c x b/\(k=b.length + 1->c=0))
  (R:=fun r=>∃ out,r=(out,(b,(s6,(s7,s8))))/\out.length=out0.length/\LB out/\(∀ j,i + 1 + b.length<=j->dg out j=0)/\val out=val out0 + B i*(x*val b)) (fun s=>(b.length + 2-s.2.2.2.2.2.1).toNat) (by
   rintro s ⟨k,out,c,rfl,hk,hR,hc⟩;simp only;have hl:=hR.len;have c0:=hR.c0;have c1:=hR.c1;by_cases hgo:k<b.length\/c>0
   ·have hkb:k<=b.length:=by
     rcases hgo with h | h
     ·omega
     ·rcases ze0 b.length k with h6 | h6
      ·have:=hc (by omega); omega
      ·exact h6
    have hp:i + k<out.length:=by omega
    have hs:=SU (Bh hR.lb (i + k)) hx (Bh hb k) ⟨c0,c1⟩;have dl:=Bh hR.lb (i + k);refine .inl ⟨(out.set (i + k) ((dg out (i + k) + x*dg b k + c)%65536),(b,((i:Int),(x,((dg out (i + k) + x*dg b k + c)/65536,(((k + 1:Nat):Int),(s6,(s7,s8)))))))),?_,⟨k + 1,_,_,rfl,by omega,hR.next hb hx hp,fun he=>?_⟩,by simp only; omega⟩
    ·unfold DW AV;have hcond:(bif decide ((k:Int)<((b.length:Nat):Int)) then some (Sum.inr (α:=(List Int×List Int×Int×Int×Int×Int×List Int×Int×Int) ⊕ (List Int×List Int×List Int×Int×Int)) (out,(b,((i:Int),(x,(c,((k:Int),(s6,(s7,s8))))))))) else bif decide (c>0) then some (Sum.inr (out,(b,((i:Int),(x,(c,((k:Int),(s6,(s7,s8))))))))) else some (Sum.inl (Sum.inr (out,(b,(s6,(s7,s8)))))))=some (Sum.inr (out,(b,((i:Int),(x,(c,((k:Int),(s6,(s7,s8))))))))):=by
      by_cases g1:(k:Int)<(b.length:Int)
      ·rw[decide_eq_true g1]; rfl
      ·have:c>0:=by rcases hgo with h | h <;> omega
       rw[decide_eq_false g1,decide_eq_true this]; rfl
     rw[hcond];have i1:A2 ((i:Int) + (k:Int)) out.length=some (i + k):=by rw[show (i:Int) + (k:Int)=((i + k:Nat):Int) by omega]; exact A0 hp
     simp only[za0,za8];rw[Aj (n:=(i:Int) + (k:Int)) (by omega) (by omega),i1];simp only[za0,As hp,M6];rw[Aj (n:=x*dg b k) (by omega) (by omega),Aj (n:=dg out (i + k) + x*dg b k) (by omega) (by omega),Aj (n:=dg out (i + k) + x*dg b k + c) (by omega) (by omega),
      zc6 (by omega),zc1 (by omega),Aj (n:=(dg out (i + k) + x*dg b k + c)/65536) (by omega) (by omega),AM (by omega)]
    ·have hkb':k=b.length:=by omega
     have z1:dg b k=0:=Jw (by omega);have z2:dg out (i + k)=0:=by rw[hR.hi _ (za7 _),hz _ (by omega)]
     rw[z1,z2,Int.mul_zero];omega
   ·have hkb:b.length<=k:=by omega
    have hcz:c=0:=by omega
    subst hcz;refine .inr ⟨_,?_,out,rfl,hl,hR.lb,fun j hj=>?_,?_⟩
    ·unfold DW;rw[decide_eq_false (by omega),decide_eq_false (by omega)];rfl
    ·rw[hR.hi j (by omega),hz j (by omega)]
    ·have:=hR.v;rw[zc4 hkb] at this;omega) (out0,(b,((i:Int),(x,((0:Int),((0:Int),(s6,(s7,s8)))))))) ⟨0,out0,0,rfl,by omega,Row.start h0 i x b,by omega⟩
 exact ⟨out,h1,h2⟩
theorem AT8 {a b:List Int} (ha:LB a) (hb:LB b) (na:a.length<=100000) (nb:b.length<=100000):Fp a b=some (lim (val a*val b).toNat):=by
 unfold Fp;rw[Aj (n:=((a.length:Nat):Int) + ((b.length:Nat):Int)) (by omega) (by omega),Aj (by omega) (by omega),show ((a.length:Nat):Int) + ((b.length:Nat):Int) + 1=((a.length + b.length + 1:Nat):Int) by omega,Jn (by unfold Ag; omega) (by unfold Ag; omega)];simp only[za0];obtain ⟨out,h1,h2⟩:=CJ (body:=fun (s:((List Int)×((List Int)×((List Int)×(Int×Int)))))=>F0 s.1 s.2.1 s.2.2.1 s.2.2.2.1 s.2.2.2.2)
  (st:=fun i (o:List Int)=>(o,(b,(a,(((a.length:Nat):Int),(i:Int)))))) (fin:=fun o=>o)
  (I:=fun i o=>o.length=a.length + b.length + 1/\LB o/\(∀ j,i + b.length<=j->dg o j=0)/\val o=val (a.take i)*val b) (e:=a.length)
  (by
   rintro i o hi ⟨h1,h2,h3,h4⟩;have hd:=Bh ha i;obtain ⟨o1,q1,q2,q3,q4,q5⟩:=A7z hd h2 hb (show i + b.length<o.length by omega) h3 (by omega) a ((a.length:Nat):Int) (i:Int);refine ⟨o1,?_,by omega,q3,q4,?_⟩
   ·unfold F0
    dsimp only
    rw[decide_eq_true (by omega),An,As hi];simp only[cond_true,za0];rw[q1];simp only[za0];rw[AM (by omega)]
   ·rw[q5,h4,A9,Int.add_mul];have:B i*dg a i*val b=B i*(dg a i*val b):=Int.mul_assoc ..
    omega)
  (by
   rintro o _;unfold F0
   dsimp only
   rw[decide_eq_false (by omega)];rfl) 0 (List.replicate (a.length + b.length + 1) 0) (by omega) ⟨by simp,LB.zeros _,fun j _=>by
    unfold dg; rw[zb7,List.getElem?_replicate]; split <;> rfl,by rw[FT]; simp[val]⟩
 rw[show ((0:Nat):Int)=0 from rfl] at h1;rw[h1];obtain ⟨g1,g2,g3,g4⟩:=h2;rw[List.take_length] at g4;simp only[za0];rw[Hy (by unfold AH; omega)];simp only[za0];rw[Cz g2,g4]
theorem A88 {x y:Int} (h:(x*y).natAbs≠0):(!(decide (x<0)==decide (y<0)))=decide (x*y<0):=by
 have hx:x≠0:=by rintro rfl; simp at h
 have hy:y≠0:=by rintro rfl; simp at h
 by_cases h1:x<0
 ·by_cases h2:y<0
  ·have:=Int.mul_pos_of_neg_of_neg h1 h2;rw[decide_eq_true h1,decide_eq_true h2,decide_eq_false (by omega)]; rfl
  ·have:=Int.mul_neg_of_neg_of_pos h1 (show 0<y by omega);rw[decide_eq_true h1,decide_eq_false h2,decide_eq_true (by omega)]; rfl
 ·by_cases h2:y<0
  ·have:=Int.mul_neg_of_pos_of_neg (show 0<x by omega) h2;rw[decide_eq_false h1,decide_eq_true h2,decide_eq_true (by omega)]; rfl
  ·have:=Int.mul_pos (show 0<x by omega) (show 0<y by omega);rw[decide_eq_false h1,decide_eq_false h2,decide_eq_false (by omega)]; rfl
theorem Av8 (x y:Int):((!(decide (x<0)==decide (y<0)))&&decide ((x*y).natAbs≠0),lim (x*y).natAbs)=big (x*y):=by
 unfold big
 congr 1
 by_cases h:(x*y).natAbs≠0
 ·rw[A88 h,decide_eq_true h,Bool.and_true]
 ·rw[decide_eq_false h,Bool.and_false,decide_eq_false (by omega)]
theorem JZ {x y:Int} {k:Nat} (hk:k<=100000) (hx:(x.natAbs:Int)<B k) (hy:(y.natAbs:Int)<B k):C4 (big x) (big y)=some (big (x*y)):=by
 have lx:=ze6 (Ax.2 hx) hk;have ly:=ze6 (Ax.2 hy) hk;unfold C4;rw[show (big x).2=lim x.natAbs from rfl,show (big y).2=lim y.natAbs from rfl,AT8 (AO _) (AO _) lx ly];have e:(val (lim x.natAbs)*val (lim y.natAbs)).toNat=(x*y).natAbs:=by rw[AE,AE,Int.natAbs_mul]; omega
 have hl:(lim (x*y).natAbs).length<=k + k:=by
  rw[Ax,Int.natAbs_mul,UX];have h1:=Hb k;have:((x.natAbs*y.natAbs:Nat):Int)=(x.natAbs:Int)*(y.natAbs:Int):=by simp
  rw[this];exact Int.lt_of_le_of_lt (za9 (ze3 hx) (by omega)) (Int.mul_lt_mul_of_pos_left hy h1)
 simp only[za0];rw[e,F7 (AO _) (by unfold AH; omega)];simp only[za0,AE,zc5];rw[<-Av8];rfl
end
section
open Go
theorem Ch (l:List Int) (h:Nat):val l=val (l.take h) + B h*val (l.drop h):=by
 rcases Nat.le_or_ge h l.length with hc | hc
 ·exact WG l h hc
 ·rw[zc4 hc,zd5 hc]; simp[val]
theorem BA0 {x y:Nat} {p q:Nat} (h1:(x:Int)<B p) (h2:(y:Int)<B q):((x*y:Nat):Int)<B (p + q):=by
 rw[UX,show ((x*y:Nat):Int)=(x:Int)*(y:Int) by simp];exact Int.lt_of_le_of_lt (za9 (ze3 h1) (by omega)) (Int.mul_lt_mul_of_pos_left h2 (Hb p))
end
section
open Go
theorem Aa4 {n:Nat} (h:n≠0):lim n=((n%65536:Nat):Int)::lim (n/65536):=by
 conv=>lhs; unfold lim
 rw[dif_neg h]
theorem UU (s:Bool×List Int) (neg:Bool):∀ (f:Nat) (n:Nat) (acc:List Int),n<=f->n<18446744073709551616->acc.length + (lim n).length<=10000 ->
  Ah (fun (s:((Bool×(List Int))×((List Int)×(Bool×Int))))=>Mi s.1 s.2.1 s.2.2.1 s.2.2.2) (s,(acc,(neg,(n:Int))))=some (s,(acc++lim n,neg)):=by
 intro f
 induction f with
 | zero =>
  intro n acc hn _ _;have:n=0:=by omega
  subst this;rw[Cp,ze5];exact Aq rfl
 | succ f ih =>
  intro n acc hn h64 h2;by_cases h0:n=0
  ·subst h0;rw[Cp,ze5];exact Aq rfl
  ·rw[Aa4 h0] at h2 ⊢
   simp only[zb8] at h2;have hstep:Mi s acc neg (n:Int)=some (.inl (s,(acc ++ [((n%65536:Nat):Int)],(neg,((n/65536:Nat):Int))))):=by
    unfold Mi;rw[decide_eq_true (by omega),zc6 (by omega),zc1 (by omega),Aj (by omega) (by omega),Az8 (by omega) (by omega)];simp only[cond_true];rw[A1y (by omega)];simp only[za0];rw[show (n:Int)%65536=((n%65536:Nat):Int) by omega,show (n:Int)/65536=((n/65536:Nat):Int) by omega]
   have:=ih (n/65536) (acc ++ [((n%65536:Nat):Int)]) (by omega) (by omega) (by simp; omega);rw[AX hstep,this,List.append_assoc];rfl
theorem A1m {n:Nat} (h:n<18446744073709551616):(lim n).length<=4:=Ax.2 (by have:B 4=18446744073709551616:=rfl; omega)
theorem Z4 {n:Int} (h1 : -9223372036854775808<=n) (h2:n<=9223372036854775807):Dr n=some (big n):=by
 unfold Dr;have hl:=A1m (n:=n.natAbs) (by omega);by_cases h:n<0
 ·have e:IntKind.wrap .u64 (0-IntKind.wrap .u64 n)=(n.natAbs:Int):=by rw[IntKind.wrap_u64,IntKind.wrap_u64]; omega
  rw[decide_eq_true h];simp only[cond_true,za0,za8];rw[e,UU (false,[]) true n.natAbs n.natAbs [] (za7 _) (by omega) (by simp; omega)];unfold big;rw[decide_eq_true h];rfl
 ·have e:IntKind.wrap .u64 n=(n.natAbs:Int):=by rw[IntKind.wrap_u64]; omega
  rw[decide_eq_false h];simp only[cond_false,za0,za8];rw[e,UU (false,[]) false n.natAbs n.natAbs [] (za7 _) (by omega) (by simp; omega)];unfold big;rw[decide_eq_false h];rfl
theorem AQ5 (s:Bool×List Int) (m:Int):∀ (f:Nat) (n:Int) (acc:List Int),n.natAbs<=f->-9223372036854775808<=n->n<=9223372036854775807->acc.length + (lim n.natAbs).length<=10000 ->
  Ah (fun (s:((Bool×(List Int))×((List Int)×(Int×Int))))=>L9 s.1 s.2.1 s.2.2.1 s.2.2.2) (s,(acc,(m,n)))=some (s,(acc++lim n.natAbs,m)):=by
 intro f
 induction f with
 | zero =>
  intro n acc hn _ _ _;have:n=0:=by omega
  subst this;rw[show (0:Int).natAbs=0 from rfl,Cp,ze5];exact Aq rfl
 | succ f ih =>
  intro n acc hn h1 h2 h3;by_cases h0:n=0
  ·subst h0;rw[show (0:Int).natAbs=0 from rfl,Cp,ze5];exact Aq rfl
  ·rw[Aa4 (show n.natAbs≠0 by omega)] at h3 ⊢
   simp only[zb8] at h3;have hq:(Int.tdiv n 65536).natAbs=n.natAbs/65536:=by rw[Int.natAbs_tdiv]; rfl
   have hq1 : -9223372036854775808<=Int.tdiv n 65536/\Int.tdiv n 65536<=9223372036854775807:=by omega
   have hr:((Int.tmod n 65536).natAbs:Int)=((n.natAbs%65536:Nat):Int):=by rw[Int.natAbs_tmod]; rfl
   have hstep:L9 s acc m n=some (.inl (s,(acc ++ [((n.natAbs%65536:Nat):Int)],(m,Int.tdiv n 65536)))):=by
    unfold L9;have:(n != 0)=true:=by simpa using h0
    rw[this,Aj (n:=Int.tdiv n 65536) (by omega) (by omega)];simp only[cond_true];by_cases hneg:Int.tmod n 65536<0
    ·rw[decide_eq_true hneg,Aj (by omega) (by omega)];simp only[cond_true];rw[A1y (by omega),show (0:Int)-Int.tmod n 65536=((n.natAbs%65536:Nat):Int) by omega];rfl
    ·rw[decide_eq_false hneg];simp only[cond_false];rw[A1y (by omega),show Int.tmod n 65536=((n.natAbs%65536:Nat):Int) by omega];rfl
   have:=ih (Int.tdiv n 65536) (acc ++ [((n.natAbs%65536:Nat):Int)]) (by omega) hq1.1 hq1.2 (by rw[hq]; simp; omega);rw[AX hstep,this,List.append_assoc,hq];rfl
theorem U4 {n:Int} (h1 : -9223372036854775808<=n) (h2:n<=9223372036854775807):DY n=some (big n):=by
 unfold DY;have hl:=A1m (n:=n.natAbs) (by omega);rw[AQ5 (false,[]) n n.natAbs n [] (za7 _) h1 h2 (by simp; omega)];simp only[za0,List.nil_append];rw[F7 (AO _) (by unfold AH; omega)];simp only[za0,AE,zc5];unfold big;by_cases h:n<0
 ·rw[decide_eq_true h,decide_eq_true (show n.natAbs≠0 by omega)]; rfl
 ·rw[decide_eq_false h]; rfl
theorem AU1 (z:Int):BF (big z)=some (C3 z 0):=by
 unfold BF big;by_cases h0:z=0
 ·subst h0;rw[show (0:Int).natAbs=0 from rfl,Cp];rfl
 ·have:((((lim z.natAbs).length:Nat):Int)==0)=false:=beq_eq_false_iff_ne.2 (by
   intro h;have h2:lim z.natAbs = []:=zb4 (by omega);have:=J0.1 h2;omega)
  rw[this];by_cases h:z<0
  ·rw[decide_eq_true h,Ep h]; rfl
  ·rw[decide_eq_false h,Gn (by omega)]; rfl
theorem Uw {x y:Int} {k:Nat} (hk:k<=1000000) (hx:(x.natAbs:Int)<B k) (hy:(y.natAbs:Int)<B k):DT (big x) (big y)=some (C3 x y):=by
 have lx:=GS hx hk;have ly:=GS hy hk;unfold DT;have e1:BF ((big x).1,(big x).2)=some (C3 x 0):=AU1 x;have e2:BF ((big y).1,(big y).2)=some (C3 y 0):=AU1 y;simp only[e1,e2,za0,XI];have e3:BH (big x).2 (big y).2=some (C3 (x.natAbs:Int) (y.natAbs:Int)):=HJ (by unfold AH; omega) (by unfold AH; omega);rw[e3];have cx:=Cf x 0;have cy:=Cf y 0;have c3:=Cf (x.natAbs:Int) (y.natAbs:Int);have cxy:=Cf x y;have cs:=Cf (C3 x 0) (C3 y 0);by_cases h:C3 x 0=C3 y 0
 ·rw[h,bne_self_eq_false];simp only[cond_false,za0];rcases cy with ⟨cy,_⟩ | ⟨cy,_⟩ | ⟨cy,_⟩ <;> rw[cy] at h⊢<;> rcases c3 with ⟨c3,_⟩ | ⟨c3,_⟩ | ⟨c3,_⟩ <;> rw[c3] <;> rw[Aj (by omega) (by omega)] <;> congr 1 <;> omega
 ·have hb:(C3 x 0 != C3 y 0)=true:=by simpa using h
  rw[hb];simp only[cond_true]
  congr 1
  omega
end
section
open Go
theorem Xf {a q r by_:Int} (h:q*by_ + r=a) (h0 : 0<=r) (h1:r<by_):q=a/by_/\r=a%by_:=by
 have:a=r + by_*q:=by rw[<-h,Int.mul_comm]; omega
 subst this;constructor
 ·rw[Int.add_mul_ediv_left _ _ (by omega),Int.ediv_eq_zero_of_lt h0 h1]; omega
 ·rw[Int.add_mul_emod_self_left,Int.emod_eq_of_lt h0 h1]
theorem ZI {a:List Int} {d:Int} (ha:LB a) (hd : 1<=d/\d<=65536) (na:a.length<=10000000) :
  ∃ q r,Ah (fun (s:((List Int)×((List Int)×(Int×(Int×Int)))))=>FC s.1 s.2.1 s.2.2.1 s.2.2.2.1 s.2.2.2.2) (List.replicate a.length 0,(a,(d,(0,(a.length:Int)-1))))=some (q,r)/\LB q/\q.length=a.length/\0<=r/\r<d/\val q*d + r=val a:=by
 obtain ⟨⟨q,r⟩,h1,h2⟩:=MR (body:=fun (s:((List Int)×((List Int)×(Int×(Int×Int)))))=>FC s.1 s.2.1 s.2.2.1 s.2.2.2.1 s.2.2.2.2)
  (st:=fun n (b:List Int×Int)=>(b.1,(a,(d,(b.2,(n:Int)-1))))) (fin:=fun b=>b)
  (I:=fun n b=>n<=a.length/\LB b.1/\b.1.length=a.length/\(∀ j,j<n->dg b.1 j=0)/\0<=b.2/\b.2<d/\val b.1*d + B n*b.2=B n*val (a.drop n))
  (by
   rintro n ⟨q,r⟩ ⟨h1,h2,h3,h4,h5,h6,h7⟩;simp only at h2 h3 h4 h5 h6 h7;have hn:n<a.length:=by omega
   have hg:=za1 hn;have dx:=Bh ha n;have hx:a[n]=dg a n:=(GF hg).symm;have hq:q[n]? = some 0:=by rw[As (by omega),h4 n (by omega)]
   have ht0 : 0<=r*65536 + dg a n:=by omega
   have hdd:=Int.emod_add_mul_ediv (r*65536 + dg a n) d;have m0:=Int.emod_nonneg (r*65536 + dg a n) (show d≠0 by omega);have m1:=Int.emod_lt_of_pos (r*65536 + dg a n) (show 0<d by omega);have q0:=Int.ediv_nonneg ht0 (show 0<=d by omega);have q1:(r*65536 + dg a n)/d<65536:=by
    refine Int.ediv_lt_of_lt_mul (by omega) ?_
    have:r*65536 + dg a n<d*65536:=by omega
    rw[Int.mul_comm 65536 d];exact this
   refine ⟨(q.set n ((r*65536 + dg a n)/d),(r*65536 + dg a n)%d),?_,by omega,h2.set ⟨q0,q1⟩,by simp[h3],fun j hj=>by simp only; rw[Cg (by omega)]; exact h4 j (by omega),m0,m1,?_⟩
   ·unfold FC AV
    dsimp only
    have hz:(d==0)=false:=beq_eq_false_iff_ne.2 (by omega);have hs:((n + 1:Nat):Int)-1=(n:Int):=by omega
    have i1:A2 (n:Int) q.length=some n:=A0 (by omega);rw[hs,decide_eq_true (by omega),An,hg];simp only[cond_true,za0,hz,cond_false,i1,hq,hx];rw[Aj (n:=r*65536) (by omega) (by omega),Aj (n:=r*65536 + dg a n) (by omega) (by omega),zc1 ht0,zc6 ht0,Aj (n:=(r*65536 + dg a n)/d) (by omega) (by omega),Aj (n:=(n:Int)-1) (by omega) (by omega)]
   ·simp only;rw[Gq hq,zb0 hn,hx];simp only[val,Int.sub_zero];have e1:B (n + 1)*r=B n*(r*65536):=by simp only[B]; grind
    have e2:B (n + 1)*val (a.drop (n + 1))=B n*(65536*val (a.drop (n + 1))):=by simp only[B]; grind
    rw[e1,e2] at h7;have e3:B n*((r*65536 + dg a n)/d)*d + B n*((r*65536 + dg a n)%d)=B n*(r*65536) + B n*dg a n:=by
     rw[Int.mul_assoc,<-ze1,<-ze1]
     congr 1
     rw[Int.mul_comm _ d];omega
    rw[Int.add_mul,ze1];omega)
  (by
   rintro ⟨q,r⟩ _;unfold FC;rfl) a.length (List.replicate a.length 0,0) ⟨za7 _,LB.zeros _,by simp,fun j _=>by
    unfold dg; rw[zb7,List.getElem?_replicate]; split <;> rfl,by omega,by simp only; omega,by simp[FT,val]⟩
 obtain ⟨g1,g2,g3,g4,g5,g6,g7⟩:=h2;simp only[B,Int.one_mul,ze8] at g7;exact ⟨q,r,h1,g2,g3,g5,g6,g7⟩
theorem As7 {a:List Int} {d:Int} (ha:LB a) (hd : 1<=d/\d<=65536) (na:a.length<=10000000) :
  ∃ q r,Ah (fun (s:((List Int)×((List Int)×(Int×(Int×Int)))))=>Gf s.1 s.2.1 s.2.2.1 s.2.2.2.1 s.2.2.2.2) (List.replicate a.length 0,(a,(d,(0,(a.length:Int)-1))))=some (q,r)/\LB q/\q.length=a.length/\0<=r/\r<d/\val q*d + r=val a:=by
 obtain ⟨⟨q,r⟩,h1,h2⟩:=MR (body:=fun (s:((List Int)×((List Int)×(Int×(Int×Int)))))=>Gf s.1 s.2.1 s.2.2.1 s.2.2.2.1 s.2.2.2.2)
  (st:=fun n (b:List Int×Int)=>(b.1,(a,(d,(b.2,(n:Int)-1))))) (fin:=fun b=>b)
  (I:=fun n b=>n<=a.length/\LB b.1/\b.1.length=a.length/\(∀ j,j<n->dg b.1 j=0)/\0<=b.2/\b.2<d/\val b.1*d + B n*b.2=B n*val (a.drop n))
  (by
   rintro n ⟨q,r⟩ ⟨h1,h2,h3,h4,h5,h6,h7⟩;simp only at h2 h3 h4 h5 h6 h7;have hn:n<a.length:=by omega
   have hg:=za1 hn;have dx:=Bh ha n;have hx:a[n]=dg a n:=(GF hg).symm;have hq:q[n]? = some 0:=by rw[As (by omega),h4 n (by omega)]
   have ht0 : 0<=r*65536 + dg a n:=by omega
   have hdd:=Int.emod_add_mul_ediv (r*65536 + dg a n) d;have m0:=Int.emod_nonneg (r*65536 + dg a n) (show d≠0 by omega);have m1:=Int.emod_lt_of_pos (r*65536 + dg a n) (show 0<d by omega);have q0:=Int.ediv_nonneg ht0 (show 0<=d by omega);have q1:(r*65536 + dg a n)/d<65536:=by
    refine Int.ediv_lt_of_lt_mul (by omega) ?_
    have:r*65536 + dg a n<d*65536:=by omega
    rw[Int.mul_comm 65536 d];exact this
   refine ⟨(q.set n ((r*65536 + dg a n)/d),(r*65536 + dg a n)%d),?_,by omega,h2.set ⟨q0,q1⟩,by simp[h3],fun j hj=>by simp only; rw[Cg (by omega)]; exact h4 j (by omega),m0,m1,?_⟩
   ·unfold Gf AV
    dsimp only
    have hz:(d==0)=false:=beq_eq_false_iff_ne.2 (by omega);have hs:((n + 1:Nat):Int)-1=(n:Int):=by omega
    have i1:A2 (n:Int) q.length=some n:=A0 (by omega);rw[hs,decide_eq_true (by omega),An,hg];simp only[cond_true,za0,hz,cond_false,i1,hq,hx];rw[Aj (n:=r*65536) (by omega) (by omega),Aj (n:=r*65536 + dg a n) (by omega) (by omega),zc1 ht0,zc6 ht0,Aj (n:=(r*65536 + dg a n)/d) (by omega) (by omega),Aj (n:=(n:Int)-1) (by omega) (by omega)]
   ·simp only;rw[Gq hq,zb0 hn,hx];simp only[val,Int.sub_zero];have e1:B (n + 1)*r=B n*(r*65536):=by simp only[B]; grind
    have e2:B (n + 1)*val (a.drop (n + 1))=B n*(65536*val (a.drop (n + 1))):=by simp only[B]; grind
    rw[e1,e2] at h7;have e3:B n*((r*65536 + dg a n)/d)*d + B n*((r*65536 + dg a n)%d)=B n*(r*65536) + B n*dg a n:=by
     rw[Int.mul_assoc,<-ze1,<-ze1]
     congr 1
     rw[Int.mul_comm _ d];omega
    rw[Int.add_mul,ze1];omega)
  (by
   rintro ⟨q,r⟩ _;unfold Gf;rfl) a.length (List.replicate a.length 0,0) ⟨za7 _,LB.zeros _,by simp,fun j _=>by
    unfold dg; rw[zb7,List.getElem?_replicate]; split <;> rfl,by omega,by simp only; omega,by simp[FT,val]⟩
 obtain ⟨g1,g2,g3,g4,g5,g6,g7⟩:=h2;simp only[B,Int.one_mul,ze8] at g7;exact ⟨q,r,h1,g2,g3,g5,g6,g7⟩
theorem As5 {n:Nat} {d:Int} (hd : 1<=d/\d<=65536) (hn:(lim n).length<=10000000):FN (lim n) d=some (lim (n/d.toNat),((n%d.toNat:Nat):Int)):=by
 obtain ⟨q,r,h1,h2,h3,h4,h5,h6⟩:=ZI (AO n) hd hn;rw[AE] at h6;unfold FN;rw[Jn (by unfold Ag; omega) (by unfold Ag; omega),Aj (by omega) (by omega)];simp only[za0,h1];rw[AB5 (by unfold AH; omega)];simp only[za0];rw[Cz h2];obtain ⟨e1,e2⟩:=Xf h6 h4 h5;have hdn:d=(d.toNat:Int):=by omega
 have hv:=AZ h2;have q1:(val q).toNat=n/d.toNat:=by
  have:val q=((n/d.toNat:Nat):Int):=by rw[e1,hdn]; simp
  omega
 have q2:r=((n%d.toNat:Nat):Int):=by rw[e2,hdn]; simp
 rw[q1,q2]
theorem A6I {n:Nat} {d:Int} (hd : 1<=d/\d<=65535) (hn:(lim n).length<=10000000):Jd (lim n) d=some (lim (n/d.toNat),lim (n%d.toNat)):=by
 obtain ⟨q,r,h1,h2,h3,h4,h5,h6⟩:=As7 (AO n) (show 1<=d/\d<=65536 by omega) hn;rw[AE] at h6;unfold Jd;rw[Jn (by unfold Ag; omega) (by unfold Ag; omega),Aj (by omega) (by omega)];simp only[za0,h1];rw[Hy (by unfold AH; omega)];simp only[za0];rw[Hy (by unfold AH; simp)];simp only[za0];rw[Cz h2,Cz (LB.cons (by omega) LB.nil)];obtain ⟨e1,e2⟩:=Xf h6 h4 h5;have hdn:d=(d.toNat:Int):=by omega
 have hv:=AZ h2;have q1:(val q).toNat=n/d.toNat:=by
  have:val q=((n/d.toNat:Nat):Int):=by rw[e1,hdn]; simp
  omega
 have q2:(val [r]).toNat=n%d.toNat:=by
  have:r=((n%d.toNat:Nat):Int):=by rw[e2,hdn]; simp
  simp only[val];omega
 rw[q1,q2]
end
section
open Go
section
variable {P v1 v2 vr top u2 ur q r v U:Int} (hP : 0<P) (hv1 : 1<=v1) (hv1':v1<65536) (hv2 : 0<=v2/\v2<65536) (hvr : 0<=vr/\vr<P) (hu2 : 0<=u2/\u2<65536) (hur : 0<=ur/\ur<P)
 (hv:v=(v1*65536 + v2)*P + vr) (hU:U=(top*65536 + u2)*P + ur) (hq:q*v1 + r=top) (hq0 : 0<=q)
include hP hv1 hv2 hvr hu2 hur hv hU hq hq0
theorem Ap3 (h:q*v2>r*65536 + u2):U<q*v:=by
 have h1:q*(v1*65536 + v2)=(q*v1)*65536 + q*v2:=by grind
 have h2:top*65536 + u2 + 1<=q*(v1*65536 + v2):=by omega
 have h3:=za9 h2 (ze3 hP);have h4 : 0<=q*vr:=ze9 hq0 hvr.1;have h5:q*v=q*(v1*65536 + v2)*P + q*vr:=by rw[hv]; grind
 rw[Int.add_mul] at h3;omega
theorem AC5 (hq1:q<65536) (h:q*v2<=r*65536 + u2):q*v<U + v:=by
 have h1:q*(v1*65536 + v2)=(q*v1)*65536 + q*v2:=by grind
 have h2:q*(v1*65536 + v2)<=top*65536 + u2:=by omega
 have h3:=za9 h2 (ze3 hP);have h4:q*vr<=65535*P:=Int.le_trans (zb2 (ze3 hvr.2) hq0) (za9 (by omega) (ze3 hP));have h5:q*v=q*(v1*65536 + v2)*P + q*vr:=by rw[hv]; grind
 have h6 : 65536*P<=(v1*65536 + v2)*P:=za9 (by omega) (ze3 hP);omega
theorem Aa8 (hq1:q<65536) (h : 65536<=r):q*v<=U:=by
 have h1:q*(v1*65536 + v2)=(q*v1)*65536 + q*v2:=by grind
 have h7:q*v2<=q*65535:=zb2 (by omega) hq0;have h2:q*(v1*65536 + v2) + 65536<=top*65536 + u2:=by omega
 have h3:=za9 h2 (ze3 hP);have h4:q*vr<=65535*P:=Int.le_trans (zb2 (ze3 hvr.2) hq0) (za9 (by omega) (ze3 hP));have h5:q*v=q*(v1*65536 + v2)*P + q*vr:=by rw[hv]; grind
 rw[Int.add_mul] at h3;omega
end
theorem A14 {P' v1 vt top ut v U Q:Int} (hP : 0<P') (hv1 : 1<=v1) (hvt : 0<=vt) (hut:ut<P') (hv:v=v1*P' + vt) (hU:U=top*P' + ut) (hQ:Q*v<=U) (hQ0 : 0<=Q):Q<=top/v1:=by
 rw[Int.le_ediv_iff_mul_le (by omega)];by_cases h:Q*v1<=top
 ·exact h
 ·exfalso
  have h1:top + 1<=Q*v1:=by omega
  have h2:=za9 h1 (ze3 hP);have h3 : 0<=Q*vt:=ze9 hQ0 hvt;have h4:Q*v=Q*v1*P' + Q*vt:=by rw[hv]; grind
  rw[Int.add_mul] at h2;omega
end
section
open Go
theorem A5Y {x c:Int} (hx:x<65536) (hlo : -4294967296<=x) (hc:c=if x<0 then (-x + 65536-1)/65536 else 0) :
  0<=x + c*65536/\x + c*65536<65536/\0<=c/\c<=65536:=by
 subst hc
 split <;> omega
structure Off (u0 u:List Int) (j k:Nat) (c q:Int) (v:List Int):Prop where
 len:u.length=u0.length
 lb:LB u
 hi:∀ i,j + k<=i->dg u i=dg u0 i
 c0 : 0<=c
 c1:c<=65536
 v:val u-B (j + k)*c=val u0-B j*(q*val (v.take k))
theorem Off.start {u0:List Int} (h:LB u0) (j:Nat) (q:Int) (v:List Int):Off u0 u0 j 0 0 q v:=⟨rfl,h,fun _ _=>rfl,by omega,by omega,by simp[val]⟩
theorem Off.next {u0 u:List Int} {j k:Nat} {c q:Int} {v:List Int} (h:Off u0 u j k c q v) (hv:LB v) (hq : 0<=q/\q<65536) (hk:j + k<u.length) {c':Int} (hc:c'=if dg u (j + k)-q*dg v k-c<0 then (-(dg u (j + k)-q*dg v k-c) + 65536-1)/65536 else 0) :
  Off u0 (u.set (j + k) (dg u (j + k)-q*dg v k-c + c'*65536)) j (k + 1) c' q v:=by
 have du:=Bh h.lb (j + k);have dv:=Bh hv k;have m0 : 0<=q*dg v k:=ze9 hq.1 dv.1;have m1:q*dg v k<=65535*65535:=Int.le_trans (zb2 (show dg v k<=65535 by omega) hq.1) (za9 (show q<=65535 by omega) (by omega));have hc0:=h.c0;have hc1:=h.c1;obtain ⟨s1,s2,s3,s4⟩:=A5Y (x:=dg u (j + k)-q*dg v k-c) (by omega) (by omega) hc;refine ⟨by rw[List.length_set]; exact h.len,h.lb.set ⟨s1,s2⟩,fun i hi=>by rw[Cg (by omega)]; exact h.hi i (by omega),s3,s4,?_⟩
 rw[Gq (As hk),A9,show j + (k + 1)=j + k + 1 by omega];have hv2:=h.v;have e1:B (j + k + 1)*c'=B (j + k)*(c'*65536):=by simp only[B]; grind
 have e2:B j*(q*(val (v.take k) + B k*dg v k))=B j*(q*val (v.take k)) + B (j + k)*(q*dg v k):=by rw[UX]; grind
 have e3:B (j + k)*(dg u (j + k)-q*dg v k-c + c'*65536-dg u (j + k))=B (j + k)*(c'*65536)-B (j + k)*(q*dg v k)-B (j + k)*c:=by grind
 rw[e1,e2,e3];omega
theorem Br3 {u0 v out:List Int} {n by_ q:Int} {j:Nat} (hu:LB u0) (hv:LB v) (hq : 0<=q/\q<65536) (hn:n=(v.length:Int)) (hlen:j + v.length<u0.length) (hl:u0.length<=1000000) :
  ∃ u c,Ah (fun (s:((List Int)×((List Int)×((List Int)×(Int×(Int×(Int×(Int×(Int×(Int×Int))))))))))=>Fs s.1 s.2.1 s.2.2.1 s.2.2.2.1 s.2.2.2.2.1 s.2.2.2.2.2.1 s.2.2.2.2.2.2.1 s.2.2.2.2.2.2.2.1 s.2.2.2.2.2.2.2.2.1 s.2.2.2.2.2.2.2.2.2) (u0,(v,(out,(n,(by_,((j:Int),(q,(0,(n,0))))))))) =
   some (u,(v,(out,(n,(by_,((j:Int),(q,c)))))))/\Off u0 u j v.length c q v:=by
 subst hn;obtain ⟨⟨u,c⟩,h1,h2⟩:=CJ (body:=fun (s:((List Int)×((List Int)×((List Int)×(Int×(Int×(Int×(Int×(Int×(Int×Int))))))))))=>Fs s.1 s.2.1 s.2.2.1 s.2.2.2.1 s.2.2.2.2.1 s.2.2.2.2.2.1 s.2.2.2.2.2.2.1 s.2.2.2.2.2.2.2.1 s.2.2.2.2.2.2.2.2.1 s.2.2.2.2.2.2.2.2.2)
  (st:=fun k (b:List Int×Int)=>(b.1,(v,(out,((v.length:Int),(by_,((j:Int),(q,(b.2,((v.length:Int),(k:Int))))))))))) (fin:=fun b=>(b.1,(v,(out,((v.length:Int),(by_,((j:Int),(q,b.2)))))))) (I:=fun k b=>Off u0 b.1 j k b.2 q v) (e:=v.length)
  (by
   rintro k ⟨u,c⟩ hk hI;simp only at hI;have hul:=hI.len;have hp:j + k<u.length:=by omega
   have du:=Bh hI.lb (j + k);have dv:=Bh hv k;have c0:=hI.c0;have c1:=hI.c1;have m0 : 0<=q*dg v k:=ze9 hq.1 dv.1;have m1:q*dg v k<=65535*65535:=Int.le_trans (zb2 (show dg v k<=65535 by omega) hq.1) (za9 (show q<=65535 by omega) (by omega));refine ⟨(u.set (j + k) (dg u (j + k)-q*dg v k-c + (if dg u (j + k)-q*dg v k-c<0 then (-(dg u (j + k)-q*dg v k-c) + 65536-1)/65536 else 0)*65536),if dg u (j + k)-q*dg v k-c<0 then (-(dg u (j + k)-q*dg v k-c) + 65536-1)/65536 else 0),?_,hI.next hv hq hp rfl⟩
   unfold Fs AV
   dsimp only
   have i1:A2 ((j:Int) + (k:Int)) u.length=some (j + k):=by rw[show (j:Int) + (k:Int)=((j + k:Nat):Int) by omega]; exact A0 hp
   have hw1:=AM (show k<4611686018427387904 by omega);have hjk:=Aj (n:=(j:Int) + (k:Int)) (by omega) (by omega);rw[decide_eq_true (by omega),hjk];simp only[cond_true,i1,A0 hk,za0,As hp,As hk];rw[Aj (n:=q*dg v k) (by omega) (by omega),Aj (n:=dg u (j + k)-q*dg v k) (by omega) (by omega),Aj (n:=dg u (j + k)-q*dg v k-c) (by omega) (by omega)];have hxb : -4294967296<=dg u (j + k)-q*dg v k-c/\dg u (j + k)-q*dg v k-c<65536:=by omega
   generalize dg u (j + k)-q*dg v k-c=x at *
   by_cases hx:x<0
   ·rw[decide_eq_true hx,if_pos hx,Aj (n:=0-x) (by omega) (by omega),Aj (n:=0-x + 65536) (by omega) (by omega),Aj (n:=0-x + 65536-1) (by omega) (by omega),zc1 (by omega),show 0-x + 65536-1 = -x + 65536-1 by omega];rw[Aj (n:=(-x + 65536-1)/65536) (by omega) (by omega),Aj (n:=(-x + 65536-1)/65536*65536) (by omega) (by omega),Aj (n:=x + (-x + 65536-1)/65536*65536) (by omega) (by omega)];simp only[cond_true,za0,za8,hjk,i1,As hp,hw1]
   ·rw[decide_eq_false hx,if_neg hx];simp only[cond_false,za0,za8,hjk,i1,As hp,hw1,Int.zero_mul,Int.add_zero])
  (by
   rintro ⟨u,c⟩ _;unfold Fs
   dsimp only
   rw[decide_eq_false (Int.lt_irrefl _)];rfl) 0 (u0,0) (by omega) (Off.start hu j q v)
 exact ⟨u,c,h1,h2⟩
structure Back (u0 u:List Int) (j k:Nat) (c:Int) (v:List Int):Prop where
 len:u.length=u0.length
 lb:∀ i,i<j + v.length->0<=dg u i/\dg u i<65536
 hi:∀ i,j + k<=i->dg u i=dg u0 i
 c0 : 0<=c
 c1:c<65536
 v:val u + B (j + k)*c=val u0 + B j*val (v.take k)
theorem A3d {l:List Int} {k j:Nat} {x:Int} (hk:k<l.length):dg (l.set k x) j=if j=k then x else dg l j:=by
 split
 ·rename_i h; subst h; exact GF (by rw[List.getElem?_set_self hk])
 ·rename_i h; exact Cg (fun hh=>h hh.symm)
theorem Back.next {u0 u:List Int} {j k:Nat} {c:Int} {v:List Int} (h:Back u0 u j k c v) (hv:LB v) (hkv:k<v.length) (hk:j + k<u.length) :
  Back u0 (u.set (j + k) ((dg u (j + k) + dg v k + c)%65536)) j (k + 1) ((dg u (j + k) + dg v k + c)/65536) v:=by
 have du:=h.lb (j + k) (by omega);have dv:=Bh hv k;have c0:=h.c0;have c1:=h.c1;refine ⟨by rw[List.length_set]; exact h.len,fun i hi=>?_,fun i hi=>by rw[Cg (by omega)]; exact h.hi i (by omega),by omega,by omega,?_⟩
 ·rw[A3d hk]
  split
  ·omega
  ·exact h.lb i hi
 ·have:=A11 (out:=u) (p:=j + k) (o:=dg u (j + k)) (d:=(dg u (j + k) + dg v k + c)%65536) (c:=c) (c':=(dg u (j + k) + dg v k + c)/65536) (t:=dg v k) (V:=val u0 + B j*val (v.take k)) (As hk) (by omega) h.v;rw[show j + (k + 1)=j + k + 1 by omega,this,A9,ze1];have:B (j + k)*dg v k=B j*(B k*dg v k):=by rw[UX]; grind
  omega
theorem Bn6 {u0 v out:List Int} {n by_ q:Int} {j:Nat} (hu:∀ i,i<j + v.length->0<=dg u0 i/\dg u0 i<65536) (hv:LB v) (hn:n=(v.length:Int)) (hlen:j + v.length<u0.length) (hl:u0.length<=1000000) :
  ∃ u c,Ah (fun (s:((List Int)×((List Int)×((List Int)×(Int×(Int×(Int×(Int×(Int×(Int×Int))))))))))=>FI s.1 s.2.1 s.2.2.1 s.2.2.2.1 s.2.2.2.2.1 s.2.2.2.2.2.1 s.2.2.2.2.2.2.1 s.2.2.2.2.2.2.2.1 s.2.2.2.2.2.2.2.2.1 s.2.2.2.2.2.2.2.2.2) (u0,(v,(out,(n,(by_,((j:Int),(q,(0,(n,0))))))))) =
   some (u,(v,(out,(n,(by_,((j:Int),(q,c)))))))/\Back u0 u j v.length c v:=by
 subst hn;obtain ⟨⟨u,c⟩,h1,h2⟩:=CJ (body:=fun (s:((List Int)×((List Int)×((List Int)×(Int×(Int×(Int×(Int×(Int×(Int×Int))))))))))=>FI s.1 s.2.1 s.2.2.1 s.2.2.2.1 s.2.2.2.2.1 s.2.2.2.2.2.1 s.2.2.2.2.2.2.1 s.2.2.2.2.2.2.2.1 s.2.2.2.2.2.2.2.2.1 s.2.2.2.2.2.2.2.2.2)
  (st:=fun k (b:List Int×Int)=>(b.1,(v,(out,((v.length:Int),(by_,((j:Int),(q,(b.2,((v.length:Int),(k:Int))))))))))) (fin:=fun b=>(b.1,(v,(out,((v.length:Int),(by_,((j:Int),(q,b.2)))))))) (I:=fun k b=>Back u0 b.1 j k b.2 v) (e:=v.length)
  (by
   rintro k ⟨u,c⟩ hk hI;simp only at hI;have hul:=hI.len;have hp:j + k<u.length:=by omega
   have du:=hI.lb (j + k) (by omega);have dv:=Bh hv k;have c0:=hI.c0;have c1:=hI.c1;refine ⟨(u.set (j + k) ((dg u (j + k) + dg v k + c)%65536),(dg u (j + k) + dg v k + c)/65536),?_,hI.next hv hk hp⟩
   unfold FI AV
   dsimp only
   have i1:A2 ((j:Int) + (k:Int)) u.length=some (j + k):=by rw[show (j:Int) + (k:Int)=((j + k:Nat):Int) by omega]; exact A0 hp
   have hw1:=AM (show k<4611686018427387904 by omega);have hjk:=Aj (n:=(j:Int) + (k:Int)) (by omega) (by omega);rw[decide_eq_true (by omega),hjk];simp only[cond_true,i1,A0 hk,za0,As hp,As hk];rw[Aj (n:=dg u (j + k) + dg v k) (by omega) (by omega),Aj (n:=c + (dg u (j + k) + dg v k)) (by omega) (by omega),show c + (dg u (j + k) + dg v k)=dg u (j + k) + dg v k + c by omega,zc6 (by omega),zc1 (by omega),Aj (n:=(dg u (j + k) + dg v k + c)/65536) (by omega) (by omega),hw1])
  (by
   rintro ⟨u,c⟩ _;unfold FI
   dsimp only
   rw[decide_eq_false (Int.lt_irrefl _)];rfl) 0 (u0,0) (by omega) ⟨rfl,hu,fun _ _=>rfl,by simp only; omega,by simp only; omega,by simp[val]⟩
 exact ⟨u,c,h1,h2⟩
structure Guess (P v1 v2 vr top u2 ur V U Q:Int):Prop where
 hP : 0<P
 hv1 : 1<=v1
 hv1':v1<65536
 hv2 : 0<=v2/\v2<65536
 hvr : 0<=vr/\vr<P
 hu2 : 0<=u2/\u2<65536
 hur : 0<=ur/\ur<P
 hV:V=(v1*65536 + v2)*P + vr
 hU:U=(top*65536 + u2)*P + ur
 htop : 0<=top/\top<4294967296
 hQ:Q*V<=U
 hQ0 : 0<=Q
 hQ1:Q<65536
 hV0 : 0<V
theorem Bj4 {u v out:List Int} {n by_:Int} {j m:Nat} {P v1 v2 vr top u2 ur V U Q:Int} (G:Guess P v1 v2 vr top u2 ur V U Q) (hn:n=((m + 2:Nat):Int)) (hm:m<=1000000) (hj:j<=1000000)
  (hv:v.length=m + 2) (e1:dg v (m + 1)=v1) (e2:dg v m=v2) (hu:j + m<u.length) (e3:dg u (j + m)=u2) {q0 r0:Int} (h0:q0*v1 + r0=top) (hr0 : 0<=r0) (hq0:Q<=q0) (hq4:q0<4294967296) :
  ∃ q,Ah (fun (s:((List Int)×((List Int)×((List Int)×(Int×(Int×(Int×(Int×Int))))))))=>Dl s.1 s.2.1 s.2.2.1 s.2.2.2.1 s.2.2.2.2.1 s.2.2.2.2.2.1 s.2.2.2.2.2.2.1 s.2.2.2.2.2.2.2) (u,(v,(out,(n,(by_,((j:Int),(q0,r0)))))))=some (u,(v,(out,(n,(by_,((j:Int),q))))))/\Q<=q/\q<65536/\q*V<U + V:=by
 subst hn;obtain ⟨r,h1,q,rfl,h2⟩:=Hm (f:=fun (s:((List Int)×((List Int)×((List Int)×(Int×(Int×(Int×(Int×Int))))))))=>Dl s.1 s.2.1 s.2.2.1 s.2.2.2.1 s.2.2.2.2.1 s.2.2.2.2.2.1 s.2.2.2.2.2.2.1 s.2.2.2.2.2.2.2)
  (I:=fun s=>∃ q r:Int,s=(u,(v,(out,(((m + 2:Nat):Int),(by_,((j:Int),(q,r)))))))/\q*v1 + r=top/\0<=r/\Q<=q/\q<4294967296)
  (R:=fun s=>∃ q:Int,s=(u,(v,(out,(((m + 2:Nat):Int),(by_,((j:Int),q))))))/\Q<=q/\q<65536/\q*V<U + V) (fun s=>s.2.2.2.2.2.2.1.toNat) (by
   rintro s ⟨q,r,rfl,g1,g2,g3,g4⟩;simp only;have hQ0:=G.hQ0;have hQ1:=G.hQ1;have hv1:=G.hv1;have hv1':=G.hv1';have hv2:=G.hv2;have hu2:=G.hu2;have htop:=G.htop;have hqv : 0<=q*v1:=ze9 (by omega) (by omega);have hqv2 : 0<=q*v2:=ze9 (by omega) hv2.1;have hqv2':q*v2<=4294967296*65536:=Int.le_trans (zb2 (show v2<=65536 by omega) (by omega)) (za9 (show q<=4294967296 by omega) (by omega));have iv1:A2 (((m + 2:Nat):Int)-1) v.length=some (m + 1):=by rw[show ((m + 2:Nat):Int)-1=((m + 1:Nat):Int) by omega]; exact A0 (by omega)
   have iv2:A2 (((m + 2:Nat):Int)-2) v.length=some m:=by rw[show ((m + 2:Nat):Int)-2=((m:Nat):Int) by omega]; exact A0 (by omega)
   have iu:A2 ((j:Int) + ((m + 2:Nat):Int)-2) u.length=some (j + m):=by rw[show (j:Int) + ((m + 2:Nat):Int)-2=((j + m:Nat):Int) by omega]; exact A0 (by omega)
   have w1:=Aj (n:=((m + 2:Nat):Int)-1) (by omega) (by omega);have w2:=Aj (n:=((m + 2:Nat):Int)-2) (by omega) (by omega);have w3:=Aj (n:=(j:Int) + ((m + 2:Nat):Int)) (by omega) (by omega);have w4:=Aj (n:=(j:Int) + ((m + 2:Nat):Int)-2) (by omega) (by omega);have w5:=Aj (n:=q*v2) (by omega) (by omega);have w6:=Aj (n:=r*65536) (by omega) (by omega);have w7:=Aj (n:=r*65536 + u2) (by omega) (by omega);have w8:=Aj (n:=q-1) (by omega) (by omega);have w9:=Aj (n:=r + v1) (by omega) (by omega)
   have less:∀ (hgo:Q<=q-1),∃ q' r':Int,(u,(v,(out,(((m + 2:Nat):Int),(by_,((j:Int),(q-1,r + v1)))))))=(u,(v,(out,(((m + 2:Nat):Int),(by_,((j:Int),(q',r')))))))/\q'*v1 + r'=top/\0<=r'/\Q<=q'/\q'<4294967296:=by
    intro hgo;exact ⟨q-1,r + v1,rfl,by rw[Int.sub_mul]; omega,by omega,hgo,by omega⟩
   by_cases c1:q>=65536
   ·refine .inl ⟨(u,(v,(out,(((m + 2:Nat):Int),(by_,((j:Int),(q-1,r + v1))))))),?_,less (by omega),by simp only; omega⟩
    unfold Dl AV;rw[decide_eq_true c1];simp only[cond_true,za0,za8,w1,iv1,As (show m + 1<v.length by omega),e1,w8,w9]
   ·by_cases c2:r<65536
    ·by_cases c3:q*v2>r*65536 + u2
     ·have hlt:=Ap3 G.hP G.hv1 G.hv2 G.hvr G.hu2 G.hur G.hV G.hU g1 (by omega) c3;have hne:Q<=q-1:=by
       rcases Int.lt_or_le (q-1) Q with h | h
       ·have:q=Q:=by omega
        subst this;have:=G.hQ;omega
       ·exact h
      refine .inl ⟨(u,(v,(out,(((m + 2:Nat):Int),(by_,((j:Int),(q-1,r + v1))))))),?_,less hne,by simp only; omega⟩
      unfold Dl AV;rw[decide_eq_false c1,decide_eq_true c2];simp only[cond_true,cond_false,za0,w2,iv2,As (show m<v.length by omega),e2,w3,w4,iu,As hu,e3,w5,w6,w7,decide_eq_true c3,za8,w1,iv1,As (show m + 1<v.length by omega),e1,w8,w9]
     ·refine .inr ⟨_,?_,q,rfl,g3,by omega,AC5 G.hP G.hv1 G.hv2 G.hvr G.hu2 G.hur G.hV G.hU g1 (by omega) (by omega) (by omega)⟩
      unfold Dl AV;rw[decide_eq_false c1,decide_eq_true c2];simp only[cond_true,cond_false,za0,w2,iv2,As (show m<v.length by omega),e2,w3,w4,iu,As hu,e3,w5,w6,w7,decide_eq_false c3,Sum.elim_inl]
    ·have hle:=Aa8 G.hP G.hv1 G.hv2 G.hvr G.hu2 G.hur G.hV G.hU g1 (by omega) (by omega) (by omega);have hV0:=G.hV0;refine .inr ⟨_,?_,q,rfl,g3,by omega,by omega⟩
     unfold Dl AV;rw[decide_eq_false c1,decide_eq_false c2];rfl) (u,(v,(out,(((m + 2:Nat):Int),(by_,((j:Int),(q0,r0))))))) ⟨q0,r0,rfl,h0,hr0,hq0,hq4⟩
 exact ⟨q,h1,h2⟩
end
section
open Go
theorem TJ {j:Nat} {a b X Y:Int} (ha : 0<=a/\a<B j) (hb : 0<=b/\b<B j) (h:a + B j*X=b + B j*Y):X=Y:=by
 rcases Int.lt_trichotomy X Y with g | g | g
 ·exfalso
  have:=zb2 (show X + 1<=Y by omega) (ze3 (Hb j));rw[ze1] at this;omega
 ·exact g
 ·exfalso
  have:=zb2 (show Y + 1<=X by omega) (ze3 (Hb j));rw[ze1] at this;omega
theorem Z3 (l:List Int) (n k:Nat):dg (l.drop n) k=dg l (n + k):=by unfold dg; simp[zb7,zd3]
theorem CN (l:List Int) (k:Nat):val (l.drop k)=dg l k + 65536*val (l.drop (k + 1)):=by
 rcases ze0 k l.length with h | h
 ·rw[zb0 h,GF (za1 h)]; rfl
 ·rw[zd5 h,zd5 (by omega),Jw h]; simp[val]
theorem Am7 {l:List Int} (h:∀ i,i<l.length->0<=dg l i/\dg l i<65536):LB l:=fun x hx=>by
 obtain ⟨i,hi,rfl⟩:=List.getElem_of_mem hx;have:=h i hi
 rwa [GF (za1 hi)] at this
theorem Be7 {l:List Int} {k i:Nat} (h:i<k):dg (l.take k) i=dg l i:=by unfold dg; simp[zb7,zc0,h]
theorem A5C {l:List Int} {k:Nat} (h:∀ i,i<k->0<=dg l i/\dg l i<65536):LB (l.take k):=Am7 fun i hi=>by
 rw[List.length_take] at hi;rw[Be7 (by omega)];exact h i (by omega)
theorem Qp:∀ {l:List Int},(∀ i,dg l i=0)->val l=0
 | [],_=>rfl
 | x::l,h=>by
  have h0:=h 0;have h1:val l=0:=Qp fun i=>h (i + 1)
  simp only[val,h1];unfold dg at h0;simp at h0;omega
theorem CX {l:List Int} (h:LB l) (k:Nat) : 0<=val (l.take k)/\val (l.take k)<B k:=by
 refine ⟨AZ (h.take k),?_⟩
 have:=Q0 (h.take k);have:=Kt (show (l.take k).length<=k by rw[List.length_take]; omega);omega
theorem A4M {l:List Int} (h:LB l) {n k:Nat} (hv:val l<B n) (hk:n<=k):dg l k=0/\val (l.drop k)=0:=by
 have h1:=Ch l k;have h2:=AZ (h.take k);have h3:=AZ (h.drop k);have h4:=Kt hk;have h5:val (l.drop k)=0:=by
  rcases Int.lt_or_le 0 (val (l.drop k)) with g | g
  ·have:=zb2 (show 1<=val (l.drop k) by omega) (ze3 (Hb k));omega
  ·omega
 have h6:=CN l k;have h7:=Bh h k;have h8:=AZ (h.drop (k + 1));exact ⟨by omega,h5⟩
structure Place (u v:List Int) (j m:Nat):Prop where
 lu:LB u
 lv:LB v
 hv:v.length=m + 2
 top : 1<=dg v (m + 1)
 len:j + m + 2<u.length
 less:val (u.drop (j + 1))<val v
section
variable {u v:List Int} {j m:Nat} (H:Place u v j m)
include H
theorem Place.pos : 0<val v:=by
 have h1:=Ch v (m + 1);have h2:=AZ (H.lv.take (m + 1));have h3:=CN v (m + 1);have h4:=AZ (H.lv.drop (m + 1 + 1));have h5:=H.top;have h6:=zb2 (show 1<=val (v.drop (m + 1)) by omega) (ze3 (Hb (m + 1)));have h7:=Hb (m + 1);omega
theorem Place.lt:val v<B (m + 2):=by have:=Q0 H.lv; rwa [H.hv] at this
theorem Place.high {k:Nat} (hk:j + m + 3<=k):dg u k=0/\val (u.drop k)=0:=by
 have h1:=A4M (H.lu.drop (j + 1)) (n:=m + 2) (k:=k-(j + 1)) (by have:=H.less; have:=H.lt; omega) (by omega);rw[Z3,List.drop_drop,show j + 1 + (k-(j + 1))=k by omega] at h1;exact h1
theorem Place.rest : 0<=val (u.drop j)/\val (u.drop j)<65536*val v:=by
 refine ⟨AZ (H.lu.drop j),?_⟩
 have h1:=CN u j;have h2:=Bh H.lu j;have h3:=H.less;omega
theorem Place.quot : 0<=val (u.drop j)/val v/\val (u.drop j)/val v<65536:=by
 obtain ⟨h1,h2⟩:=H.rest;have h3:=H.pos;exact ⟨Int.ediv_nonneg h1 (by omega),Int.ediv_lt_of_lt_mul h3 h2⟩
theorem Place.mod : 0<=val (u.drop j)-val (u.drop j)/val v*val v/\val (u.drop j)-val (u.drop j)/val v*val v<val v:=by
 have h1:=Int.emod_add_mul_ediv (val (u.drop j)) (val v);have h2:=Int.emod_nonneg (val (u.drop j)) (show val v≠0 by have:=H.pos; omega);have h3:=Int.emod_lt_of_pos (val (u.drop j)) H.pos;rw[Int.mul_comm] at h1;omega
theorem Place.guess:Guess (B m) (dg v (m + 1)) (dg v m) (val (v.take m)) (dg u (j + m + 2)*65536 + dg u (j + m + 1)) (dg u (j + m)) (val ((u.drop j).take m)) (val v) (val (u.drop j)) (val (u.drop j)/val v):=by
 have d1:=Bh H.lu (j + m + 1);have d2:=Bh H.lu (j + m + 2);have hm:=H.mod;have hq:=H.quot;refine ⟨Hb m,H.top,(Bh H.lv _).2,Bh H.lv _,CX H.lv m,Bh H.lu _,CX (H.lu.drop j) m,?_,?_,by omega,by omega,hq.1,hq.2,H.pos⟩
 ·rw[Ch v m,CN v m,CN v (m + 1),zd5 (show v.length<=m + 1 + 1 by rw[H.hv]; omega)];simp only[val]
  grind
 ·rw[Ch (u.drop j) m,List.drop_drop,CN u (j + m),CN u (j + m + 1),CN u (j + m + 1 + 1),(H.high (k:=j + m + 1 + 1 + 1) (by omega)).2,show j + m + 1 + 1=j + m + 2 by omega]
  grind
theorem Place.after {u4:List Int} (hl:u4.length=u.length) (hg:∀ i,i<j + m + 2->0<=dg u4 i/\dg u4 i<65536) (hh:∀ i,j + m + 2<i->dg u4 i=dg u i) {x:Int} (hv:val u4=val u-B j*(x*val v)) :
  val (u4.drop j)=val (u.drop j)-x*val v/\∃ X,0<=X/\X<B (m + 2)/\val (u.drop j)-x*val v=X + B (m + 2)*dg u4 (j + m + 2):=by
 have e1:val (u4.drop j)=val (u.drop j)-x*val v:=by
  have h1:=Ch u4 j;have h2:=Ch u j;have h3:=CX H.lu j;have h4:LB (u4.take j):=A5C fun i hi=>hg i (by omega)
  have h5:=CX h4 j;rw[List.take_take,Nat.min_self] at h5;refine TJ (j:=j) h5 h3 ?_
  rw[Int.mul_sub];omega
 refine ⟨e1,val ((u4.drop j).take (m + 2)),?_⟩
 have h4:LB ((u4.drop j).take (m + 2)):=A5C fun i hi=>by rw[Z3]; exact hg _ (by omega)
 have h5:=CX h4 (m + 2);rw[List.take_take,Nat.min_self] at h5;refine ⟨h5.1,h5.2,?_⟩
 rw[<-e1,Ch (u4.drop j) (m + 2),List.drop_drop,CN u4 (j + (m + 2)),Qp (l:=u4.drop (j + (m + 2) + 1)) fun i=>by rw[Z3,hh _ (by omega)]; exact (H.high (by omega)).1];rw[show j + (m + 2)=j + m + 2 by omega,Int.mul_zero,Int.add_zero]
theorem Place.done {u4:List Int} (hl:u4.length=u.length) (hg:∀ i,i<j + m + 2->0<=dg u4 i/\dg u4 i<65536) (hh:∀ i,j + m + 2<i->dg u4 i=dg u i) {x:Int} (hv:val u4=val u-B j*(x*val v))
  (hx : 0<=val (u.drop j)-x*val v/\val (u.drop j)-x*val v<val v):dg u4 (j + m + 2)=0/\LB u4/\val (u4.drop j)<val v:=by
 obtain ⟨h1,X,h2,h3,h4⟩:=H.after hl hg hh hv;have h0:dg u4 (j + m + 2)=0:=by
  have:=H.lt;exact (TJ (j:=m + 2) (a:=val (u.drop j)-x*val v) (b:=X) (X:=0) (by omega) (by omega) (by rw[h4]; simp)).symm
 refine ⟨h0,Am7 fun i hi=>?_,by omega⟩
 rcases Nat.lt_trichotomy i (j + m + 2) with g | g | g
 ·exact hg i g
 ·rw[g,h0]; omega
 ·rw[hh i g]; exact Bh H.lu i
theorem Place.one {q:Int} (h1:val (u.drop j)/val v<=q) (h2:q*val v<val (u.drop j) + val v):q=val (u.drop j)/val v\/q=val (u.drop j)/val v + 1:=by
 have hm:=H.mod;have hp:=H.pos;rcases Int.lt_or_le (val (u.drop j)/val v + 1) q with g | g
 ·exfalso
  have:=za9 (show val (u.drop j)/val v + 2<=q by omega) (ze3 hp);rw[Int.add_mul] at this;omega
 ·omega
end
end
section
open Go
theorem Place.start {u v:List Int} {j m:Nat} (H:Place u v j m):val (u.drop j)/val v<=(dg u (j + m + 2)*65536 + dg u (j + m + 1))/dg v (m + 1):=by
 have G:=H.guess;have hu2:=G.hu2;have hur:=G.hur;have hP:=G.hP;have hv2:=G.hv2;have hvr:=G.hvr;have h1:dg u (j + m)*B m<=65535*B m:=za9 (by omega) (by omega);have h2 : 0<=dg v m*B m:=ze9 hv2.1 (by omega);exact A14 (P':=65536*B m) (vt:=dg v m*B m + val (v.take m)) (ut:=dg u (j + m)*B m + val ((u.drop j).take m)) (v:=val v) (U:=val (u.drop j)) (by omega) G.hv1 (by omega) (by omega) (by rw[G.hV]; grind) (by rw[G.hU]; grind) G.hQ G.hQ0
set_option maxHeartbeats 1000000 in
theorem Bd0 {u v out:List Int} {by_:Int} {j m:Nat} (H:Place u v j m) (hl:u.length<=1000000) (hj:j<out.length) :
  ∃ u',Df u v out ((m + 2:Nat):Int) by_ (j:Int)=some (.inl (u',(v,(out.set j (val (u.drop j)/val v),(((m + 2:Nat):Int),(by_,(j:Int)-1)))))) /\
   u'.length=u.length/\LB u'/\val u'=val u-B j*(val (u.drop j)/val v*val v)/\val (u'.drop j)<val v:=by
 have hlen:=H.len;have hvl:=H.hv;have d1:=Bh H.lu (j + m + 1);have d2:=Bh H.lu (j + m + 2);have dv:=Bh H.lv (m + 1);have htop:=H.top;have G:=H.guess;have hQ:=H.quot;have hmod:=H.mod;have hst:=H.start;have hk:∀ l:List Int,l.length=u.length->A2 (IntKind.wrap .i64 ((j:Int) + ((m + 2:Nat):Int))) l.length=some (j + m + 2):=fun l h=>by
  rw[h,Aj (by omega) (by omega),show (j:Int) + ((m + 2:Nat):Int)=((j + m + 2:Nat):Int) by omega];exact A0 (by omega)
 have hk1:A2 (IntKind.wrap .i64 (IntKind.wrap .i64 ((j:Int) + ((m + 2:Nat):Int))-1)) u.length=some (j + m + 1):=by
  rw[Aj (n:=(j:Int) + ((m + 2:Nat):Int)) (by omega) (by omega),Aj (by omega) (by omega),show (j:Int) + ((m + 2:Nat):Int)-1=((j + m + 1:Nat):Int) by omega];exact A0 (by omega)
 have hk2:A2 (IntKind.wrap .i64 (((m + 2:Nat):Int)-1)) v.length=some (m + 1):=by
  rw[Aj (by omega) (by omega),show ((m + 2:Nat):Int)-1=((m + 1:Nat):Int) by omega];exact A0 (by omega)
 have hj0:∀ l:List Int,l.length=out.length->A2 (j:Int) l.length=some j:=fun l h=>by rw[h]; exact A0 hj
 have hge:decide ((j:Int)>=0)=true:=decide_eq_true (by omega);have hz:(dg v (m + 1)==0)=false:=beq_eq_false_iff_ne.2 (by omega);have w1:=Aj (n:=dg u (j + m + 2)*65536) (by omega) (by omega);have w2:=Aj (n:=dg u (j + m + 2)*65536 + dg u (j + m + 1)) (by omega) (by omega);have htop0 : 0<=dg u (j + m + 2)*65536 + dg u (j + m + 1):=by omega
 have e1:=Int.emod_add_mul_ediv (dg u (j + m + 2)*65536 + dg u (j + m + 1)) (dg v (m + 1));have e2:=Int.emod_nonneg (dg u (j + m + 2)*65536 + dg u (j + m + 1)) (show dg v (m + 1)≠0 by omega);have e3:(dg u (j + m + 2)*65536 + dg u (j + m + 1))/dg v (m + 1)<=dg u (j + m + 2)*65536 + dg u (j + m + 1):=Int.ediv_le_self _ htop0;have w3:=Aj (n:=(dg u (j + m + 2)*65536 + dg u (j + m + 1))/dg v (m + 1)) (by omega) (by omega)
 obtain ⟨q,hg1,hg2,hg3,hg4⟩:=Bj4 (out:=out) (by_:=by_) (u:=u) (v:=v) (j:=j) (m:=m) G rfl (by omega) (by omega) hvl rfl rfl (by omega) rfl (q0:=(dg u (j + m + 2)*65536 + dg u (j + m + 1))/dg v (m + 1)) (r0:=(dg u (j + m + 2)*65536 + dg u (j + m + 1))%dg v (m + 1)) (by rw[Int.mul_comm]; omega) e2 hst (by omega);obtain ⟨u1,c,ht1,O⟩:=Br3 (out:=out) (by_:=by_) (n:=((m + 2:Nat):Int)) (j:=j) H.lu H.lv (q:=q) ⟨by omega,hg3⟩ (by rw[hvl]) (by omega) hl;have ol:=O.len;have oc0:=O.c0;have oc1:=O.c1;have ohi:dg u1 (j + m + 2)=dg u (j + m + 2):=O.hi _ (by omega);have ov:=O.v
 rw[zc4 (za7 _),hvl,show j + (m + 2)=j + m + 2 by omega] at ov;have gu1:AV u1 (j + m + 2)=some (dg u (j + m + 2)):=by unfold AV; rw[As (by omega),ohi]
 have w4:=Aj (n:=dg u (j + m + 2)-c) (by omega) (by omega);have w5:=Aj (n:=(j:Int)-1) (by omega) (by omega);have hset:val (u1.set (j + m + 2) (dg u (j + m + 2)-c))=val u-B j*(q*val v):=by
  rw[Gq (As (show j + m + 2<u1.length by omega)),ohi,show dg u (j + m + 2)-c-dg u (j + m + 2) = -c by omega,Int.mul_neg];omega
 have hsl:(u1.set (j + m + 2) (dg u (j + m + 2)-c)).length=u.length:=by rw[List.length_set]; exact ol
 have hsg:∀ i,i<j + m + 2->0<=dg (u1.set (j + m + 2) (dg u (j + m + 2)-c)) i/\dg (u1.set (j + m + 2) (dg u (j + m + 2)-c)) i<65536:=fun i hi=>by rw[Cg (by omega)]; exact Bh O.lb i
 have hsh:∀ i,j + m + 2<i->dg (u1.set (j + m + 2) (dg u (j + m + 2)-c)) i=dg u i:=fun i hi=>by rw[Cg (by omega)]; exact O.hi i (by omega)
 have hsd:dg (u1.set (j + m + 2) (dg u (j + m + 2)-c)) (j + m + 2)=dg u (j + m + 2)-c:=by rw[A3d (by omega),if_pos rfl]
 have gs:AV (u1.set (j + m + 2) (dg u (j + m + 2)-c)) (j + m + 2)=some (dg u (j + m + 2)-c):=by unfold AV; rw[As (by omega),hsd]
 have gout:AV out j=some (dg out j):=As hj;have gu0:AV u (j + m + 2)=some (dg u (j + m + 2)):=As (by omega);have gu00:AV u (j + m + 1)=some (dg u (j + m + 1)):=As (by omega);have gv0:AV v (m + 1)=some (dg v (m + 1)):=As (by omega);rcases H.one hg2 hg4 with hq | hq
 ·obtain ⟨f1,f2,f3⟩:=H.done hsl hsg hsh hset (by rw[hq]; exact hmod);rw[hsd] at f1;rw[f1] at hset hsl hsg hsh hsd gs w4 f2 f3;refine ⟨_,?_,hsl,f2,by rw[hset,hq],f3⟩
  unfold Df;rw[hge];simp only[cond_true,cond_false,za0,hk u rfl,gu0,hk1,gu00,hk2,gv0,hz,w1,w2,zc1 htop0,zc6 htop0,w3];rw[hg1];simp only[za0];rw[ht1];simp only[za0,hk u1 ol,gu1,f1,w4,hk _ hsl,gs,show decide ((0:Int)<0)=false from rfl,cond_false,hj0 out rfl,gout,w5,hq]
 ·obtain ⟨f1,X,f2,f3,f4⟩:=H.after hsl hsg hsh hset;rw[hsd] at f4;have hneg:dg u (j + m + 2)-c = -1:=by
   have hlt:=H.lt;have hqv:q*val v=val (u.drop j)/val v*val v + val v:=by rw[hq,Int.add_mul,Int.one_mul]
   have:=TJ (j:=m + 2) (a:=val (u.drop j)-q*val v + B (m + 2)) (b:=X) (X:=-1) (Y:=dg u (j + m + 2)-c) (by omega) (by omega) (by rw[f4,Int.mul_neg,Int.mul_one]; omega);exact this.symm
  rw[hneg] at hset hsl hsg hsh hsd gs w4;obtain ⟨u3,c3,hb1,K⟩:=Bn6 (out:=out) (by_:=by_) (n:=((m + 2:Nat):Int)) (q:=val (u.drop j)/val v) (u0:=u1.set (j + m + 2) (-1)) (v:=v) (j:=j) (by rw[hvl]; exact hsg) H.lv (by rw[hvl]) (by omega) (by omega);have kl:u3.length=u.length:=K.len.trans hsl;have kc0:=K.c0;have kc1:=K.c1;have khi:dg u3 (j + m + 2) = -1:=by rw[K.hi _ (by omega),hsd]
  have kv:=K.v;rw[zc4 (za7 _),hvl,show j + (m + 2)=j + m + 2 by omega,hset] at kv;have hset':val (u3.set (j + m + 2) (-1 + c3))=val u-B j*(val (u.drop j)/val v*val v):=by
   rw[Gq (As (show j + m + 2<u3.length by omega)),khi,show -1 + c3 - -1=c3 by omega];have:B j*(q*val v)=B j*(val (u.drop j)/val v*val v) + B j*val v:=by rw[hq,Int.add_mul,Int.one_mul,ze1]
   omega
  obtain ⟨f1,f2,f3⟩:=H.done (u4:=u3.set (j + m + 2) (-1 + c3)) (by rw[List.length_set]; exact kl) (fun i hi=>by rw[Cg (by omega)]; exact K.lb i (by omega)) (fun i hi=>by rw[Cg (by omega),K.hi i (by omega)]; exact hsh i hi) hset' hmod;refine ⟨_,?_,by rw[List.length_set]; exact kl,f2,hset',f3⟩
  have gu3:AV u3 (j + m + 2)=some (-1):=by unfold AV; rw[As (by omega),khi]
  have w6:=Aj (n:=-1 + c3) (by omega) (by omega);have w7:IntKind.wrap .i64 (q-1)=val (u.drop j)/val v:=by rw[Aj (by omega) (by omega)]; omega
  unfold Df;rw[hge];simp only[cond_true,cond_false,za0,hk u rfl,gu0,hk1,gu00,hk2,gv0,hz,w1,w2,zc1 htop0,zc6 htop0,w3];rw[hg1];simp only[za0];rw[ht1];simp only[za0,hk u1 ol,gu1,hneg,w4,hk _ hsl,gs,show decide ((-1:Int)<0)=true from rfl,cond_true,w7];rw[hb1];simp only[za0,hk u3 kl,gu3,hj0 out rfl,gout,w5,w6]
end
section
open Go
structure Places (u0 v:List Int) (m n:Nat) (u out:List Int):Prop where
 len:u.length=u0.length
 lu:LB u
 le:n + (m + 2)<=u0.length
 less:val (u.drop n)<val v
 lo:LB out
 olen:out.length + (m + 2)=u0.length
 zero:∀ i,i<n->dg out i=0
 v:val u + val v*val out=val u0
theorem Places.place {u0 v u out:List Int} {m n:Nat} (h:Places u0 v m (n + 1) u out) (hv:LB v) (hvl:v.length=m + 2) (ht : 1<=dg v (m + 1)):Place u v n m :=
 ⟨h.lu,hv,hvl,ht,by have:=h.le; have:=h.len; omega,h.less⟩
theorem Places.next {u0 v u out u':List Int} {m n:Nat} (h:Places u0 v m (n + 1) u out) (H:Place u v n m) (h1:u'.length=u.length) (h2:LB u') (h3:val u'=val u-B n*(val (u.drop n)/val v*val v)) (h4:val (u'.drop n)<val v) :
  Places u0 v m n u' (out.set n (val (u.drop n)/val v)):=by
 have hle:=h.le;have hol:=h.olen;refine ⟨h1.trans h.len,h2,by omega,h4,h.lo.set H.quot,by rw[List.length_set]; exact hol,fun i hi=>by rw[Cg (by omega)]; exact h.zero i (by omega),?_⟩
 have hz:=h.zero n (by omega);rw[Gq (As (show n<out.length by omega)),hz,h3,Int.sub_zero,ze1];have:=h.v;have e:val v*(B n*(val (u.drop n)/val v))=B n*(val (u.drop n)/val v*val v):=by grind
 omega
theorem A7W {u0 v:List Int} {m:Nat} {by_:Int} (hv:LB v) (hvl:v.length=m + 2) (ht : 1<=dg v (m + 1)) (hl:u0.length<=1000000) {n:Nat} {out:List Int} (h:Places u0 v m n u0 out) :
  ∃ u out',Ah (fun (s:((List Int)×((List Int)×((List Int)×(Int×(Int×Int))))))=>Df s.1 s.2.1 s.2.2.1 s.2.2.2.1 s.2.2.2.2.1 s.2.2.2.2.2) (u0,(v,(out,(((m + 2:Nat):Int),(by_,(n:Int)-1)))))=some (u,(out',(((m + 2:Nat):Int),by_)))/\Places u0 v m 0 u out':=by
 obtain ⟨⟨u,out'⟩,h1,h2⟩:=MR (body:=fun (s:((List Int)×((List Int)×((List Int)×(Int×(Int×Int))))))=>Df s.1 s.2.1 s.2.2.1 s.2.2.2.1 s.2.2.2.2.1 s.2.2.2.2.2)
  (st:=fun n (b:List Int×List Int)=>(b.1,(v,(b.2,(((m + 2:Nat):Int),(by_,(n:Int)-1)))))) (fin:=fun b=>(b.1,(b.2,(((m + 2:Nat):Int),by_)))) (I:=fun n b=>Places u0 v m n b.1 b.2)
  (by
   rintro n ⟨u,out⟩ hI;simp only at hI;have H:=hI.place hv hvl ht;have hle:=hI.le;have hol:=hI.olen;have hul:=hI.len;obtain ⟨u',g1,g2,g3,g4,g5⟩:=Bd0 (out:=out) (by_:=by_) H (by omega) (by omega);refine ⟨(u',out.set n (val (u.drop n)/val v)),?_,hI.next H g2 g3 g4 g5⟩
   simp only;rw[show ((n + 1:Nat):Int)-1=(n:Int) by omega,g1])
  (by
   rintro ⟨u,out⟩ _;unfold Df
   dsimp only
   rw[decide_eq_false (by omega)];rfl) n (u0,out) h
 exact ⟨u,out',h1,h2⟩
theorem Places.start {u0 v:List Int} {m n:Nat} (hu:LB u0) (hv:LB v) (hvl:v.length=m + 2) (ht : 1<=dg v (m + 1)) (hn:u0.length=n + (m + 2)) (h0:dg u0 (n + (m + 1))=0):Places u0 v m n u0 (List.replicate n 0):=by
 refine ⟨rfl,hu,by omega,?_,LB.zeros n,by simp; omega,fun i hi=>by unfold dg; rw[zb7,List.getElem?_replicate]; split <;> rfl,by rw[FT]; omega⟩
 have h1:=Ch (u0.drop n) (m + 1);have h2:=CX (hu.drop n) (m + 1);rw[List.drop_drop,CN u0 (n + (m + 1)),h0,zd5 (show u0.length<=n + (m + 1) + 1 by omega)] at h1;simp only[val] at h1;have h3:=Ch v (m + 1);have h4:=AZ (hv.take (m + 1));have h5:=CN v (m + 1);have h6:=AZ (hv.drop (m + 1 + 1));have h7:=zb2 (show 1<=val (v.drop (m + 1)) by omega) (ze3 (Hb (m + 1)));omega
theorem Places.end {u0 v u out:List Int} {m:Nat} (h:Places u0 v m 0 u out) (hv:LB v):val out=val u0/val v/\val u=val u0%val v:=by
 have h1:=h.less;rw[ze8] at h1;exact Xf (by rw[Int.mul_comm]; have:=h.v; omega) (AZ h.lu) h1
theorem Z7 {n:Nat} (h:n≠0) : 1<=dg (lim n) ((lim n).length-1)/\dg (lim n) ((lim n).length-1)<65536/\B ((lim n).length-1)*dg (lim n) ((lim n).length-1)<=n/\(n:Int)<B ((lim n).length-1)*(dg (lim n) ((lim n).length-1) + 1):=by
 have hne:(lim n).length≠0:=fun hh=>h (J0.1 (zb4 hh))
 have h1:=Ch (lim n) ((lim n).length-1);have h2:=CX (AO n) ((lim n).length-1);rw[CN,zd5 (show (lim n).length<=(lim n).length-1 + 1 by omega),AE] at h1;simp only[val,Int.mul_zero,Int.add_zero] at h1;have h3:=Bh (AO n) ((lim n).length-1);refine ⟨?_,h3.2,by omega,by rw[ze1]; omega⟩
 rcases Int.lt_or_le 0 (dg (lim n) ((lim n).length-1)) with g | g
 ·omega
 ·exfalso
  have g0:dg (lim n) ((lim n).length-1)=0:=by omega
  refine Wu n _ (List.getLast?_eq_getElem? .. ▸ As (show (lim n).length-1<(lim n).length by omega)) g0
end
section
open Go
theorem OC {l:List Int} {n:Int} {i:Nat} (hn:n=(i:Int)) (h:i<l.length):AP l n=some (dg l i):=by rw[hn,An]; exact As h
theorem AH9 {n m:Int} {a b k:Nat} (hn:n=(a:Int)) (hm:m=(b:Int)) (h1:a<=b) (h2:b<=k):JL n m k=some (a,b):=by
 subst hn hm; unfold JL; simp[h1,h2]
theorem A5a {b:Nat} (h:(lim b).length=1):(lim b) = [(b:Int)]/\b<65536/\b≠0:=by
 match hl:lim b with
 | []=>rw[hl] at h; simp at h
 | [x] =>
  have hv:=AE b;have hb:=AO b;rw[hl] at hv hb;have h0:=hb.head;simp only[val] at hv;have:b≠0:=fun h0=>by rw[h0,Cp] at hl; simp at hl
  exact ⟨by congr 1; omega,by omega,this⟩
 | x::y::l=>rw[hl] at h; simp at h
theorem Ao7 {a b c:Nat} (hc : 0<c):a*c/(b*c)=a/b/\a*c%(b*c)=a%b*c:=⟨Nat.mul_div_mul_right _ _ hc,Nat.mul_mod_mul_right _ _ _⟩
theorem Bt0 {t by_:Int} (h1 : 1<=t) (h2:t<65536) (hb:by_=65536/(t + 1)) : 1<=by_/\by_<=32768/\by_*(t + 1)<=65536:=by
 have e1:=Int.emod_add_mul_ediv 65536 (t + 1);have e2:=Int.emod_nonneg 65536 (show t + 1≠0 by omega);have e3:=Int.emod_lt_of_pos 65536 (show 0<t + 1 by omega);rw[<-hb] at e1;have e4 : 1<=by_:=by
  rw[hb];exact (Int.le_ediv_iff_mul_le (by omega)).2 (by omega)
 have e5:by_*2<=by_*(t + 1):=zb2 (by omega) (by omega);rw[Int.mul_comm] at e1;exact ⟨e4,by omega,by omega⟩
set_option maxHeartbeats 1000000 in
theorem Ai0 {a b:Nat} (hb0:b≠0) (ha:(lim a).length<=90000) (hb:(lim b).length<=90000):F1 (lim a) (lim b)=some (lim (a/b),lim (a%b)):=by
 unfold F1;rw[HJ (by unfold AH; omega) (by unfold AH; omega)];simp only[za0];by_cases hab:a<b
 ·rw[Ep (by omega)];simp only[show decide ((-1:Int)<0)=true from rfl,cond_true];rw[Nat.div_eq_of_lt hab,Nat.mod_eq_of_lt hab,Cp]
 have hc:decide (C3 (a:Int) b<0)=false:=by
  rcases Cf (a:Int) b with ⟨h,g⟩ | ⟨h,_⟩ | ⟨h,_⟩
  ·omega
  ·rw[h]; rfl
  ·rw[h]; rfl
 simp only[hc,cond_false];have hbl:(lim b).length≠0:=fun h=>hb0 (J0.1 (zb4 h))
 by_cases h1:(lim b).length=1
 ·obtain ⟨e1,e2,e3⟩:=A5a h1;rw[e1];simp only[List.length_singleton,show (((1:Nat):Int)==1)=true from rfl,cond_true];rw[show AP [(b:Int)] 0=some (b:Int) from rfl];simp only[za0];rw[As5 (by omega) (by omega)];simp only[za0,zc5];rw[AB5 (by unfold AH; simp)];have hm:=Nat.mod_lt a (show b>0 by omega);simp only[za0,Cz (LB.cons (show (0:Int)<=((a%b:Nat):Int)/\((a%b:Nat):Int)<65536 by omega) LB.nil),val]
  congr 3
 have hn1:((((lim b).length:Nat):Int)==1)=false:=beq_eq_false_iff_ne.2 (by omega);obtain ⟨m,hm⟩:∃ m,(lim b).length=m + 2:=⟨(lim b).length-2,by omega⟩;obtain ⟨t1,t2,t3,t4⟩:=Z7 hb0;rw[hm,show m + 2-1=m + 1 by omega] at t1 t2 t3 t4;have hg:=OC (l:=lim b) (n:=IntKind.wrap .i64 (((lim b).length:Int)-1)) (i:=m + 1) (by rw[Aj (by omega) (by omega)]; omega) (by omega);generalize ht:dg (lim b) (m + 1)=t at *
 have wt:IntKind.wrap .i64 (t + 1)=t + 1:=Aj (by omega) (by omega);have hz:(t + 1==0)=false:=beq_eq_false_iff_ne.2 (by omega);obtain ⟨s1,s2,s3⟩:=Bt0 t1 t2 rfl;have hby:IntKind.wrap .i64 (Int.tdiv 65536 (t + 1))=65536/(t + 1):=by rw[zc1 (by omega)]; exact Aj (by omega) (by omega)
 generalize hby2 : 65536/(t + 1)=by_ at *
 obtain ⟨c,rfl⟩:∃ c:Nat,by_=(c:Int):=⟨by_.toNat,by omega⟩;have hb40:(lim a).length<=90000:=ha;have hBa:(a:Int)<B (lim a).length:=Ax.1 (za7 _);have hBb:(b:Int)<B (lim b).length:=Ax.1 (za7 _);have hB1:B 1=65536:=rfl;have fitc:∀ k,1<=k->(((c:Int)).natAbs:Int)<B k:=fun k hk=>by
  have:=Kt hk;omega
 have hk1 : 1<=(lim a).length:=by
  rcases Nat.eq_zero_or_pos (lim a).length with h | h
  ·have:=J0.1 (zb4 h); omega
  ·exact h
 obtain ⟨ra,hra,era⟩:=D9 (x:=(a:Int)) (y:=(c:Int)) (k:=(lim a).length) (by omega) (by rw[Int.natAbs_natCast]; exact hBa) (fitc _ hk1);obtain ⟨rb,hrb,erb⟩:=D9 (x:=(b:Int)) (y:=(c:Int)) (k:=(lim b).length) (by omega) (by rw[Int.natAbs_natCast]; exact hBb) (fitc _ (by omega));have bn:∀ n:Nat,big (n:Int)=(false,lim n):=fun n=>by unfold big; rw[decide_eq_false (by omega),Int.natAbs_natCast]
 have ra1:ra.1=lim (a*c):=by rw[show (a:Int)*c=((a*c:Nat):Int) by simp,bn] at era; exact (Prod.ext_iff.1 era).2
 have rb1:rb.1=lim (b*c):=by rw[show (b:Int)*c=((b*c:Nat):Int) by simp,bn] at erb; exact (Prod.ext_iff.1 erb).2
 rw[bn,bn] at hra hrb;have mkb:∀ n:Nat,(lim n).length<=90000->Bj false (lim n)=some (lim n,false):=fun n hn=>by
  rw[IU (AO n) (by unfold AH; omega),AE]; simp
 simp only[hn1,cond_false,hg,za0,wt,hz,hby,mkb a ha,mkb b hb,Z4 (n:=(c:Int)) (by omega) (by omega),bn,hra,hrb,ra1,rb1];have hc0 : 0<c:=by omega
 have la:(lim a).length<=(lim (a*c)).length:=by
  rw[Ax];have h1:((a*c:Nat):Int)<B (lim (a*c)).length:=Ax.1 (za7 _);have:a*1<=a*c:=Nat.mul_le_mul_left _ (by omega);omega
 have la2:(lim (a*c)).length<=(lim a).length + 1:=by
  rw[Ax];rw[show ((a*c:Nat):Int)=(a:Int)*c by simp];have e1:(a:Int)*c<=a*65536:=zb2 (by omega) (by omega);simp only[B];omega
 have lb:(lim (b*c)).length=m + 2:=by
  apply Nat.le_antisymm
  ·rw[Ax];rw[show ((b*c:Nat):Int)=(b:Int)*c by simp];have e1:(b:Int)*c<B (m + 1)*(t + 1)*c:=Int.mul_lt_mul_of_pos_right t4 (by omega);have e2:B (m + 1)*((c:Int)*(t + 1))<=B (m + 1)*65536:=zb2 s3 (ze3 (Hb _));have e3:B (m + 1)*(t + 1)*c=B (m + 1)*((c:Int)*(t + 1)):=by rw[Int.mul_assoc,Int.mul_comm (t + 1)]
   have e4:B (m + 2)=B (m + 1)*65536:=by simp only[B]; omega
   omega
  ·rw[<-hm,Ax];have h1:((b*c:Nat):Int)<B (lim (b*c)).length:=Ax.1 (za7 _);have:b*1<=b*c:=Nat.mul_le_mul_left _ (by omega);omega
 have happ:Ct 8 1 (lim (a*c)) [0]=some (lim (a*c) ++ [0]):=A1y (by omega);have hle:(lim b).length<=(lim a).length:=by
  rw[Ax]; omega
 simp only[happ,za0];rw[Aq (r:=(lim (a*c) ++ [0],(lim (b*c),(((lim b).length:Int),(c:Int))))) (by
  unfold QO
  dsimp only
  rw[Aj (by omega) (by omega),decide_eq_false (by simp; omega)];rfl)]
 simp only[za0];have hlu:(lim (a*c) ++ [(0:Int)]).length=((lim (a*c)).length-(m + 1)) + (m + 2):=by simp; omega
 have wl:IntKind.wrap .i64 (((lim (a*c) ++ [(0:Int)]).length:Int)-((lim b).length:Int))=(((lim (a*c)).length-(m + 1):Nat):Int):=by
  rw[Aj (by omega) (by omega)]; omega
 generalize hn:(lim (a*c)).length-(m + 1)=n at *
 rw[wl,Jn (by unfold Ag; omega) (by unfold Ag; omega)];simp only[za0];have hval0:val (lim (a*c) ++ [(0:Int)])=((a*c:Nat):Int):=by rw[ML,AE]; omega
 have hlb0:LB (lim (a*c) ++ [(0:Int)]):=(AO _).append (LB.cons (by omega) LB.nil);have hbc0:b*c≠0:=Nat.mul_ne_zero hb0 (by omega);have htop:=(Z7 hbc0).1;rw[lb,show m + 2-1=m + 1 by omega] at htop;obtain ⟨u,out,hp,P⟩:=A7W (by_:=(c:Int)) (AO (b*c)) lb htop (by omega) (Places.start hlb0 (AO _) lb htop hlu (by
  unfold dg;rw[zb7,List.getElem?_append_right (by omega),show n + (m + 1)-(lim (a*c)).length=0 by omega];rfl))
 rw[show ((lim b).length:Int)=((m + 2:Nat):Int) by omega,Aj (by omega) (by omega),hp];simp only[za0];obtain ⟨p1,p2⟩:=P.end (AO _);rw[hval0,AE] at p1 p2;obtain ⟨q1,q2⟩:=Ao7 (a:=a) (b:=b) hc0;have p1':val out=((a/b:Nat):Int):=by rw[p1,<-q1]; simp
 have p2':val u=((a%b*c:Nat):Int):=by rw[p2,<-q2]; simp
 have hul:=P.len;have hol:=P.olen;rw[AH9 (a:=0) (b:=m + 2) (by rfl) rfl (by omega) (by omega)];simp only[za0,ze8,Nat.sub_zero,ze4];have hless:=P.less;rw[ze8,AE] at hless;have hbc:((b*c:Nat):Int)<B (m + 2):=by rw[<-lb]; exact Ax.1 (za7 _)
 have hvt:val (u.take (m + 2))=val u:=by
  have h1:=Ch u (m + 2);have h2:=(A4M P.lu (n:=m + 2) (k:=m + 2) (by omega) (za7 _)).2;rw[h2] at h1;omega
 rw[AB5 (by unfold AH; rw[List.length_take]; omega)];simp only[za0];rw[Cz (P.lu.take _),hvt,p2',zc5,As5 (by omega) (by
  have:(lim (a%b*c)).length<=m + 2:=by
   rw[Ax];have:=Nat.mul_lt_mul_of_pos_right (Nat.mod_lt a (show b>0 by omega)) hc0;omega
  omega)]
 simp only[za0];rw[AB5 (by unfold AH; omega)];simp only[za0];rw[Cz P.lo,p1',zc5,zc5,Nat.mul_div_cancel _ hc0]
end
section
open Go
theorem A1I (v:List Int) (k:Nat):dg (v ++ [0]) k=dg v k:=by
 unfold dg;simp only[zb7];rcases ze0 k v.length with h | h
 ·rw[List.getElem?_append_left h]
 ·rw[List.getElem?_append_right h,List.getElem?_eq_none h];rcases Nat.eq_zero_or_pos (k-v.length) with g | g
  ·rw[g]; rfl
  ·rw[List.getElem?_eq_none (by simp; omega)]
theorem AI4 (v:List Int):val (v ++ [0])=val v:=by rw[ML]; omega
theorem AX1 {v:List Int} (h:LB v):LB (v ++ [0]):=h.append (LB.cons (by omega) LB.nil)
theorem Bn2 {u0 v:List Int} {q:Int} {j:Nat} (hu:LB u0) (hv:LB v) (hq : 0<=q/\q<65536) (hlen:j + v.length<u0.length) (hl:u0.length<=1000000) :
  ∃ u c,KL u0 v (j:Int) q=some (u,c)/\Off u0 u j (v.length + 1) c q (v ++ [0]):=by
 obtain ⟨⟨u,c⟩,h1,h2⟩:=CJ (body:=fun (s:((List Int)×((List Int)×(Int×(Int×(Int×Int))))))=>JT s.1 s.2.1 s.2.2.1 s.2.2.2.1 s.2.2.2.2.1 s.2.2.2.2.2)
  (st:=fun k (b:List Int×Int)=>(b.1,(v,((j:Int),(q,(b.2,(k:Int))))))) (fin:=fun b=>(b.1,b.2)) (I:=fun k b=>Off u0 b.1 j k b.2 q (v ++ [0])) (e:=v.length + 1)
  (by
   rintro k ⟨u,c⟩ hk hI;simp only at hI;have hul:=hI.len;have hp:j + k<u.length:=by omega
   have du:=Bh hI.lb (j + k);have dv:=Bh hv k;have c0:=hI.c0;have c1:=hI.c1;have m0 : 0<=q*dg v k:=ze9 hq.1 dv.1;have m1:q*dg v k<=65535*65535:=Int.le_trans (zb2 (show dg v k<=65535 by omega) hq.1) (za9 (show q<=65535 by omega) (by omega));have hnx:=hI.next (AX1 hv) hq hp rfl;rw[A1I] at hnx;refine ⟨(u.set (j + k) (dg u (j + k)-q*dg v k-c + (if dg u (j + k)-q*dg v k-c<0 then (-(dg u (j + k)-q*dg v k-c) + 65536-1)/65536 else 0)*65536),if dg u (j + k)-q*dg v k-c<0 then (-(dg u (j + k)-q*dg v k-c) + 65536-1)/65536 else 0),?_,hnx⟩
   unfold JT AV
   dsimp only
   have i1:A2 ((j:Int) + (k:Int)) u.length=some (j + k):=by rw[show (j:Int) + (k:Int)=((j + k:Nat):Int) by omega]; exact A0 hp
   have hw1:=AM (show k<4611686018427387904 by omega);have hjk:=Aj (n:=(j:Int) + (k:Int)) (by omega) (by omega);rw[decide_eq_true (by omega),hjk];simp only[cond_true,i1,za0,As hp,M6];rw[Aj (n:=q*dg v k) (by omega) (by omega),Aj (n:=dg u (j + k)-q*dg v k) (by omega) (by omega),Aj (n:=dg u (j + k)-q*dg v k-c) (by omega) (by omega)];have hxb : -4294967296<=dg u (j + k)-q*dg v k-c/\dg u (j + k)-q*dg v k-c<65536:=by omega
   generalize dg u (j + k)-q*dg v k-c=x at *
   by_cases hx:x<0
   ·rw[decide_eq_true hx,if_pos hx,Aj (n:=0-x) (by omega) (by omega),Aj (n:=0-x + 65536) (by omega) (by omega),Aj (n:=0-x + 65536-1) (by omega) (by omega),zc1 (by omega),show 0-x + 65536-1 = -x + 65536-1 by omega];rw[Aj (n:=(-x + 65536-1)/65536) (by omega) (by omega),Aj (n:=(-x + 65536-1)/65536*65536) (by omega) (by omega),Aj (n:=x + (-x + 65536-1)/65536*65536) (by omega) (by omega)];simp only[cond_true,za0,za8,hjk,i1,As hp,hw1]
   ·rw[decide_eq_false hx,if_neg hx];simp only[cond_false,za0,za8,hjk,i1,As hp,hw1,Int.zero_mul,Int.add_zero])
  (by
   rintro ⟨u,c⟩ _;unfold JT
   dsimp only
   rw[decide_eq_false (by omega)];rfl) 0 (u0,0) (by omega) (Off.start hu j q (v ++ [0]))
 refine ⟨u,c,?_,h2⟩
 unfold KL
 dsimp only at h1
 rw[show ((0:Nat):Int)=0 from rfl] at h1;rw[h1];rfl
theorem Bo7 {u0 v:List Int} {j:Nat} (hu:LB u0) (hv:LB v) (hlen:j + v.length<u0.length) (hl:u0.length<=1000000) :
  ∃ u c,KM u0 v (j:Int)=some u/\Back u0 u j (v.length + 1) c (v ++ [0]):=by
 obtain ⟨⟨u,c⟩,h1,h2⟩:=CJ (body:=fun (s:((List Int)×((List Int)×(Int×(Int×Int)))))=>JS s.1 s.2.1 s.2.2.1 s.2.2.2.1 s.2.2.2.2)
  (st:=fun k (b:List Int×Int)=>(b.1,(v,((j:Int),(b.2,(k:Int)))))) (fin:=fun b=>b.1) (I:=fun k b=>Back u0 b.1 j k b.2 (v ++ [0])) (e:=v.length + 1)
  (by
   rintro k ⟨u,c⟩ hk hI;simp only at hI;have hul:=hI.len;have hp:j + k<u.length:=by omega
   have du:=hI.lb (j + k) (by simp; omega);have dv:=Bh hv k;have c0:=hI.c0;have c1:=hI.c1;have hnx:=hI.next (AX1 hv) (by simp; omega) hp;rw[A1I] at hnx;refine ⟨⟨_,_⟩,?_,hnx⟩
   unfold JS AV
   dsimp only
   have i1:A2 ((j:Int) + (k:Int)) u.length=some (j + k):=by rw[show (j:Int) + (k:Int)=((j + k:Nat):Int) by omega]; exact A0 hp
   have hw1:=AM (show k<4611686018427387904 by omega);have hjk:=Aj (n:=(j:Int) + (k:Int)) (by omega) (by omega);rw[decide_eq_true (by omega),hjk];simp only[cond_true,i1,za0,As hp,M6];rw[Aj (n:=dg u (j + k) + dg v k) (by omega) (by omega),Aj (n:=dg u (j + k) + dg v k + c) (by omega) (by omega),zc6 (by omega),zc1 (by omega),Aj (n:=(dg u (j + k) + dg v k + c)/65536) (by omega) (by omega),hw1])
  (by
   rintro ⟨u,c⟩ _;unfold JS
   dsimp only
   rw[decide_eq_false (by omega)];rfl) 0 (u0,0) (by omega) ⟨rfl,fun i _=>Bh hu i,fun _ _=>rfl,by simp only; omega,by simp only; omega,by simp[val]⟩
 refine ⟨u,c,?_,h2⟩
 unfold KM
 dsimp only at h1
 rw[show ((0:Nat):Int)=0 from rfl] at h1;rw[h1];rfl
theorem Bi2 {u v:List Int} {j m:Nat} (H:Place u v j m) (hl:u.length<=1000000) :
  ∃ q,Jk u v (j:Int)=some q/\val (u.drop j)/val v<=q/\q<65536/\q*val v<val (u.drop j) + val v:=by
 have G:=H.guess;have hv:=H.hv;have hlen:=H.len;have hrest:=H.rest;have hst:=H.start;have d1:=Bh H.lu (j + m + 1);have d2:=Bh H.lu (j + m + 2);have hu:j + m<u.length:=by omega
 have htop65:dg u (j + m + 2)*65536 + dg u (j + m + 1)<65536*(dg v (m + 1) + 1):=by
  have hP:=G.hP;have hU:=G.hU;have hV:=G.hV;have hv2:=G.hv2;have hvr:=G.hvr;have hu2:=G.hu2;have hur:=G.hur;rcases Int.lt_or_le (dg u (j + m + 2)*65536 + dg u (j + m + 1)) (65536*(dg v (m + 1) + 1)) with h | h
  ·exact h
  ·exfalso
   generalize dg u (j + m + 2)*65536 + dg u (j + m + 1)=top at *
   generalize dg v (m + 1)=v1 at *
   generalize dg v m=v2 at *
   generalize dg u (j + m)=u2 at *
   generalize val (v.take m)=vr at *
   generalize val ((u.drop j).take m)=ur at *
   have e1:=za9 (show 65536*(v1 + 1)*65536<=top*65536 + u2 by omega) (ze3 hP);have e2:=za9 (show v1*65536 + v2 + 1<=(v1 + 1)*65536 by omega) (ze3 hP);rw[Int.add_mul,Int.one_mul] at e2;have e3 : 65536*(v1 + 1)*65536*B m=65536*((v1 + 1)*65536*B m):=by grind
   omega
 have hv1:=G.hv1;have hv1':=G.hv1';have htop0 : 0<=dg u (j + m + 2)*65536 + dg u (j + m + 1):=by omega
 have e1:=Int.emod_add_mul_ediv (dg u (j + m + 2)*65536 + dg u (j + m + 1)) (dg v (m + 1));have e2:=Int.emod_nonneg (dg u (j + m + 2)*65536 + dg u (j + m + 1)) (show dg v (m + 1)≠0 by omega);have e3:(dg u (j + m + 2)*65536 + dg u (j + m + 1))/dg v (m + 1)<=dg u (j + m + 2)*65536 + dg u (j + m + 1):=Int.ediv_le_self _ htop0;have e4:=Int.ediv_nonneg htop0 (show 0<=dg v (m + 1) by omega);have w1:=Aj (n:=dg u (j + m + 2)*65536) (by omega) (by omega);have w2:=Aj (n:=dg u (j + m + 2)*65536 + dg u (j + m + 1)) (by omega) (by omega)
 have w3:=Aj (n:=(dg u (j + m + 2)*65536 + dg u (j + m + 1))/dg v (m + 1)) (by omega) (by omega);have g1:AP u (IntKind.wrap .i64 ((j:Int) + (v.length:Int)))=some (dg u (j + m + 2)):=OC (by rw[Aj (by omega) (by omega)]; omega) (by omega);have g2:AP u (IntKind.wrap .i64 (IntKind.wrap .i64 ((j:Int) + (v.length:Int))-1))=some (dg u (j + m + 1)):=OC (by rw[Aj (n:=(j:Int) + (v.length:Int)) (by omega) (by omega),Aj (by omega) (by omega)]; omega) (by omega);have g3:AP v (IntKind.wrap .i64 ((v.length:Int)-1))=some (dg v (m + 1)):=OC (by rw[Aj (by omega) (by omega)]; omega) (by omega)
 have g4:AP v (IntKind.wrap .i64 ((v.length:Int)-2))=some (dg v m):=OC (by rw[Aj (by omega) (by omega)]; omega) (by omega);have g5:AP u (IntKind.wrap .i64 (IntKind.wrap .i64 ((j:Int) + (v.length:Int))-2))=some (dg u (j + m)):=OC (by rw[Aj (n:=(j:Int) + (v.length:Int)) (by omega) (by omega),Aj (by omega) (by omega)]; omega) (by omega);have hz:(dg v (m + 1)==0)=false:=beq_eq_false_iff_ne.2 (by omega);obtain ⟨r,h1,h2⟩:=Hm (f:=fun (s:((List Int)×((List Int)×(Int×(Int×(Int×Int))))))=>EP s.1 s.2.1 s.2.2.1 s.2.2.2.1 s.2.2.2.2.1 s.2.2.2.2.2)
  (I:=fun s=>∃ q r:Int,s=(u,(v,((j:Int),((v.length:Int),(q,r)))))/\q*dg v (m + 1) + r=dg u (j + m + 2)*65536 + dg u (j + m + 1)/\0<=r/\val (u.drop j)/val v<=q/\q<4294967296)
  (R:=fun q=>val (u.drop j)/val v<=q/\q<65536/\q*val v<val (u.drop j) + val v) (fun s=>s.2.2.2.2.1.toNat) (by
   rintro s ⟨q,r,rfl,f1,f2,f3,f4⟩;simp only;have hQ0:=G.hQ0;have hQ1:=G.hQ1;have hv2:=G.hv2;have hu2:=G.hu2;have htop:=G.htop;have hqv : 0<=q*dg v (m + 1):=ze9 (by omega) (by omega);have hqv2 : 0<=q*dg v m:=ze9 (by omega) hv2.1;have hqv2':q*dg v m<=4294967296*65536:=Int.le_trans (zb2 (show dg v m<=65536 by omega) (by omega)) (za9 (show q<=4294967296 by omega) (by omega));have w5:=Aj (n:=q*dg v m) (by omega) (by omega);have w6:=Aj (n:=r*65536) (by omega) (by omega);have w7:=Aj (n:=r*65536 + dg u (j + m)) (by omega) (by omega);have w8:=Aj (n:=q-1) (by omega) (by omega)
   have w9:=Aj (n:=r + dg v (m + 1)) (by omega) (by omega);have less:∀ (hgo:val (u.drop j)/val v<=q-1),∃ q' r':Int,(u,(v,((j:Int),((v.length:Int),(q-1,r + dg v (m + 1))))))=(u,(v,((j:Int),((v.length:Int),(q',r')))))/\q'*dg v (m + 1) + r'=dg u (j + m + 2)*65536 + dg u (j + m + 1)/\0<=r'/\val (u.drop j)/val v<=q'/\q'<4294967296:=by
    intro hgo;exact ⟨q-1,r + dg v (m + 1),rfl,by rw[Int.sub_mul]; omega,by omega,hgo,by omega⟩
   by_cases c2:r<65536
   ·by_cases c1:q>=65536
    ·refine .inl ⟨(u,(v,((j:Int),((v.length:Int),(q-1,r + dg v (m + 1)))))),?_,less (by omega),by simp only; omega⟩
     unfold EP;rw[decide_eq_true c2,decide_eq_true c1];simp only[cond_true,za0,Sum.elim_inl,za8,g3,w8,w9]
    ·by_cases c3:q*dg v m>r*65536 + dg u (j + m)
     ·have hlt:=Ap3 G.hP G.hv1 G.hv2 G.hvr G.hu2 G.hur G.hV G.hU f1 (by omega) c3;have hne:val (u.drop j)/val v<=q-1:=by
       rcases Int.lt_or_le (q-1) (val (u.drop j)/val v) with h | h
       ·have:q=val (u.drop j)/val v:=by omega
        have:=G.hQ;subst q;omega
       ·exact h
      refine .inl ⟨(u,(v,((j:Int),((v.length:Int),(q-1,r + dg v (m + 1)))))),?_,less hne,by simp only; omega⟩
      unfold EP;rw[decide_eq_true c2,decide_eq_false c1];simp only[cond_true,cond_false,za0,g4,g5,w5,w6,w7,decide_eq_true c3,za8,g3,w8,w9]
     ·refine .inr ⟨q,?_,f3,by omega,AC5 G.hP G.hv1 G.hv2 G.hvr G.hu2 G.hur G.hV G.hU f1 (by omega) (by omega) (by omega)⟩
      unfold EP;rw[decide_eq_true c2,decide_eq_false c1];simp only[cond_true,cond_false,za0,g4,g5,w5,w6,w7,decide_eq_false c3,Sum.elim_inl]
   ·have hq65:q<65536:=by
     rcases Int.lt_or_le q 65536 with h | h
     ·exact h
     ·exfalso
      have:=za9 h (show 0<=dg v (m + 1) by omega);omega
    have hle:=Aa8 G.hP G.hv1 G.hv2 G.hvr G.hu2 G.hur G.hV G.hU f1 (by omega) hq65 (by omega);have hV0:=G.hV0;refine .inr ⟨q,?_,f3,hq65,by omega⟩
    unfold EP;rw[decide_eq_false c2];rfl) (u,(v,((j:Int),((v.length:Int),((dg u (j + m + 2)*65536 + dg u (j + m + 1))/dg v (m + 1),(dg u (j + m + 2)*65536 + dg u (j + m + 1))%dg v (m + 1)))))) ⟨_,_,rfl,by rw[Int.mul_comm]; omega,e2,hst,by omega⟩
 refine ⟨r,?_,h2⟩
 unfold Jk;simp only[g1,g2,g3,za0,hz,cond_false,w1,w2,zc1 htop0,zc6 htop0,w3];rw[h1];rfl
theorem Place.part {u v u':List Int} {j m:Nat} (H:Place u v j m) (h1:u'.length=u.length) (h2:LB u') (h3:∀ i,j + m + 3<=i->dg u' i=dg u i) {W e:Int} (h4:val u'=val u-B j*W + B (j + m + 3)*e) :
  val (u'.drop j)=val (u.drop j)-W + B (m + 3)*e/\0<=val (u'.drop j)/\val (u'.drop j)<B (m + 3):=by
 have hz:val (u'.drop (j + (m + 3)))=0:=Qp fun i=>by rw[Z3,h3 _ (by omega)]; exact (H.high (by omega)).1
 have p1:=Ch (u'.drop j) (m + 3);rw[List.drop_drop,hz] at p1;have p2:=CX (h2.drop j) (m + 3);have p3:=Ch u' j;have p4:=Ch u j;have p5:=CX h2 j;have p6:=CX H.lu j;refine ⟨?_,by omega,by omega⟩
 refine TJ p5 p6 ?_
 have e1:B (j + m + 3)*e=B j*(B (m + 3)*e):=by rw[show j + m + 3=j + (m + 3) by omega,UX]; grind
 rw[ze1,Int.mul_sub];omega
set_option maxHeartbeats 1000000 in
theorem Be1 {u v out:List Int} {bits:Int} {j m:Nat} (H:Place u v j m) (hl:u.length<=1000000) (hj:j<out.length) :
  ∃ u',Cu u v out bits (j:Int)=some (.inl (u',(v,(out.set j (val (u.drop j)/val v),(bits,(j:Int)-1))))) /\
   u'.length=u.length/\LB u'/\val u'=val u-B j*(val (u.drop j)/val v*val v)/\val (u'.drop j)<val v:=by
 have hlen:=H.len;have hvl:=H.hv;have hQ:=H.quot;have hmod:=H.mod;have hlt:=H.lt;have hpos:=H.pos;have hB3:B (m + 3)=65536*B (m + 2):=rfl;obtain ⟨q,hg1,hg2,hg3,hg4⟩:=Bi2 H hl;obtain ⟨u1,c,ht1,O⟩:=Bn2 (j:=j) (q:=q) H.lu H.lv ⟨by omega,hg3⟩ (by omega) hl;have ov:=O.v;have ol:=O.len;have oc0:=O.c0;rw[zc4 (by simp),AI4,hvl,show j + (m + 2 + 1)=j + m + 3 by omega] at ov;have oh:=O.hi;rw[hvl,show j + (m + 2 + 1)=j + m + 3 by omega] at oh;obtain ⟨p1,p2,p3⟩:=H.part ol O.lb oh (W:=q*val v) (e:=c) (by omega);have hge:decide ((j:Int)>=0)=true:=decide_eq_true (by omega)
 have w5:=Aj (n:=(j:Int)-1) (by omega) (by omega);have hj0:A2 (j:Int) out.length=some j:=A0 hj;have gout:AV out j=some (dg out j):=As hj;have hBp:=Hb (m + 3);rcases H.one hg2 hg4 with hq | hq
 ·have hc:c=0:=by
   rw[hq] at p1;have:=TJ (j:=m + 3) (a:=val (u1.drop j)) (b:=val (u.drop j)-val (u.drop j)/val v*val v) (X:=0) (Y:=c) ⟨p2,p3⟩ (by omega) (by omega);exact this.symm
  subst hc;refine ⟨u1,?_,ol,O.lb,by rw[hq] at ov; omega,by rw[hq] at p1; omega⟩
  unfold Cu;simp only[hge,cond_true,hg1,ht1,za0,ol,decide_true,show decide ((0:Int)>0)=false from rfl,cond_false,hj0,gout,w5];rw[hq]
 ·have hqv:q*val v=val (u.drop j)/val v*val v + val v:=by rw[hq,Int.add_mul,Int.one_mul]
  have hc:c=1:=by
   have:=TJ (j:=m + 3) (a:=val (u1.drop j)) (b:=val (u.drop j)-q*val v + B (m + 3)) (X:=1) (Y:=c) ⟨p2,p3⟩ (by omega) (by omega);exact this.symm
  subst hc;obtain ⟨u2,c2,hb1,K⟩:=Bo7 (u0:=u1) (v:=v) (j:=j) O.lb H.lv (by omega) (by omega);have kl:=K.len;have kh:=K.hi;have kv:=K.v;rw[zc4 (by simp),AI4,hvl,show j + (m + 2 + 1)=j + m + 3 by omega] at kv;rw[hvl,show j + (m + 2 + 1)=j + m + 3 by omega] at kh;have klb:LB u2:=Am7 fun i hi=>by
   rcases ze0 i (j + m + 3) with g | g
   ·exact K.lb i (by simp; omega)
   ·rw[kh i g]; exact Bh O.lb i
  have e1:B j*(q*val v)=B j*(val (u.drop j)/val v*val v) + B j*val v:=by rw[hqv,ze1]
  have hall:val u2=val u-B j*(val (u.drop j)/val v*val v) + B (j + m + 3)*(1-c2):=by
   rw[Int.mul_sub]; omega
  obtain ⟨k1,k2,k3⟩:=H.part (kl.trans ol) klb (fun i hi=>(kh i hi).trans (oh i hi)) hall;have hc2:c2=1:=by
   have:=TJ (j:=m + 3) (a:=val (u2.drop j)) (b:=val (u.drop j)-val (u.drop j)/val v*val v) (X:=0) (Y:=1-c2) ⟨k2,k3⟩ (by omega) (by omega);omega
  subst hc2;refine ⟨u2,?_,kl.trans ol,klb,by omega,by omega⟩
  have w7:IntKind.wrap .i64 (q-1)=val (u.drop j)/val v:=by rw[Aj (by omega) (by omega)]; omega
  unfold Cu;simp only[hge,cond_true,hg1,ht1,za0,ol,decide_true,show decide ((1:Int)>0)=true from rfl,hb1,kl,hj0,gout,w5,w7]
end
section
open Go
theorem A5w {s o t:Nat} (ho:o<2 ^ s) (h : 2 ^ s*t + o<4611686018427387904):orI .i64 (o:Int) ((2 ^ s*t:Nat):Int)=((o + 2 ^ s*t:Nat):Int):=by
 unfold orI;rw[BitVec.ofInt_natCast,BitVec.ofInt_natCast,BitVec.toNat_or,BitVec.toNat_ofNat,BitVec.toNat_ofNat];have h64:IntKind.bits .i64=64:=rfl;rw[h64,Nat.mod_eq_of_lt (by omega),Nat.mod_eq_of_lt (by omega),Nat.or_comm,<-Nat.two_pow_add_eq_or_of_lt ho,Aj (by omega) (by omega)];omega
theorem Ar4 {x:Int} {s:Nat} (hs:s<=63) (h0 : -9223372036854775808<=x*2 ^ s) (h1:x*2 ^ s<=9223372036854775807):Wh .i64 x (IntKind.wrap .u64 (s:Int))=x*2 ^ s:=by
 unfold Wh;rw[Az8 (by omega) (by omega),show min ((s:Int).toNat) (IntKind.bits .i64)=s by simp[IntKind.bits]; omega,Aj h0 h1]
theorem A89 {x:Int} {s:Nat} (hs:s<=63):A8X .i64 x (IntKind.wrap .u64 (s:Int))=x/2 ^ s:=by
 unfold A8X;rw[Az8 (by omega) (by omega),show min ((s:Int).toNat) (IntKind.bits .i64)=s by simp[IntKind.bits]; omega];exact Int.fdiv_eq_ediv_of_nonneg _ (ze3 (Int.pow_pos (by decide)))
theorem Rq {s:Nat} (hs:s<=16):∃ S T:Nat,S=2 ^ s/\T=2 ^ (16-s)/\S*T=65536/\1<=S/\1<=T/\S<=65536:=by
 refine ⟨2 ^ s,2 ^ (16-s),rfl,rfl,?_,Nat.one_le_two_pow,Nat.one_le_two_pow,?_⟩
 ·rw[<-Nat.pow_add,show s + (16-s)=16 by omega]
 ·exact Nat.pow_le_pow_right (by decide) hs
theorem Ah9 {S T x:Int} (hST:S*T=65536) (hS : 1<=S) (hT : 1<=T) (hx : 0<=x/\x<65536) :
  x*S%65536=S*(x%T)/\x*S/65536=x/T/\0<=x/T/\x/T<S/\0<=x%T/\x%T<T/\S*(x%T) + 65536*(x/T)=x*S/\S*(x%T) + S<=65536:=by
 have e1:=Int.emod_add_mul_ediv x T;have e2:=Int.emod_nonneg x (show T≠0 by omega);have e3:=Int.emod_lt_of_pos x (show 0<T by omega);have e4:=Int.ediv_nonneg hx.1 (show 0<=T by omega);have e5:x/T<S:=Int.ediv_lt_of_lt_mul (by omega) (by rw[hST]; exact hx.2);have e6:x*S=S*(x%T) + 65536*(x/T):=by
  have h2:S*(x%T + T*(x/T))=S*(x%T) + (S*T)*(x/T):=by rw[ze1,Int.mul_assoc]
  rw[e1,hST] at h2;rw[<-h2,Int.mul_comm]
 have e7:S*(x%T) + S<=65536:=by
  have h2:=zb2 (show x%T + 1<=T by omega) (show 0<=S by omega);rw[ze1,hST] at h2;omega
 have e8 : 0<=S*(x%T):=ze9 (by omega) e2;rw[e6];refine ⟨?_,?_,e4,e5,e2,e3,rfl,e7⟩ <;> omega
theorem A29 {S T x y R:Int} (hST:S*T=65536) (hS : 1<=S) (hT : 1<=T) (hx : 0<=x/\x<65536):(x + 65536*(y + 65536*R))/S=(x + 65536*y)/S%65536 + 65536*((y + 65536*R)/S):=by
 have e1:x + 65536*(y + 65536*R)=(x + 65536*y) + S*(T*65536*R):=by
  have:S*(T*65536*R)=(S*T)*(65536*R):=by grind
  rw[this,hST]; omega
 have e2:(x + 65536*(y + 65536*R))/S=(x + 65536*y)/S + T*65536*R:=by rw[e1,Int.add_mul_ediv_left _ _ (by omega)]
 have e3:(x + 65536*(y + 65536*R))/S%65536=(x + 65536*y)/S%65536:=by
  rw[e2,show T*65536*R=65536*(T*R) by grind,Int.add_mul_emod_self_left]
 have e4:(x + 65536*(y + 65536*R))/S/65536=(y + 65536*R)/S:=by
  rw[Int.ediv_ediv_of_nonneg (by omega),Int.mul_comm S,<-Int.ediv_ediv_of_nonneg (by decide)]
  congr 1
  omega
 have e5:=Int.emod_add_mul_ediv ((x + 65536*(y + 65536*R))/S) 65536;rw[e3,e4] at e5;omega
structure Up (l out:List Int) (s i:Nat):Prop where
 lb:LB out
 len:out.length=l.length + 1
 c:dg out i<2 ^ s
 z:∀ k,i<k->dg out k=0
 v:val out=val (l.take i)*2 ^ s
theorem Up.next {l out:List Int} {s i:Nat} (h:Up l out s i) (hl:LB l) (hs:s<=15) (hi:i<l.length) :
  Up l ((out.set i (dg out i + dg l i*2 ^ s%65536)).set (i + 1) (dg l i*2 ^ s/65536)) s (i + 1):=by
 obtain ⟨S,T,eS,eT,hST,hS,hT,hS2⟩:=Rq (show s<=16 by omega);have hSi:((S:Nat):Int)=2 ^ s:=by rw[eS]; simp
 have hc:=h.c;rw[<-hSi] at hc ⊢
 have hx:=Bh hl i;obtain ⟨d1,d2,d3,d4,d5,d6,d7,d8⟩:=Ah9 (S:=(S:Int)) (T:=(T:Int)) (by rw[<-zf0,hST]; rfl) (by omega) (by omega) hx;have ho:=Bh h.lb i;have hol:=h.len;have hv:=h.v;rw[<-hSi] at hv;have m0 : 0<=(S:Int)*(dg l i%T):=ze9 (by omega) d5;rw[d1,d2];have hz:=h.z (i + 1) (by omega);refine ⟨?_,by simp[hol],?_,fun k hk=>?_,?_⟩
 ·refine (h.lb.set ⟨by omega,by omega⟩).set ⟨d3,by omega⟩
 ·rw[A3d (by simp; omega),if_pos rfl,<-hSi]; exact d4
 ·rw[Cg (by omega),Cg (by omega)]; exact h.z k (by omega)
 ·rw[Gq (As (by simp; omega)),Cg (by omega),hz,Gq (As (show i<out.length by omega)),hv,A9,<-hSi];have e1:B (i + 1)*(dg l i/T-0)=B i*(65536*(dg l i/T)):=by simp only[B]; grind
  have e2:(val (l.take i) + B i*dg l i)*S=val (l.take i)*S + B i*(dg l i*S):=by grind
  rw[e1,e2,<-d7,ze1];have e3:B i*(dg out i + S*(dg l i%T)-dg out i)=B i*(S*(dg l i%T)):=by congr 1; omega
  omega
theorem A9n {l:List Int} {s:Nat} (hl:LB l) (hs:s<=15) (hn:l.length<=1000000):∃ out,Nf l (s:Int)=some out/\LB out/\out.length=l.length + 1/\val out=val l*2 ^ s:=by
 obtain ⟨out,h1,h2⟩:=CJ (body:=fun (s:((List Int)×(Int×((List Int)×(Int×Int)))))=>Ov s.1 s.2.1 s.2.2.1 s.2.2.2.1 s.2.2.2.2)
  (st:=fun k (b:List Int)=>(b,((s:Int),(l,((l.length:Int),(k:Int)))))) (fin:=fun b=>b) (I:=fun k b=>Up l b s k) (e:=l.length)
  (by
   rintro k out hk hI;refine ⟨_,?_,hI.next hl hs hk⟩
   obtain ⟨S,T,eS,eT,hST,hS,hT,hS2⟩:=Rq (show s<=16 by omega);have hSi:((S:Nat):Int)=2 ^ s:=by rw[eS]; simp
   have hx:=Bh hl k;have ho:=Bh hI.lb k;have hol:=hI.len;have hc:=hI.c;rw[<-hSi] at hc ⊢
   obtain ⟨d1,d2,d3,d4,d5,d6,d7,d8⟩:=Ah9 (S:=(S:Int)) (T:=(T:Int)) (by rw[<-zf0,hST]; rfl) (by omega) (by omega) hx;have hxS : 0<=dg l k*(S:Int)/\dg l k*(S:Int)<=65536*65536:=⟨ze9 hx.1 (by omega),Int.le_trans (zb2 (show (S:Int)<=65536 by omega) hx.1) (za9 (by omega) (by decide))⟩;have hsh:Wh .i64 (dg l k) (IntKind.wrap .u64 (s:Int))=dg l k*S:=by rw[hSi]; exact Ar4 (by omega) (by rw[<-hSi]; omega) (by rw[<-hSi]; omega)
   have hor:orI .i64 (dg out k) (dg l k*S%65536)=dg out k + dg l k*S%65536:=by
    obtain ⟨o,eo⟩:∃ o:Nat,dg out k=(o:Int):=⟨(dg out k).toNat,by omega⟩;obtain ⟨t,et⟩:∃ t:Nat,dg l k%T=(t:Int):=⟨(dg l k%T).toNat,by omega⟩;rw[d1,et,eo,<-zf0,eS,A5w (by rw[<-eS]; omega) (by
     rw[<-eS];have:((S*t:Nat):Int)<=65536:=by rw[zf0,<-et]; omega
     omega)]
    simp
   have hu:IntKind.wrap .u64 (s:Int)=(s:Int):=Az8 (by omega) (by omega);unfold Ov AV
   dsimp only
   rw[decide_eq_true (by omega),AM (by omega)];have i1:A2 (k:Int) out.length=some k:=A0 (by omega);have hd:decide (IntKind.wrap .u64 (s:Int)<0)=false:=by rw[hu]; exact decide_eq_false (by omega)
   simp only[cond_true,An,As hk,za0,hd,cond_false,i1,As (show k<out.length by omega),hsh,zc6 hxS.1,zc1 hxS.1,hor,List.length_set];rw[A0 (by omega)];simp only[za0];rw[As (by simp; omega)];simp only[za0];rw[Aj (n:=dg l k*S/65536) (by omega) (by omega)])
  (by
   rintro out _;unfold Ov
   dsimp only
   rw[decide_eq_false (Int.lt_irrefl _)];rfl) 0 (List.replicate (l.length + 1) 0) (by omega) ⟨LB.zeros _,by simp,by
    rw[show dg (List.replicate (l.length + 1) (0:Int)) 0=0 from rfl];exact Int.pow_pos (by decide),fun k _=>by unfold dg; rw[zb7,List.getElem?_replicate]; split <;> rfl,by simp[FT,val]⟩
 have hv:=h2.v;rw[List.take_length] at hv;refine ⟨out,?_,h2.lb,h2.len,hv⟩
 unfold Nf;rw[AM (by omega),Jn (by unfold Ag; omega) (by unfold Ag; omega)];simp only[za0];rw[show ((0:Nat):Int)=0 from rfl] at h1;rw[h1];rfl
theorem A9s {l:List Int} {s:Nat} (hl:LB l) (hs:s<=15) (hn:l.length<=1000000):LM l (s:Int)=some (lim (val l/2 ^ s).toNat):=by
 obtain ⟨S,T,eS,eT,hST,hS,hT,hS2⟩:=Rq (show s<=16 by omega);have hSi:((S:Nat):Int)=2 ^ s:=by rw[eS]; simp
 have hSTi:(S:Int)*T=65536:=by rw[<-zf0,hST]; rfl
 obtain ⟨out,h1,h2⟩:=CJ (body:=fun (s:((List Int)×((List Int)×(Int×(Int×Int)))))=>JN s.1 s.2.1 s.2.2.1 s.2.2.2.1 s.2.2.2.2)
  (st:=fun k (b:List Int)=>(b,(l,((s:Int),((l.length:Int),(k:Int)))))) (fin:=fun b=>b)
  (I:=fun k b=>LB b/\b.length=l.length/\(∀ i,k<=i->dg b i=0)/\val b + B k*(val (l.drop k)/S)=val l/S) (e:=l.length)
  (by
   rintro k out hk ⟨g1,g2,g3,g4⟩;have hx:=Bh hl k;have hy:=Bh hl (k + 1);have hm0 : 0<=(dg l k + 65536*dg l (k + 1))/(S:Int)%65536/\(dg l k + 65536*dg l (k + 1))/(S:Int)%65536<65536:=by omega
   refine ⟨out.set k ((dg l k + 65536*dg l (k + 1))/(S:Int)%65536),?_,g1.set hm0,by simp[g2],fun i hi=>by rw[Cg (by omega)]; exact g3 i (by omega),?_⟩
   ·have hor:orI .i64 (dg l k) (Wh .i64 (dg l (k + 1)) 16)=dg l k + 65536*dg l (k + 1):=by
     obtain ⟨o,eo⟩:∃ o:Nat,dg l k=(o:Int):=⟨(dg l k).toNat,by omega⟩;obtain ⟨t,et⟩:∃ t:Nat,dg l (k + 1)=(t:Int):=⟨(dg l (k + 1)).toNat,by omega⟩;have h16:Wh .i64 (dg l (k + 1)) 16=((2 ^ 16*t:Nat):Int):=by
      have:=Ar4 (x:=dg l (k + 1)) (s:=16) (by omega) (by omega) (by omega);rw[show IntKind.wrap .u64 ((16:Nat):Int)=16 by decide] at this;rw[this,et]; omega
     rw[h16,eo,A5w (by omega) (by omega),et];omega
    have hu:IntKind.wrap .u64 (s:Int)=(s:Int):=Az8 (by omega) (by omega);unfold JN AV
    dsimp only
    rw[decide_eq_true (by omega),AM (by omega)];have i1:A2 (k:Int) out.length=some k:=A0 (by omega);have hd:decide (IntKind.wrap .u64 (s:Int)<0)=false:=by rw[hu]; exact decide_eq_false (by omega)
    have hsr:A8X .i64 (dg l k + 65536*dg l (k + 1)) (IntKind.wrap .u64 (s:Int))=(dg l k + 65536*dg l (k + 1))/(S:Int):=by rw[A89 (by omega),hSi]
    have hq0 : 0<=(dg l k + 65536*dg l (k + 1))/(S:Int):=Int.ediv_nonneg (by omega) (by omega);simp only[cond_true,An,As hk,za0,M6,hd,cond_false,i1,As (show k<out.length by omega),hor,hsr,zc6 hq0]
   ·rw[Gq (As (show k<out.length by omega)),g3 k (za7 _),Int.sub_zero];rw[CN l k,CN l (k + 1),A29 hSTi (by omega) (by omega) hx,<-CN l (k + 1),ze1] at g4;have e:B (k + 1)*(val (l.drop (k + 1))/S)=B k*(65536*(val (l.drop (k + 1))/S)):=by simp only[B]; grind
    omega)
  (by
   rintro out _;unfold JN
   dsimp only
   rw[decide_eq_false (Int.lt_irrefl _)];rfl) 0 (List.replicate l.length 0) (by omega) ⟨LB.zeros _,by simp,fun i _=>by unfold dg; rw[zb7,List.getElem?_replicate]; split <;> rfl,by rw[FT,ze8]; simp[B]⟩
 obtain ⟨g1,g2,g3,g4⟩:=h2;rw[List.drop_length,show val []=0 from rfl,Int.zero_ediv,Int.mul_zero,Int.add_zero] at g4;unfold LM;rw[Jn (by unfold Ag; omega) (by unfold Ag; omega)];simp only[za0];rw[show ((0:Nat):Int)=0 from rfl] at h1;rw[h1];simp only[za0];rw[Hy (by unfold AH; omega)];simp only[za0];rw[Cz g1,g4,hSi]
theorem Bo3 {a b:List Int} {t:Int} {m:Nat} (hm:b.length=m + 1) (hml:m<=1000000) (ht:dg b m=t) (h1 : 1<=t) (h2:t<65536) :
  ∃ s:Nat,s<=15/\t*2 ^ s<65536/\Ah (fun (s:((List Int)×((List Int)×Int)))=>DZ s.1 s.2.1 s.2.2) (a,(b,0))=some (a,(b,(s:Int))):=by
 have bound:∀ s:Nat,t*2 ^ s<65536->s<=15:=fun s h=>by
  have h3:(2:Int) ^ s<2 ^ 16:=by
   have h4:(1:Int)*2 ^ s<=t*2 ^ s:=za9 h1 (ze3 (Int.pow_pos (by decide)));have h5:(2:Int) ^ 16=65536:=by decide
   omega
  have h5:((2 ^ s:Nat):Int)<((2 ^ 16:Nat):Int):=by simpa using h3
  have h6 : 2 ^ s<2 ^ 16:=by omega
  have:=(Nat.pow_lt_pow_iff_right (show 1<2 by decide)).1 h6;omega
 obtain ⟨r,g1,s,rfl,g2⟩:=Hm (f:=fun (s:((List Int)×((List Int)×Int)))=>DZ s.1 s.2.1 s.2.2)
  (I:=fun x=>∃ s:Nat,x=(a,(b,(s:Int)))/\t*2 ^ s<65536) (R:=fun x=>∃ s:Nat,x=(a,(b,(s:Int)))/\t*2 ^ s<65536) (fun x=>100-x.2.2.toNat) (by
   rintro x ⟨s,rfl,hs⟩;have hb:=bound s hs;have p0:(0:Int)<2 ^ s:=Int.pow_pos (by decide);have p1 : 0<=t*2 ^ s:=ze9 (by omega) (by omega);have hsh:Wh .i64 t (IntKind.wrap .u64 (s:Int))=t*2 ^ s:=Ar4 (by omega) (by omega) (by omega);have hu:IntKind.wrap .u64 (s:Int)=(s:Int):=Az8 (by omega) (by omega);have hd:decide (IntKind.wrap .u64 (s:Int)<0)=false:=by rw[hu]; exact decide_eq_false (by omega)
   have hg:AP b (IntKind.wrap .i64 ((b.length:Int)-1))=some t:=by rw[<-ht]; exact OC (by rw[Aj (by omega) (by omega)]; omega) (by omega)
   simp only;by_cases hc:t*2 ^ s<32768
   ·refine .inl ⟨(a,(b,((s + 1:Nat):Int))),?_,⟨s + 1,rfl,by rw[Int.pow_succ,<-Int.mul_assoc]; omega⟩,by simp only; omega⟩
    unfold DZ;simp only[hg,za0,hd,cond_false,hsh,decide_eq_true hc,cond_true];rw[AM (by omega)]
   ·refine .inr ⟨(a,(b,(s:Int))),?_,s,rfl,hs⟩
    unfold DZ;simp only[hg,za0,hd,cond_false,hsh,decide_eq_false hc]) (a,(b,0)) ⟨0,rfl,by simp; omega⟩
 exact ⟨s,bound s g2,g2,g1⟩
theorem A9b {u0 v:List Int} {m:Nat} {bits:Int} (hv:LB v) (hvl:v.length=m + 2) (ht : 1<=dg v (m + 1)) (hl:u0.length<=1000000) {n:Nat} {out:List Int} (h:Places u0 v m n u0 out) :
  ∃ u out',Ah (fun (s:((List Int)×((List Int)×((List Int)×(Int×Int)))))=>Cu s.1 s.2.1 s.2.2.1 s.2.2.2.1 s.2.2.2.2) (u0,(v,(out,(bits,(n:Int)-1))))=some (u,(out',bits))/\Places u0 v m 0 u out':=by
 obtain ⟨⟨u,out'⟩,h1,h2⟩:=MR (body:=fun (s:((List Int)×((List Int)×((List Int)×(Int×Int)))))=>Cu s.1 s.2.1 s.2.2.1 s.2.2.2.1 s.2.2.2.2)
  (st:=fun n (b:List Int×List Int)=>(b.1,(v,(b.2,(bits,(n:Int)-1))))) (fin:=fun b=>(b.1,(b.2,bits))) (I:=fun n b=>Places u0 v m n b.1 b.2)
  (by
   rintro n ⟨u,out⟩ hI;simp only at hI;have H:=hI.place hv hvl ht;have hle:=hI.le;have hol:=hI.olen;have hul:=hI.len;obtain ⟨u',g1,g2,g3,g4,g5⟩:=Be1 (out:=out) (bits:=bits) H (by omega) (by omega);refine ⟨(u',out.set n (val (u.drop n)/val v)),?_,hI.next H g2 g3 g4 g5⟩
   simp only;rw[show ((n + 1:Nat):Int)-1=(n:Int) by omega,g1])
  (by
   rintro ⟨u,out⟩ _;unfold Cu
   dsimp only
   rw[decide_eq_false (by omega)];rfl) n (u0,out) h
 exact ⟨u,out',h1,h2⟩
theorem Places.start2 {u0 v:List Int} {m n:Nat} (hu:LB u0) (hn:u0.length=n + (m + 2)) (h0:val (u0.drop n)<val v):Places u0 v m n u0 (List.replicate n 0) :=
 ⟨rfl,hu,by omega,h0,LB.zeros n,by simp; omega,fun i hi=>by unfold dg; rw[zb7,List.getElem?_replicate]; split <;> rfl,by rw[FT]; omega⟩
set_option maxHeartbeats 1000000 in
theorem VJ {a b:Nat} (hb0:b≠0) (ha:(lim a).length<=90000) (hb:(lim b).length<=90000):D5 (lim a) (lim b)=some (lim (a/b),lim (a%b)):=by
 unfold D5;rw[Hy (by unfold AH; omega)];simp only[za0];rw[P3 (Wu a),RJ (by unfold AH; omega) (by unfold AH; omega)];simp only[za0];by_cases hab:a<b
 ·rw[Ep (by omega)];simp only[show decide ((-1:Int)<0)=true from rfl,cond_true];rw[Nat.div_eq_of_lt hab,Nat.mod_eq_of_lt hab,Cp]
 have hc:decide (C3 (a:Int) b<0)=false:=by
  rcases Cf (a:Int) b with ⟨h,g⟩ | ⟨h,_⟩ | ⟨h,_⟩
  ·omega
  ·rw[h]; rfl
  ·rw[h]; rfl
 simp only[hc,cond_false];have hbl:(lim b).length≠0:=fun h=>hb0 (J0.1 (zb4 h))
 by_cases h1:(lim b).length=1
 ·obtain ⟨e1,e2,e3⟩:=A5a h1;rw[e1];simp only[List.length_singleton,show (((1:Nat):Int)==1)=true from rfl,cond_true];rw[show AP [(b:Int)] 0=some (b:Int) from rfl];simp only[za0];rw[A6I (by omega) (by omega)];simp only[za0,zc5]
 have hn1:((((lim b).length:Nat):Int)==1)=false:=beq_eq_false_iff_ne.2 (by omega);obtain ⟨m,hm⟩:∃ m,(lim b).length=m + 2:=⟨(lim b).length-2,by omega⟩;obtain ⟨t1,t2,t3,t4⟩:=Z7 hb0;rw[hm,show m + 2-1=m + 1 by omega] at t1 t2 t3 t4;generalize ht:dg (lim b) (m + 1)=t at *
 obtain ⟨s,hs1,hs2,hs3⟩:=Bo3 (a:=lim a) (b:=lim b) (m:=m + 1) (by omega) (by omega) ht t1 t2;obtain ⟨S,T,eS,eT,hST,hS,hT,hS2⟩:=Rq (show s<=16 by omega);have hSi:((S:Nat):Int)=2 ^ s:=by rw[eS]; simp
 obtain ⟨u,hu1,hu2,hu3,hu4⟩:=A9n (AO a) hs1 (by omega);obtain ⟨v,hv1,hv2,hv3,hv4⟩:=A9n (AO b) hs1 (by omega);rw[AE,<-hSi,<-zf0] at hu4 hv4;simp only[hn1,cond_false,hs3,za0,hu1,hv1];rw[Hy (by unfold AH; omega)];simp only[za0];rw[Cz hv2,hv4,zc5];have hBa:(a:Int)<B (lim a).length:=Ax.1 (za7 _);have lb:(lim (b*S)).length=m + 2:=by
  apply Nat.le_antisymm
  ·rw[Ax];rw[show ((b*S:Nat):Int)=(b:Int)*S by simp];rw[<-hSi] at hs2;have e1:(b:Int)*S<B (m + 1)*(t + 1)*S:=Int.mul_lt_mul_of_pos_right t4 (by omega);have hts:(t + 1)*(S:Int)<=65536:=by
    obtain ⟨d1,d2,d3,d4,d5,d6,d7,d8⟩:=Ah9 (S:=(S:Int)) (T:=(T:Int)) (by rw[<-zf0,hST]; rfl) (by omega) (by omega) (show 0<=t/\t<65536 by omega);have d9:t*S%65536=t*S:=Int.emod_eq_of_lt (ze9 (by omega) (by omega)) hs2;rw[Int.add_mul,Int.one_mul,<-d9,d1];exact d8
   have e2:B (m + 1)*((t + 1)*(S:Int))<=B (m + 1)*65536:=zb2 hts (ze3 (Hb _));have e3:B (m + 1)*(t + 1)*S=B (m + 1)*((t + 1)*(S:Int)):=Int.mul_assoc ..
   have e4:B (m + 2)=B (m + 1)*65536:=by simp only[B]; omega
   omega
  ·rw[<-hm,Ax];have h1:((b*S:Nat):Int)<B (lim (b*S)).length:=Ax.1 (za7 _);have:b*1<=b*S:=Nat.mul_le_mul_left _ (by omega);omega
 have hle:(lim b).length<=(lim a).length:=by rw[Ax]; omega
 have hbS0:b*S≠0:=Nat.mul_ne_zero hb0 (by omega);have htop:=(Z7 hbS0).1;rw[lb,show m + 2-1=m + 1 by omega] at htop;generalize hn:(lim a).length-(lim b).length + 1=n at *
 have w0:IntKind.wrap .i64 (((lim a).length:Int)-((lim b).length:Int))=(n:Int)-1:=by rw[Aj (by omega) (by omega)]; omega
 rw[w0,Aj (n:=(n:Int)-1 + 1) (by omega) (by omega),show (n:Int)-1 + 1=(n:Int) by omega,Jn (by unfold Ag; omega) (by unfold Ag; omega)];simp only[za0];have hless:val (u.drop n)<val (lim (b*S)):=by
  rw[AE];have h1:=Ch u n;have h2:=AZ (hu2.take n);rw[hu4] at h1;have h3:B n*val (u.drop n)<=((a*S:Nat):Int):=by omega
  have h4:((a*S:Nat):Int)<B (lim a).length*S:=by rw[zf0]; exact Int.mul_lt_mul_of_pos_right hBa (by omega)
  have h5:(lim a).length=n + (m + 1):=by omega
  rw[h5,UX] at h4;have h6:B (m + 1)*S<=((b*S:Nat):Int):=by
   rw[zf0];have:B (m + 1)*1<=B (m + 1)*t:=zb2 t1 (ze3 (Hb _));exact za9 (by omega) (by omega)
  have h7:B n*(val (u.drop n))<B n*(B (m + 1)*S):=by rw[<-Int.mul_assoc]; omega
  have h8:=Int.lt_of_mul_lt_mul_left h7 (ze3 (Hb n));omega
 obtain ⟨u',out,hp,P⟩:=A9b (bits:=(s:Int)) (AO (b*S)) lb htop (by omega) (Places.start2 (n:=n) hu2 (by omega) hless);rw[hp];simp only[za0];obtain ⟨p1,p2⟩:=P.end (AO _);rw[hu4,AE] at p1 p2;obtain ⟨q1,q2⟩:=Ao7 (a:=a) (b:=b) (c:=S) (by omega);have p1':val out=((a/b:Nat):Int):=by rw[p1,<-q1]; simp
 have p2':val u'=((a%b*S:Nat):Int):=by rw[p2,<-q2]; simp
 have hul:=P.len;have hol:=P.olen;rw[Hy (by unfold AH; omega)];simp only[za0];rw[Hy (by unfold AH; omega)];simp only[za0];rw[Cz P.lo,Cz P.lu,p1',p2',zc5,zc5,A9s (AO _) hs1 (by
  have:(lim (a%b*S)).length<=m + 2:=by
   rw[<-lb,Ax];have h1:((b*S:Nat):Int)<B (lim (b*S)).length:=Ax.1 (za7 _);have:=Nat.mul_lt_mul_of_pos_right (Nat.mod_lt a (show b>0 by omega)) (show S>0 by omega);omega
  omega),AE]
 simp only[za0];rw[<-hSi,zf0,Int.mul_ediv_cancel _ (by omega),zc5]
end
section
open Go
theorem HY (n:Nat):big (n:Int)=(false,lim n):=by unfold big; rw[decide_eq_false (by omega),Int.natAbs_natCast]
theorem AU9 (n:Nat):big (-(n:Int))=(decide (n≠0),lim n):=by unfold big; congr 1; exact decide_eq_decide.2 (by omega); congr 1; omega
theorem A1w (x y:Int):((!(decide (x<0)==decide (y<0)))&&decide (x.natAbs/y.natAbs≠0),lim (x.natAbs/y.natAbs))=big (x.tdiv y):=by
 rcases Int.lt_or_le x 0 with hx | hx
 ·obtain ⟨a,rfl⟩:∃ a:Nat,x = -(a:Int):=⟨x.natAbs,by omega⟩;rcases Int.lt_or_le y 0 with hy | hy
  ·obtain ⟨b,rfl⟩:∃ b:Nat,y = -(b:Int):=⟨y.natAbs,by omega⟩;rw[Int.neg_tdiv,Int.tdiv_neg,Int.neg_neg,<-Int.ofNat_tdiv,HY,decide_eq_true hx,decide_eq_true hy,Int.natAbs_neg,Int.natAbs_neg]; rfl
  ·obtain ⟨b,rfl⟩:∃ b:Nat,y=(b:Int):=⟨y.natAbs,by omega⟩;rw[Int.neg_tdiv,<-Int.ofNat_tdiv,AU9,decide_eq_true hx,decide_eq_false (show ¬(b:Int)<0 by omega),Int.natAbs_neg]; rfl
 ·obtain ⟨a,rfl⟩:∃ a:Nat,x=(a:Int):=⟨x.natAbs,by omega⟩;rcases Int.lt_or_le y 0 with hy | hy
  ·obtain ⟨b,rfl⟩:∃ b:Nat,y = -(b:Int):=⟨y.natAbs,by omega⟩;rw[Int.tdiv_neg,<-Int.ofNat_tdiv,AU9,decide_eq_false (show ¬(a:Int)<0 by omega),decide_eq_true hy,Int.natAbs_neg]; rfl
  ·obtain ⟨b,rfl⟩:∃ b:Nat,y=(b:Int):=⟨y.natAbs,by omega⟩;rw[<-Int.ofNat_tdiv,HY,decide_eq_false (show ¬(a:Int)<0 by omega),decide_eq_false (show ¬(b:Int)<0 by omega)]; rfl
theorem A1o (x y:Int):(decide (x<0)&&decide (x.natAbs%y.natAbs≠0),lim (x.natAbs%y.natAbs))=big (x.tmod y):=by
 have hy:x.tmod y=x.tmod (y.natAbs:Int):=by
  rcases Int.natAbs_eq y with h | h
  ·rw[<-h]
  ·rw[h,Int.tmod_neg,Int.natAbs_neg,Int.natAbs_natCast]
 rw[hy];rcases Int.lt_or_le x 0 with hx | hx
 ·obtain ⟨a,rfl⟩:∃ a:Nat,x = -(a:Int):=⟨x.natAbs,by omega⟩;rw[Int.neg_tmod,<-Int.ofNat_tmod,AU9,decide_eq_true hx,Int.natAbs_neg]; rfl
 ·obtain ⟨a,rfl⟩:∃ a:Nat,x=(a:Int):=⟨x.natAbs,by omega⟩;rw[<-Int.ofNat_tmod,HY,decide_eq_false (show ¬(a:Int)<0 by omega)]; rfl
theorem LE {a b:Nat} (h:a<=b):(lim a).length<=(lim b).length:=Ax.2 (Int.lt_of_le_of_lt (by omega) (Ax.1 (za7 (lim b).length)))
section
variable {x y:Int} {k:Nat}
theorem MF (hk:k<=90000) (hx:(x.natAbs:Int)<B k) (hy:(y.natAbs:Int)<B k) (h0:y≠0):FG (big x) (big y)=some (big (x.tdiv y),big (x.tmod y)):=by
 have lx:=ze6 (Ax.2 hx) hk;have ly:=ze6 (Ax.2 hy) hk;have l1:=LE (Nat.div_le_self x.natAbs y.natAbs);have l2:=LE (Nat.mod_le x.natAbs y.natAbs);unfold FG;rw[show (big x).2=lim x.natAbs from rfl,show (big y).2=lim y.natAbs from rfl,Ai0 (by omega) lx ly];simp only[za0];rw[IU (AO _) (by unfold AH; omega),IU (AO _) (by unfold AH; omega),AE,AE,zc5,zc5];simp only[za0];rw[show (big x).1=decide (x<0) from rfl,show (big y).1=decide (y<0) from rfl,A1w,A1o]
theorem AP7 (hk:k<=90000) (hx:(x.natAbs:Int)<B k) (hy:(y.natAbs:Int)<B k) (h0:y≠0):Ic (big x) (big y)=some (big (x.tdiv y),big (x.tmod y)):=by
 have lx:=ze6 (Ax.2 hx) hk;have ly:=ze6 (Ax.2 hy) hk;have l1:=LE (Nat.div_le_self x.natAbs y.natAbs);have l2:=LE (Nat.mod_le x.natAbs y.natAbs);unfold Ic;rw[show (big x).2=lim x.natAbs from rfl,show (big y).2=lim y.natAbs from rfl,VJ (by omega) lx ly];simp only[za0];rw[F7 (AO _) (by unfold AH; omega),F7 (AO _) (by unfold AH; omega),AE,AE,zc5,zc5];simp only[za0];rw[show (big x).1=decide (x<0) from rfl,show (big y).1=decide (y<0) from rfl,A1w,A1o]
end
theorem YT {b:Nat} (h:b≠0):decide ((((lim b).length:Nat):Int)>0)=true:=by rw[Ql,MI]; simp[h]
theorem A2A (s:Bool×List Int):∀ (n a b:Nat),b<n->(lim a).length<=90000->(lim b).length<=90000 ->
  Ah (fun (s:((Bool×(List Int))×((List Int)×(List Int))))=>IT s.1 s.2.1 s.2.2) (s,(lim a,lim b))=some (s,lim (Nat.gcd a b)):=by
 intro n
 induction n with
 | zero=>intro a b h; omega
 | succ n ih =>
  intro a b h ha hb;by_cases h0:b=0
  ·subst h0;rw[Nat.gcd_zero_right];refine Aq ?_
   unfold IT;rw[Cp];rfl
  ·have hm:=Nat.mod_lt a (show b>0 by omega);rw[AX (s':=(s,(lim b,lim (a%b))))]
   ·rw[ih b (a%b) (by omega) hb (ze6 (LE (Nat.mod_le _ _)) ha),Nat.gcd_comm b,<-Nat.gcd_rec,Nat.gcd_comm b]
   ·unfold IT
    dsimp only
    rw[YT h0,Ai0 h0 ha hb];rfl
theorem A2O:∀ (n a b:Nat),b<n->(lim a).length<=90000->(lim b).length<=90000 ->
  Ah (fun (s:((List Int)×(List Int)))=>Mg s.1 s.2) (lim a,lim b)=some (lim (Nat.gcd a b)):=by
 intro n
 induction n with
 | zero=>intro a b h; omega
 | succ n ih =>
  intro a b h ha hb;by_cases h0:b=0
  ·subst h0;rw[Nat.gcd_zero_right];refine Aq ?_
   unfold Mg;rw[Cp];rfl
  ·have hm:=Nat.mod_lt a (show b>0 by omega);rw[AX (s':=(lim b,lim (a%b)))]
   ·rw[ih b (a%b) (by omega) hb (ze6 (LE (Nat.mod_le _ _)) ha),Nat.gcd_comm b,<-Nat.gcd_rec,Nat.gcd_comm b]
   ·unfold Mg
    dsimp only
    rw[YT h0,VJ h0 ha hb];rfl
theorem A5j {a b:Nat} (ha:(lim a).length<=90000) (hb:(lim b).length<=90000):(lim (Nat.gcd a b)).length<=90000:=by
 by_cases h:a=0
 ·subst h; rw[Nat.gcd_zero_left]; exact hb
 ·exact ze6 (LE (Nat.gcd_le_left b (by omega))) ha
section
variable {x y:Int} {k:Nat}
theorem Ay9 (hk:k<=90000) (hx:(x.natAbs:Int)<B k) (hy:(y.natAbs:Int)<B k):G5 (big x) (big y)=some (big (Int.gcd x y:Nat)):=by
 have lx:=ze6 (Ax.2 hx) hk;have ly:=ze6 (Ax.2 hy) hk;have lg:=A5j lx ly;unfold G5;rw[show (big x).2=lim x.natAbs from rfl,show (big y).2=lim y.natAbs from rfl,A2A _ _ _ _ (Nat.lt_succ_self _) lx ly];simp only[za0];rw[IU (AO _) (by unfold AH; omega),AE,zc5,HY];rfl
theorem A4Q (hk:k<=90000) (hx:(x.natAbs:Int)<B k) (hy:(y.natAbs:Int)<B k):J8 (big x).2 (big y).2=some (lim (Int.gcd x y)):=by
 have lx:=ze6 (Ax.2 hx) hk;have ly:=ze6 (Ax.2 hy) hk;have lg:=A5j lx ly;unfold J8;rw[show (big x).2=lim x.natAbs from rfl,show (big y).2=lim y.natAbs from rfl,A2O _ _ _ (Nat.lt_succ_self _) lx ly];simp only[za0];rw[Hy (by unfold AH; omega)];simp only[za0];rw[P3 (Wu _)];rfl
end
theorem U1 {l:List Int} (neg:Bool) (hl:LB l) (hv:val l<=4611686018427387904) (hn:l.length<=1000) :
  Ah (fun (s:((Bool×(List Int))×(Int×Int)))=>FB s.1 s.2.1 s.2.2) ((neg,l),(0,(l.length:Int)-1))=some ((neg,l),val l):=by
 obtain ⟨n,h1,h2⟩:=MR (body:=fun (s:((Bool×(List Int))×(Int×Int)))=>FB s.1 s.2.1 s.2.2)
  (st:=fun k (b:Int)=>((neg,l),(b,(k:Int)-1))) (fin:=fun b=>((neg,l),b)) (I:=fun k b=>k<=l.length/\b=val (l.drop k))
  (by
   rintro k b ⟨hk,rfl⟩;have hkl:k<l.length:=by omega
   have hx:=Bh hl k;have e1:=CN l k;have e2:=AZ (hl.drop (k + 1));have e3:=Ch l k;have e4:=AZ (hl.take k);have e5:val (l.drop k)<=B k*val (l.drop k):=by
    have:=za9 (show 1<=B k by have:=Hb k; omega) (AZ (hl.drop k));omega
   refine ⟨val (l.drop k),?_,by omega,rfl⟩
   unfold FB
   dsimp only
   rw[decide_eq_true (by omega),show ((k + 1:Nat):Int)-1=(k:Int) by omega,An,As hkl];simp only[cond_true,za0];rw[Aj (n:=val (l.drop (k + 1))*65536) (by omega) (by omega),Aj (n:=val (l.drop (k + 1))*65536 + dg l k) (by omega) (by omega),Aj (n:=(k:Int)-1) (by omega) (by omega),e1,show val (l.drop (k + 1))*65536 + dg l k=dg l k + 65536*val (l.drop (k + 1)) by omega])
  (by
   rintro b _;unfold FB;rfl) l.length 0 ⟨za7 _,by rw[List.drop_length]; rfl⟩
 rw[ze8] at h2;rw[<-h2.2];exact h1
theorem AU2 {l:List Int} (neg:Bool) (hl:LB l) (hv:val l<=4611686018427387904) (hn:l.length<=1000) :
  Ah (fun (s:((Bool×(List Int))×(Int×Int)))=>LZ s.1 s.2.1 s.2.2) ((neg,l),(0,(l.length:Int)-1))=some ((neg,l),val l):=by
 have:(fun (s:((Bool×(List Int))×(Int×Int)))=>LZ s.1 s.2.1 s.2.2)=fun (s:((Bool×(List Int))×(Int×Int)))=>FB s.1 s.2.1 s.2.2:=by
  funext s; unfold LZ FB; rfl
 rw[this];exact U1 neg hl hv hn
def T8 (z:Int):Int×Bool:=if z.natAbs<=4611686018427387904 then (z,true) else (0,false)
theorem A4T (T:Nat):(big (T:Int)).2=lim T:=by rw[HY]
theorem A1t {z:Int} {T:Nat} (hT:T=4611686018427387904):T8 z=if z.natAbs<=T then (z,true) else (0,false):=by rw[hT]; rfl
theorem Bb5 {z:Int} {T:Nat} (hT:T=4611686018427387904) (hz:(z.natAbs:Int)<B 40):Ie (big z)=some (T8 z):=by
 have lz:=Ax.2 hz;have hB4:B 4=18446744073709551616:=rfl;rw[A1t hT];unfold Ie;rw[show (4611686018427387904:Int)=(T:Int) by omega];rw[Xe (by unfold big AH; dsimp only; omega),J4 hz,Z4 (by omega) (by omega)];simp only[za0,Bool.not_true,cond_false];rw[show (big z).2=lim z.natAbs from rfl,A4T,HJ (by unfold AH; omega) (by unfold AH; have:=@A1m T (by omega); omega)];simp only[za0];by_cases h:z.natAbs<=T
 ·have hc:decide (C3 (z.natAbs:Int) (T:Int)>0)=false:=by
   rcases Cf (z.natAbs:Int) (T:Int) with ⟨g,_⟩ | ⟨g,_⟩ | ⟨g,_⟩
   ·rw[g]; rfl
   ·omega
   ·rw[g]; rfl
  rw[hc,if_pos h,Aj (by omega) (by omega),show big z=(decide (z<0),lim z.natAbs) from rfl];simp only[cond_false];rw[U1 _ (AO _) (by rw[AE]; omega) (by omega),AE];simp only[za0];by_cases hn:z<0
  ·rw[decide_eq_true hn,Aj (by omega) (by omega)];simp only[cond_true];rw[show (0:Int)-(z.natAbs:Int)=z by omega]
  ·rw[decide_eq_false hn];simp only[cond_false];rw[show (z.natAbs:Int)=z by omega]
 ·have hc:decide (C3 (z.natAbs:Int) (T:Int)>0)=true:=by rw[Gn (by omega)]; rfl
  rw[hc,if_neg h];rfl
theorem A9f {z:Int} {T:Nat} (hT:T=4611686018427387904) (hz:(z.natAbs:Int)<B 40):J6 (big z)=some (T8 z):=by
 have lz:=Ax.2 hz;have hB4:B 4=18446744073709551616:=rfl;rw[A1t hT];unfold J6;rw[show (4611686018427387904:Int)=(T:Int) by omega];rw[Xl (by unfold big AH; dsimp only; omega),J4 hz,U4 (by omega) (by omega)];simp only[za0,Bool.not_true,cond_false];rw[show (big z).2=lim z.natAbs from rfl,A4T];by_cases h4:(lim z.natAbs).length>4
 ·rw[decide_eq_true (by omega)];have:¬z.natAbs<=T:=fun h=>by
   have:=@A1m z.natAbs (by omega);omega
  rw[if_neg this];rfl
 rw[decide_eq_false (by omega),RJ (by unfold AH; omega) (by unfold AH; have:=@A1m T (by omega); omega)];simp only[za0,cond_false];by_cases h:z.natAbs<=T
 ·have hc:decide (C3 (z.natAbs:Int) (T:Int)>0)=false:=by
   rcases Cf (z.natAbs:Int) (T:Int) with ⟨g,_⟩ | ⟨g,_⟩ | ⟨g,_⟩
   ·rw[g]; rfl
   ·omega
   ·rw[g]; rfl
  rw[hc,if_pos h,Aj (by omega) (by omega),show big z=(decide (z<0),lim z.natAbs) from rfl];simp only[cond_false];rw[AU2 _ (AO _) (by rw[AE]; omega) (by omega),AE];simp only[za0];by_cases hn:z<0
  ·rw[decide_eq_true hn,Aj (by omega) (by omega)];simp only[cond_true];rw[show (0:Int)-(z.natAbs:Int)=z by omega]
  ·rw[decide_eq_false hn];simp only[cond_false];rw[show (z.natAbs:Int)=z by omega]
 ·have hc:decide (C3 (z.natAbs:Int) (T:Int)>0)=true:=by rw[Gn (by omega)]; rfl
  rw[hc,if_neg h];rfl
theorem Bg5 {z:Int} (hz:(z.natAbs:Int)<B 40):Ie (big z)=some (T8 z):=Bb5 rfl hz
theorem Bf3 {z:Int} (hz:(z.natAbs:Int)<B 40):J6 (big z)=some (T8 z):=A9f rfl hz
end
section
open Go
section
variable {x y:Int} (hx:(x.natAbs:Int)<B 40) (hy:(y.natAbs:Int)<B 40)
include hx hy
end
section
variable {a b:Bool×List Int} (ha:AH a.2) (hb:AH b.2) (h:(GL a&&GL b)=false)
include ha hb h
end
end
section
open Go
end
section
open Go
def rq (q:Rat):(Bool×List Int)×(Bool×List Int):=(big q.num,big (q.den:Int))
theorem A9C {p q:Rat} (h:rq p=rq q):p=q:=by
 have h1:=A4A (congrArg Prod.fst h);have h2:=A4A (congrArg Prod.snd h);exact Rat.ext h1 (by exact_mod_cast h2)
theorem NN {x y:Int} (hy:y≠0):x.tdiv (if y<0 then -((Int.gcd x y:Nat):Int) else (Int.gcd x y:Nat))=(Rat.divInt x y).num/\y.tdiv (if y<0 then -((Int.gcd x y:Nat):Int) else (Int.gcd x y:Nat))=((Rat.divInt x y).den:Int):=by
 have d1:((Int.gcd x y:Nat):Int)∣x:=Int.gcd_dvd_left ..
 have d2:((Int.gcd x y:Nat):Int)∣y:=Int.gcd_dvd_right ..
 rw[Rat.num_divInt,Rat.den_divInt,if_neg hy,Int.gcd_comm y x];generalize Int.gcd x y=n at *
 obtain ⟨a,rfl⟩:=d1;obtain ⟨b,rfl⟩:=d2;have hn:n≠0:=by rintro rfl; simp at hy
 have hn':(n:Int)≠0:=by omega
 have hb:b≠0:=by rintro rfl; simp at hy
 have hsg:((n:Int)*b<0)↔b<0:=by
  constructor
  ·intro h;rcases Int.lt_or_le b 0 with g | g
   ·exact g
   ·exact absurd (ze9 (show (0:Int)<=(n:Int) by omega) g) (by omega)
  ·intro h; exact Int.mul_neg_of_pos_of_neg (by omega) h
 rw[Int.natAbs_mul,Int.natAbs_natCast,Nat.mul_div_cancel_left _ (by omega)];by_cases h:b<0
 ·rw[if_pos (hsg.2 h),Int.sign_eq_neg_one_of_neg (hsg.2 h),Int.tdiv_neg,Int.tdiv_neg,Int.mul_tdiv_cancel_left _ hn',Int.mul_tdiv_cancel_left _ hn',
   show (-1:Int)*((n:Int)*a)=(n:Int)*(-a) by rw[Int.mul_neg,Int.neg_mul,Int.one_mul],Int.mul_ediv_cancel_left _ hn']
  exact ⟨rfl,by omega⟩
 ·have h':¬(n:Int)*b<0:=fun g=>h (hsg.1 g)
  have hp : 0<(n:Int)*b:=by omega
  rw[if_neg h',Int.sign_eq_one_of_pos hp,Int.mul_tdiv_cancel_left _ hn',Int.mul_tdiv_cancel_left _ hn',Int.one_mul,Int.mul_ediv_cancel_left _ hn'];exact ⟨rfl,by omega⟩
def Sz (k:Nat) (q:Rat):Prop:=(q.num.natAbs:Int)<B k/\(q.den:Int)<B k
instance (k:Nat) (q:Rat):Decidable (Sz k q):=by unfold Sz; infer_instance
theorem Sz.mono {k m:Nat} {q:Rat} (h:Sz k q) (hkm:k<=m):Sz m q:=by
 have:=Kt hkm;unfold Sz at *
 omega
theorem Ro (x g:Int):(x.tdiv g).natAbs<=x.natAbs:=by rw[Int.natAbs_tdiv]; exact Nat.div_le_self _ _
theorem Wv {x y:Int} {k:Nat} (hx:(x.natAbs:Int)<B k) (hy:(y.natAbs:Int)<B k) (h0:y≠0):Sz k (Rat.divInt x y):=by
 obtain ⟨h1,h2⟩:=NN (x:=x) h0;have a1:=Ro x (if y<0 then -((Int.gcd x y:Nat):Int) else (Int.gcd x y:Nat));have a2:=Ro y (if y<0 then -((Int.gcd x y:Nat):Int) else (Int.gcd x y:Nat));rw[h1] at a1;rw[h2] at a2;unfold Sz;omega
theorem A8r (p q:Rat):p + q=Rat.divInt (p.num*q.den + q.num*p.den) ((p.den:Int)*(q.den:Int)):=by
 rw[Rat.add_def',<-Rat.divInt_ofNat,zf0]
theorem A8D (p q:Rat):p*q=Rat.divInt (p.num*q.num) ((p.den:Int)*(q.den:Int)):=by
 rw[Rat.mul_def',<-Rat.divInt_ofNat,zf0]
theorem A70 (p q:Rat):p/q=Rat.divInt (p.num*q.den) ((p.den:Int)*q.num):=by
 rw[Rat.div_def,Rat.inv_def]
 conv=>lhs; lhs; rw[<-Rat.num_divInt_den p]
 rw[Rat.divInt_mul_divInt]
theorem Js {x y:Int} {k m:Nat} (hx:(x.natAbs:Int)<B k) (hy:(y.natAbs:Int)<B m):((x*y).natAbs:Int)<B (k + m):=by
 rw[Int.natAbs_mul]; exact BA0 hx hy
theorem Bz7 {x y:Int} {k:Nat} (hx:(x.natAbs:Int)<B k) (hy:(y.natAbs:Int)<B k):((x + y).natAbs:Int)<B (k + 1):=by
 have h1:B (k + 1)=65536*B k:=by rw[UX,Int.mul_comm]; rfl
 have:=Hb k;omega
theorem CE {n:Nat} {k:Nat} (h:(n:Int)<B k):(((n:Int)).natAbs:Int)<B k:=by rw[Int.natAbs_natCast]; exact h
theorem Bc1 {x:Int} {k:Nat} (h:(x.natAbs:Int)<B k):((-x).natAbs:Int)<B k:=by rw[Int.natAbs_neg]; exact h
theorem upB {x:Int} {k m:Nat} (h:(x.natAbs:Int)<B k) (hkm:k<=m):(x.natAbs:Int)<B m:=Int.lt_of_lt_of_le h (Kt hkm)
section
variable {p q:Rat} {k m:Nat} (hp:Sz k p) (hq:Sz m q)
include hp hq
theorem LK:Sz (k + m) (p*q):=by
 rw[A8D];exact Wv (Js hp.1 hq.1) (Js (CE hp.2) (CE hq.2)) (by have:=p.den_nz; have:=q.den_nz; intro h; rcases Int.mul_eq_zero.1 h with h | h <;> omega)
theorem XF:((p.num*(q.den:Int) + q.num*(p.den:Int)).natAbs:Int)<B (k + m + 1) :=
 Bz7 (Js hp.1 (CE hq.2)) (by rw[Nat.add_comm]; exact Js hq.1 (CE hp.2))
theorem Ti:Sz (k + m + 1) (p + q):=by
 rw[A8r];exact Wv (XF hp hq) (upB (Js (CE hp.2) (CE hq.2)) (by omega)) (by have:=p.den_nz; have:=q.den_nz; intro h; rcases Int.mul_eq_zero.1 h with h | h <;> omega)
theorem AM0 (h0:q≠0):Sz (k + m) (p/q):=by
 rw[A70];exact Wv (Js hp.1 (CE hq.2)) (Js (CE hp.2) hq.1) (by
  have:=p.den_nz;have hn:q.num≠0:=fun h=>h0 (Rat.num_eq_zero.1 h)
  intro h; rcases Int.mul_eq_zero.1 h with h | h <;> omega)
end
theorem A3k {p:Rat} {k:Nat} (hp:Sz k p):Sz k (-p):=⟨Bc1 hp.1,hp.2⟩
theorem KO {p q:Rat} {k m:Nat} (hp:Sz k p) (hq:Sz m q):Sz (k + m + 1) (p-q):=by rw[Rat.sub_eq_add_neg]; exact Ti hp (A3k hq)
theorem B1:B 1=65536:=rfl
theorem AS1 {z:Int} {k:Nat} (h:(z.natAbs:Int)<B k) (hk : 1<=k):Sz k (z:Rat):=⟨h,by
 rw[Rat.den_intCast];have:=Kt hk;rw[B1] at this;omega⟩
def Vo (p q:Rat):Int:=if p<q then -1 else if q<p then 1 else 0
theorem A4u (p q:Rat):C3 (p.num*(q.den:Int)) (q.num*(p.den:Int))=Vo p q:=by
 unfold C3 Vo;simp only[Rat.lt_iff]
theorem A4E {p q:Rat}:Vo p q<0↔p<q:=by
 unfold Vo; split
 ·simp[*]
 ·split <;> simp[*]
theorem LW {p q:Rat} : 0<Vo p q↔q<p:=by
 unfold Vo; split
 ·rename_i h; simp; exact Rat.not_lt.2 (Rat.le_of_lt h)
 ·split <;> simp[*]
theorem YH {x d:Int} (hd : 0<d):(if x.tmod d<0 then x.tdiv d-1 else x.tdiv d)=x/d:=by
 have h1:=Int.mul_tdiv_add_tmod x d;have h2:=Int.natAbs_tmod x d;have h3:(x.tmod d).natAbs<d.natAbs:=by rw[h2]; exact Nat.mod_lt _ (by omega)
 have h4:x=(if x.tmod d<0 then x.tmod d + d else x.tmod d) + d*(if x.tmod d<0 then x.tdiv d-1 else x.tdiv d):=by
  split
  ·rw[Int.mul_sub]; omega
  ·omega
 conv=>rhs; rw[h4]
 rw[Int.add_mul_ediv_left _ _ (by omega),Int.ediv_eq_zero_of_lt (by split <;> omega) (by split <;> omega),Int.zero_add]
def Cr (a:(Bool×List Int)×(Bool×List Int)):Bool:=GL a.1&&GL a.2&&((!a.2.1 && !a.2.2.isEmpty)&&decide (Nat.gcd (val a.1.2).toNat (val a.2.2).toNat=1))
theorem Na {a:(Bool×List Int)×(Bool×List Int)}:Cr a=true↔∃ q:Rat,Sz 40 q/\a=rq q:=by
 unfold Cr;constructor
 ·intro h;simp only[za2,decide_eq_true_eq] at h;obtain ⟨⟨h1,h2⟩,⟨h3,h4⟩,h5⟩:=h;obtain ⟨x,hx,e1⟩:=IG.1 h1;obtain ⟨y,hy,e2⟩:=IG.1 h2;rw[e2] at h3 h4 h5;rw[e1] at h5;unfold big at h3 h4 h5;simp only[AE,zc5] at h5;simp only[Bool.not_eq_true',decide_eq_false_iff_not] at h3;simp only[Bool.not_eq_true'] at h4;have h6:y≠0:=by
   rintro rfl;rw[show (0:Int).natAbs=0 from rfl,Cp] at h4;simp at h4
  refine ⟨⟨x,y.natAbs,by omega,h5⟩,⟨hx,by show ((y.natAbs:Nat):Int)<B 40; exact hy⟩,?_⟩
  unfold rq;rw[<-e1];refine Prod.ext rfl ?_
  rw[e2];show big y=big ((y.natAbs:Nat):Int)
  congr 1
  omega
 ·rintro ⟨q,h,rfl⟩;unfold rq;have hd:=q.den_nz;have hb:=J4 h.1;have hb2:=J4 (CE h.2);simp only[hb,hb2,ze2];unfold big;simp only[AE,zc5,Int.natAbs_natCast,za2,decide_eq_true_eq,Bool.not_eq_true',decide_eq_false_iff_not];refine ⟨⟨by omega,?_⟩,q.reduced⟩
  have:=MI q.den;rw[decide_eq_true hd] at this;simpa using this
theorem U6 {q:Rat} (h:Sz 40 q):Cr (rq q)=true:=Na.2 ⟨q,h,rfl⟩
end
section
open Go
abbrev RF:=Bool×(List Int×(Bool×List Int))
def rqF (q:Rat):RF:=((big q.num).1,((big q.num).2,((big (q.den:Int)).1,(big (q.den:Int)).2)))
def zF:RF:=(false,([],(false,[])))
theorem Zz (q:Rat):((rqF q).1,(rqF q).2.1)=big q.num:=(rfl)
theorem As9 (q:Rat):((rqF q).2.2.1,(rqF q).2.2.2)=big (q.den:Int):=(rfl)
theorem SD (q:Rat):(rqF q).2.2=big (q.den:Int):=(rfl)
theorem A4 (a:RF):(a.1,(a.2.1,(a.2.2.1,a.2.2.2)))=a:=(rfl)
theorem A5b {x y:Int} {k:Nat} (hy:(y.natAbs:Int)<B k) (h0:y≠0):(((Int.gcd x y:Nat):Int).natAbs:Int)<B k:=by
 rw[Int.natAbs_natCast];have:Int.gcd x y<=y.natAbs:=Nat.le_of_dvd (by omega) (Nat.gcd_dvd_right ..);omega
theorem Bb0 {x y:Int} (h0:y≠0):((Int.gcd x y:Nat):Int)≠0:=by
 have : 0<Int.gcd x y:=Nat.gcd_pos_of_pos_right _ (by omega);omega
theorem Ik {x:Int} {k:Nat} (hk:k<=1000000) (h:(x.natAbs:Int)<B k):AH (big x).2:=by
 have:=Ax.2 h; unfold big AH; dsimp only; omega
theorem RD (x:Int) (s:Bool):(lim (val (big x).2).toNat,s&&decide ((val (big x).2).toNat≠0))=(lim x.natAbs,s&&decide (x≠0)):=by
 unfold big;simp only[AE,zc5]
 congr 2
 exact decide_eq_decide.2 (by omega)
theorem Wt {x:Int} {k:Nat} (hk:k<=1000000) (h:(x.natAbs:Int)<B k):Fq (big x)=some (big (-x)):=by
 unfold Fq;rw[IU (show LB (big x).2 from AO _) (Ik hk h),RD];simp only[za0]
 congr 1
 unfold big;simp only;refine Prod.ext ?_ (by simp)
 simp only;by_cases h0:x<0
 ·rw[decide_eq_true h0]; simp; omega
 ·rw[decide_eq_false h0]; simp only[Bool.not_false,ze2]; exact decide_eq_decide.2 (by omega)
theorem Aa0 {x:Int} {k:Nat} (hk:k<=1000000) (h:(x.natAbs:Int)<B k):Hd (big x)=some (big (-x)):=by
 unfold Hd;rw[F7 (show LB (big x).2 from AO _) (Ik hk h),RD];simp only[za0]
 congr 1
 unfold big;simp only;refine Prod.ext ?_ (by simp)
 simp only;by_cases h0:x<0
 ·rw[decide_eq_true h0]; simp; omega
 ·rw[decide_eq_false h0]; simp only[Bool.not_false,ze2]; exact decide_eq_decide.2 (by omega)
theorem A5z {x:Int} {k:Nat} (hk:k<=1000000) (h:(x.natAbs:Int)<B k):Bj (big x).1 (big x).2=some ((big x).2,(big x).1):=by
 rw[IU (show LB (big x).2 from AO _) (Ik hk h),RD]
 congr 1
 unfold big;simp only;refine Prod.ext rfl ?_
 simp only;by_cases h0:x<0
 ·rw[decide_eq_true h0]; simp; omega
 ·rw[decide_eq_false h0]; rfl
theorem ZV {n:Nat} {k:Nat} (hk:k<=1000000) (h:(n:Int)<B k):Bj false (big (n:Int)).2=some ((big (n:Int)).2,(big (n:Int)).1):=by
 have:=A5z (x:=(n:Int)) hk (CE h)
 rwa [show (big (n:Int)).1=false by rw[HY]] at this ⊢
theorem AJ1 {x:Int} {k:Nat} (hk:k<=1000000) (h:(x.natAbs:Int)<B k):Bs (big x).1 (big x).2=some ((big x).2,(big x).1):=by
 rw[F7 (show LB (big x).2 from AO _) (Ik hk h),RD]
 congr 1
 unfold big;simp only;refine Prod.ext rfl ?_
 simp only;by_cases h0:x<0
 ·rw[decide_eq_true h0]; simp; omega
 ·rw[decide_eq_false h0]; rfl
theorem AB2 {n:Nat} {k:Nat} (hk:k<=1000000) (h:(n:Int)<B k):Bs false (big (n:Int)).2=some ((big (n:Int)).2,(big (n:Int)).1):=by
 have:=AJ1 (x:=(n:Int)) hk (CE h)
 rwa [show (big (n:Int)).1=false by rw[HY]] at this ⊢
theorem AT9 {x y:Int} {k:Nat} (hk:k<=90000) (hx:(x.natAbs:Int)<B k) (hy:(y.natAbs:Int)<B k) (h0:y≠0):IA (big x) (big y)=some (rqF (Rat.divInt x y)):=by
 obtain ⟨p1,p2⟩:=NN (x:=x) h0;have hg:=A5b (x:=x) hy h0;have hg0:=Bb0 (x:=x) h0;unfold IA;simp only[A6,Ay9 hk hx hy,za0];rw[show (big y).1=decide (y<0) from rfl];by_cases hn:y<0
 ·rw[if_pos hn] at p1 p2;rw[decide_eq_true hn];simp only[cond_true,Wt (show k<=1000000 by omega) hg,za0,za8,MF hk hx (Bc1 hg) (by omega),MF hk hy (Bc1 hg) (by omega),p1,p2];rfl
 ·rw[if_neg hn] at p1 p2;rw[decide_eq_false hn];simp only[cond_false,za0,za8,MF hk hx hg hg0,MF hk hy hg hg0,p1,p2];rfl
theorem Af4 (q:Rat):(q.den:Int)≠0:=by have:=q.den_nz; omega
theorem Od (p q:Rat):(p.den:Int)*(q.den:Int)≠0:=fun h=>by rcases Int.mul_eq_zero.1 h with h | h <;> exact Af4 _ h
theorem A3v {x y:Int} {k:Nat} (hk:k<=1000000) (hx:(x.natAbs:Int)<B k) (hy:(y.natAbs:Int)<B k):HI (big x) (big y)=some (C3 x y):=by
 have lx:=GS hx hk;have ly:=GS hy hk;have e1:=RJ (a:=x.natAbs) (b:=y.natAbs) (by unfold AH; omega) (by unfold AH; omega);have e2:=RJ (a:=y.natAbs) (b:=x.natAbs) (by unfold AH; omega) (by unfold AH; omega);unfold HI;rw[show (big x).1=decide (x<0) from rfl,show (big y).1=decide (y<0) from rfl,show (big x).2=lim x.natAbs from rfl,show (big y).2=lim y.natAbs from rfl,e1,e2];by_cases h1:x<0
 ·by_cases h2:y<0
  ·rw[decide_eq_true h1,decide_eq_true h2];simp only[cond_true,cond_false,Bool.not_true,za0]
   congr 1
   rcases Cf x y with ⟨e,h⟩ | ⟨e,h⟩ | ⟨e,h⟩
   ·rw[e]; exact Ep (by omega)
   ·rw[e]; exact Gn (by omega)
   ·rw[e,h]; exact RG _
  ·rw[decide_eq_true h1,decide_eq_false h2,Ep (show x<y by omega)]; rfl
 ·by_cases h2:y<0
  ·rw[decide_eq_false h1,decide_eq_true h2,Gn (show y<x by omega)]; rfl
  ·rw[decide_eq_false h1,decide_eq_false h2];simp only[cond_true,cond_false,Bool.not_false,za0]
   congr 1
   rcases Cf x y with ⟨e,h⟩ | ⟨e,h⟩ | ⟨e,h⟩
   ·rw[e]; exact Ep (by omega)
   ·rw[e]; exact Gn (by omega)
   ·rw[e,h]; exact RG _
section
variable {p q:Rat} {k:Nat} (hk:k<=20000) (hp:Sz k p) (hq:Sz k q)
include hk hp hq
theorem Kf:CH (rqF p) (rqF q)=some (rqF (p + q)):=by
 obtain ⟨r1,a1,b1⟩:=D9 (k:=k) (by omega) hp.1 (CE hq.2);obtain ⟨r2,a2,b2⟩:=D9 (k:=k) (by omega) hq.1 (CE hp.2);obtain ⟨r3,a3,b3⟩:=D9 (k:=k) (by omega) (CE hp.2) (CE hq.2);unfold CH;simp only[Zz,As9,SD,a1,a2,a3,b1,b2,b3,za0];rw[Az2 (k:=k + k) (by omega) (Js hp.1 (CE hq.2)) (Js hq.1 (CE hp.2))];simp only[za0,A6];rw[AT9 (k:=k + k + 1) (by omega) (XF hp hq) (upB (Js (CE hp.2) (CE hq.2)) (by omega)) (Od p q),<-A8r];rfl
theorem Iy:Ck (rqF p) (rqF q)=some (rqF (p*q)):=by
 obtain ⟨r1,a1,b1⟩:=D9 (k:=k) (by omega) hp.1 hq.1;obtain ⟨r3,a3,b3⟩:=D9 (k:=k) (by omega) (CE hp.2) (CE hq.2);unfold Ck;simp only[Zz,As9,SD,a1,a3,b1,b3,za0];rw[AT9 (k:=k + k) (by omega) (Js hp.1 hq.1) (Js (CE hp.2) (CE hq.2)) (Od p q),<-A8D];rfl
theorem WR (h0:q≠0):FD (rqF p) (rqF q)=some (rqF (p/q)):=by
 obtain ⟨r1,a1,b1⟩:=D9 (k:=k) (by omega) hp.1 (CE hq.2);obtain ⟨r3,a3,b3⟩:=D9 (k:=k) (by omega) (CE hp.2) hq.1;unfold FD;simp only[Zz,As9,SD,a1,a3,b1,b3,za0];rw[AT9 (k:=k + k) (by omega) (Js hp.1 (CE hq.2)) (Js (CE hp.2) hq.1) (by
  intro h;rcases Int.mul_eq_zero.1 h with h | h
  ·exact Af4 _ h
  ·exact h0 (Rat.num_eq_zero.1 h)),<-A70]
 rfl
theorem AM2:Fj (rqF p) (rqF q)=some (Vo p q):=by
 obtain ⟨r1,a1,b1⟩:=D9 (k:=k) (by omega) hp.1 (CE hq.2);obtain ⟨r2,a2,b2⟩:=D9 (k:=k) (by omega) hq.1 (CE hp.2);unfold Fj;simp only[Zz,As9,SD,a1,a2,b1,b2,za0];rw[Uw (k:=k + k) (by omega) (Js hp.1 (CE hq.2)) (Js hq.1 (CE hp.2)),A4u];rfl
theorem Ft:CT (rqF p) (rqF q)=some (decide (p<q)):=by
 unfold CT;simp only[A4,AM2 hk hp hq,za0]
 congr 1
 exact decide_eq_decide.2 A4E
theorem OE:GJ (rqF p) (rqF q)=some (Vo p q):=by
 unfold GJ;simp only[Zz,As9,SD,JZ (k:=k) (by omega) hp.1 (CE hq.2),JZ (k:=k) (by omega) hq.1 (CE hp.2),za0,A6];rw[A3v (k:=k + k) (by omega) (Js hp.1 (CE hq.2)) (Js hq.1 (CE hp.2)),A4u];rfl
end
theorem A5R {q:Rat} {k:Nat} (hk:k<=1000000) (hq:Sz k q):Ji (rqF q)=some (rqF (-q)):=by
 unfold Ji;simp only[Zz,Wt hk hq.1,za0];rw[show (rqF q).2.2.2=(big (q.den:Int)).2 from rfl,ZV hk hq.2];rfl
theorem Rt {p q:Rat} {k:Nat} (hk:k<=20000) (hp:Sz k p) (hq:Sz k q):Ej (rqF p) (rqF q)=some (rqF (p-q)):=by
 unfold Ej;simp only[A4,A5R (k:=k) (by omega) hq,za0,Kf hk hp (A3k hq)];rw[Rat.sub_eq_add_neg]
theorem A38:Dr (1:Int)=some (big 1):=Z4 (by omega) (by omega)
theorem AZ8:DY (1:Int)=some (big 1):=U4 (by omega) (by omega)
theorem IJ {n:Int} (h1 : -9223372036854775808<=n) (h2:n<=9223372036854775807):Bc n=some (rqF (n:Rat)):=by
 unfold Bc;simp only[Z4 h1 h2,A38,za0];rfl
theorem Ry {n:Int} (h1 : -9223372036854775808<=n) (h2:n<=9223372036854775807):CA n=some (rqF (n:Rat)):=by
 unfold CA;simp only[U4 h1 h2,AZ8,za0];rfl
theorem A1e {k:Nat} (hk : 1<=k):(((1:Int).natAbs:Nat):Int)<B k:=by
 have:=Kt hk;rw[B1] at this;omega
theorem A2p {q:Rat} {k:Nat} (hk:k<=80000) (h1 : 1<=k) (hq:Sz k q):EV (rqF q)=some (big q.floor):=by
 have hd:=q.den_pos;have hf:=YH (x:=q.num) (d:=(q.den:Int)) (by omega);rw[<-Rat.floor_def] at hf;have ht:=upB (m:=k + 1) (k:=k) (x:=q.num.tdiv (q.den:Int)) (by have:=Ro q.num (q.den:Int); have:=hq.1; omega) (by omega);unfold EV FZ;simp only[Zz,As9,SD,MF (k:=k) (by omega) hq.1 (CE hq.2) (Af4 q),za0,A6,AU1];by_cases h:q.num.tmod (q.den:Int)<0
 ·rw[if_pos h] at hf;rw[Ep h];simp only[show decide ((-1:Int)<0)=true from rfl,cond_true,A38,za0,A6];unfold Mh;simp only[A6,Wt (k:=k + 1) (by omega) (A1e (by omega)),za0];rw[Az2 (k:=k + 1) (by omega) ht (by simpa using A1e (k:=k + 1) (by omega)),<-hf];simp only[za0,A6,Int.sub_eq_add_neg]
 ·rw[if_neg h] at hf;have:decide (C3 (q.num.tmod (q.den:Int)) 0<0)=false:=decide_eq_false (by rcases Cf (q.num.tmod (q.den:Int)) 0 with ⟨e,g⟩ | ⟨e,g⟩ | ⟨e,g⟩ <;> omega);rw[this,<-hf];rfl
def BrF (a:RF):Prop:=AH a.2.1/\AH a.2.2.2
def toQ (a:RF):(Bool×List Int)×(Bool×List Int):=((a.1,a.2.1),(a.2.2.1,a.2.2.2))
theorem A09 {q:Rat} {k:Nat} (hk:k<=1000000) (h:Sz k q):BrF (rqF q):=⟨Ik hk h.1,Ik hk (CE h.2)⟩
theorem Bf7 {y:Int}:(!(big y).1 && !(big y).2.isEmpty)=decide (0<y):=by
 unfold big;simp only;have:=MI y.natAbs;rw[this];by_cases h : 0<y
 ·rw[decide_eq_true h,decide_eq_false (by omega),decide_eq_true (by omega)]; rfl
 ·rw[decide_eq_false h];by_cases h0:y=0
  ·subst h0; rfl
  ·rw[decide_eq_true (show y<0 by omega)]; rfl
theorem AB7 {x y:Int} (hx:(x.natAbs:Int)<B 40) (hy:(y.natAbs:Int)<B 40):Cr (big x,big y)=(decide (0<y)&&decide (Int.gcd x y=1)):=by
 unfold Cr;simp only[J4 hx,J4 hy,ze2,Bf7];unfold big;simp only[AE,zc5];rfl
theorem Aq3 {g:Nat}:(C3 (g:Int) 1==0)=decide (g=1):=by
 rcases Cf (g:Int) 1 with ⟨e,h⟩ | ⟨e,h⟩ | ⟨e,h⟩
 ·rw[e,decide_eq_false (by omega)]; rfl
 ·rw[e,decide_eq_false (by omega)]; rfl
 ·rw[e,decide_eq_true (by omega)]; rfl
theorem AV1 (y:Int):((((big y).2.length:Nat):Int)==(0:Int))=decide (y=0):=by
 rw[Bool.eq_iff_iff];simp only[beq_iff_eq,decide_eq_true_eq];unfold big;constructor
 ·intro h;have:=J0.1 (zb4 (show (lim y.natAbs).length=0 by simpa using h));omega
 ·rintro rfl;rw[show (0:Int).natAbs=0 from rfl,Cp]; rfl
theorem A7g {a:RF} (h:BrF a):Jc a=some (Cr (toQ a)):=by
 obtain ⟨n,nl,d,dl⟩:=a;unfold Jc toQ;simp only;have hl:Id [(n,nl),(d,dl)]=some (GL (n,nl)&&GL (d,dl)):=by
  rw[Ba6 (by simp) (by intro b hb; simp at hb; rcases hb with rfl | rfl; exact h.1; exact h.2)];simp
 rw[hl];simp only[za0];cases hg:GL (n,nl)&&GL (d,dl) with
 | false=>unfold Cr; simp only[hg,Bool.false_and,cond_false]
 | true =>
  rw[za2] at hg;obtain ⟨x,hx,e1⟩:=IG.1 hg.1;obtain ⟨y,hy,e2⟩:=IG.1 hg.2;simp only[e1,e2,cond_true,AU1,za0,AB7 hx hy];rcases Cf y 0 with ⟨e,g⟩ | ⟨e,g⟩ | ⟨e,g⟩
  ·rw[e,decide_eq_false (show ¬ 0<y by omega)]; rfl
  ·rw[e,decide_eq_true (show 0<y by omega)];simp only[show decide ((1:Int)>0)=true from rfl,cond_true,Ay9 (k:=40) (by omega) hx hy,A38,za0,A6,ze2];rw[Uw (k:=40) (by omega) (A5b hy (by omega)) (A1e (by omega))];simp only[za0,Aq3]
  ·rw[e,decide_eq_false (show ¬ 0<y by omega)]; rfl
theorem AF8 {a:RF} (h:BrF a):GM a=some (Cr (toQ a)):=by
 obtain ⟨n,nl,d,dl⟩:=a;unfold GM toQ;simp only;rw[Xl h.1];simp only[za0];cases h1:GL (n,nl) with
 | false=>unfold Cr; simp only[h1,Bool.false_and,Bool.not_false,cond_true]
 | true =>
  simp only[Bool.not_true,cond_false];rw[Xl h.2];simp only[za0];cases h2:GL (d,dl) with
  | false=>unfold Cr; simp only[h1,h2,Bool.and_false,Bool.false_and,Bool.not_false,cond_true]
  | true =>
   obtain ⟨x,hx,e1⟩:=IG.1 h1;obtain ⟨y,hy,e2⟩:=IG.1 h2;have f1:nl=(big x).2:=congrArg Prod.snd e1;have f2:dl=(big y).2:=congrArg Prod.snd e2;have f3:d=(big y).1:=congrArg Prod.fst e2;simp only[Bool.not_true,cond_false];rw[e1,e2,AB7 hx hy,f3,show (big y).1=decide (y<0) from rfl];by_cases hy0:y<0
   ·rw[decide_eq_true hy0,decide_eq_false (show ¬ 0<y by omega)]; rfl
   ·rw[decide_eq_false hy0];simp only[cond_false];rw[f2,AV1];by_cases h0:y=0
    ·rw[decide_eq_true h0,decide_eq_false (show ¬ 0<y by omega)]; rfl
    ·rw[decide_eq_false h0,decide_eq_true (show 0<y by omega)];simp only[cond_false];rw[f1,A4Q (k:=40) (by omega) hx hy];simp only[za0];have hl1:([1]:List Int)=lim 1:=by rw[Aa4 (by omega),Cp]; rfl
     have hgb:=Ax.2 (show ((Int.gcd x y:Nat):Int)<B 40 by have:=A5b (x:=x) hy h0; rwa [Int.natAbs_natCast] at this);rw[hl1,RJ (by unfold AH; omega) (by rw[<-hl1]; unfold AH; simp)];simp only[za0,Aq3,ze2];exact congrArg some Aq3
theorem AF9 {l:List ((Bool×List Int)×(Bool×List Int))} (hl:l.length<=1000) (hb:∀ a∈l,AH a.1.2/\AH a.2.2):Fg l=some (l.all Cr):=by
 unfold Fg;obtain ⟨h1,h2⟩:=A8z (l:=l) (body:=fun (s:(List ((Bool×(List Int))×(Bool×(List Int))))×(Int×Int))=>IN s.1 s.2.1 s.2.2)
  (st:=fun k (_:Unit)=>(l,((l.length:Int),(k:Int)))) (step:=fun _ a=>if Cr a then .inr () else .inl (.inr false)) (fin:=fun _=>.inl ()) (I:=fun _ _=>True)
  (by
   rintro k b a hk _;have hkl:=EC hk;unfold IN;have ha:=hb a (za4 hk);simp only[decide_eq_true (show (k:Int)<(l.length:Int) by omega),cond_true,An,hk,za0];rw[A7g (a:=(a.1.1,(a.1.2,(a.2.1,a.2.2)))) ha];simp only[za0,toQ,A6];cases hg:Cr a with
   | true=>left; exact ⟨(),by simp,by simp only[Bool.not_true,cond_false]; rw[Aj (by omega) (by omega)]; rfl,trivial⟩
   | false=>right; exact ⟨.inr false,by simp,by simp only[Bool.not_false,cond_true]⟩)
  (by
   rintro b _;unfold IN;simp) () trivial
 rw[show ((0:Nat):Int)=0 from rfl] at h1;rw[h1];have key:∀ (m:List ((Bool×List Int)×(Bool×List Int))),Jb (ρ:=Unit ⊕ Bool) (fun (_:Unit) a=>if Cr a then .inr () else .inl (.inr false)) () m=if m.all Cr then .inr () else .inl (.inr false):=by
  intro m
  induction m with
  | nil=>rfl
  | cons a m ih =>
   unfold Jb;rw[zd0];cases hg:Cr a with
   | true=>simp only[if_true,ze2]; exact ih
   | false=>simp
 rw[key];cases l.all Cr <;> rfl
def SC (q:Rat):RF×Bool:=if Sz 40 q then (rqF q,true) else (zF,false)
theorem A5J {q:Rat} {n:Nat}:BT (rqF q) (n:Int)=some (decide (Sz n q)):=by
 unfold BT;have e1:((((rqF q).2.1.length:Nat):Int)<=(n:Int))↔((q.num.natAbs:Int)<B n):=by rw[<-Ax]; exact Int.ofNat_le
 have e2:((((rqF q).2.2.2.length:Nat):Int)<=(n:Int))↔((q.den:Int)<B n):=by
  have:(rqF q).2.2.2=lim q.den:=by show (big (q.den:Int)).2=_; rw[HY]
  rw[this,<-Ax]; exact Int.ofNat_le
 unfold Sz;by_cases h1:(q.num.natAbs:Int)<B n
 ·rw[decide_eq_true (e1.2 h1)];simp only[cond_true,decide_eq_decide.2 e2,h1,true_and]
 ·rw[decide_eq_false (fun h=>h1 (e1.1 h))];simp[h1]
theorem VR (q:Rat):D3 (rqF q)=some (SC q):=by
 unfold D3 SC;simp only[A4];rw[show (40:Int)=((40:Nat):Int) from rfl,A5J];by_cases h:Sz 40 q
 ·simp[h]
 ·simp[h]; rfl
end
section
open Go
theorem A5d {x y:Int} {k:Nat} (hk:k<=1000000) (hx:(x.natAbs:Int)<B k) (hy:(y.natAbs:Int)<B k):Ka (big x) (big y)=some (big (x + y)):=by
 have lx:=GS hx hk;have ly:=GS hy hk;unfold Ka big;simp only;by_cases hs:decide (x<0)=decide (y<0)
 ·rw[hs,beq_self_eq_true];obtain ⟨r,e1,e2,e3,e4,_⟩:=AO9 (AO x.natAbs) (AO y.natAbs) (by omega) (by omega);rw[AE,AE] at e3;simp only[cond_true,e1,za0];rw[F7 e2 (by unfold AH; omega)];simp only[za0];have hv:(val r).toNat=(x + y).natAbs:=by
   by_cases h1:x<0
   ·have:y<0:=by simpa[h1] using hs
    omega
   ·have:¬y<0:=by simpa[h1] using hs
    omega
  rw[hv]
  congr 2
  by_cases h2:y<0
  ·have h1:x<0:=by simpa[h2] using hs
   rw[decide_eq_true h2,decide_eq_true (show x + y<0 by omega),decide_eq_true (show (x + y).natAbs≠0 by omega)]; rfl
  ·have h1:¬x<0:=by simpa[h2] using hs
   rw[decide_eq_false h2,decide_eq_false (show ¬x + y<0 by omega)]; rfl
 ·have hb:(decide (x<0)==decide (y<0))=false:=by simpa using hs
  rw[hb];simp only[cond_false];rw[RJ (by unfold AH; omega) (by unfold AH; omega)];simp only[za0];have hxy:(x<0/\¬y<0)\/(¬x<0/\y<0):=by
   by_cases h1:x<0 <;> by_cases h2:y<0 <;> simp[h1,h2] at hs ⊢
  rcases ze0 x.natAbs y.natAbs with hlt | hge
  ·rw[Ep (by omega),decide_eq_false (by omega)];simp only[cond_false];have hl:(lim x.natAbs).length<=(lim y.natAbs).length:=Ax.2 (by have:=Ax.1 (za7 (lim y.natAbs).length); omega);rw[U7 (AO _) (AO _) hl (by omega) (by rw[AE,AE]; omega)];simp only[za0,AE];have e:((y.natAbs:Int)-(x.natAbs:Int)).toNat=(x + y).natAbs:=by omega
   rw[e,F7 (AO _) (by
    have:(lim (x + y).natAbs).length<=(lim y.natAbs).length:=Ax.2 (by have:=Ax.1 (za7 (lim y.natAbs).length); omega);unfold AH; omega)]
   simp only[za0,AE,zc5]
   congr 2
   by_cases h2:y<0
   ·rw[decide_eq_true h2,decide_eq_true (show x + y<0 by omega),decide_eq_true (show (x + y).natAbs≠0 by omega)]; rfl
   ·rw[decide_eq_false h2,decide_eq_false (show ¬x + y<0 by omega)]; rfl
  ·have hc:C3 (x.natAbs:Int) (y.natAbs:Int)>=0:=by unfold C3; rw[if_neg (by omega)]; split <;> omega
   rw[decide_eq_true hc];simp only[cond_true];have hl:(lim y.natAbs).length<=(lim x.natAbs).length:=Ax.2 (by have:=Ax.1 (za7 (lim x.natAbs).length); omega);rw[U7 (AO _) (AO _) hl (by omega) (by rw[AE,AE]; omega)];simp only[za0,AE];have e:((x.natAbs:Int)-(y.natAbs:Int)).toNat=(x + y).natAbs:=by omega
   rw[e,F7 (AO _) (by
    have:(lim (x + y).natAbs).length<=(lim x.natAbs).length:=Ax.2 (by have:=Ax.1 (za7 (lim x.natAbs).length); omega);unfold AH; omega)]
   simp only[za0,AE,zc5]
   congr 2
   by_cases h2:x<0
   ·rw[decide_eq_true h2];by_cases h3:x + y<0
    ·rw[decide_eq_true h3,decide_eq_true (show (x + y).natAbs≠0 by omega)]; rfl
    ·rw[decide_eq_false h3,decide_eq_false (show ¬(x + y).natAbs≠0 by omega)]; rfl
   ·rw[decide_eq_false h2,decide_eq_false (show ¬x + y<0 by omega)]; rfl
theorem V0 {x y : Int} {k : Nat} (hk : k <= 90000) (hx : (x.natAbs : Int) < B k) (hy : (y.natAbs : Int) < B k) (h0 : y ≠ 0) : FA (big x) (big y) = some (rqF (Rat.divInt x y)) := by
  obtain ⟨p1, p2⟩ := NN (x := x) h0;have hg := A5b (x := x) hy h0;have hg0 := Bb0 (x := x) h0;have hl : (lim (Int.gcd x y)).length <= k := Ax.2 (by rwa [Int.natAbs_natCast] at hg);unfold FA;rw [A4Q hk hx hy];simp only [za0];rw [F7 (AO _) (by unfold AH; omega), AE, zc5];simp only [za0, Bool.false_and];rw [<- HY];simp only [A6, AP7 hk hx hg hg0, AP7 hk hy hg hg0, za0];have t1 := Ro x (Int.gcd x y : Nat);have t2 := Ro y (Int.gcd x y : Nat);obtain ⟨c, hc⟩ : ((Int.gcd x y : Nat) : Int) ∣ y := Int.gcd_dvd_right ..
  have e2 : y.tdiv (Int.gcd x y : Nat) = c := by conv => lhs; lhs; rw [hc]
                                                 exact Int.mul_tdiv_cancel_left _ hg0
  have hsg : (y < 0) ↔ c < 0 := by
    have hp : (0 : Int) < (Int.gcd x y : Nat) := by omega
    generalize ((Int.gcd x y : Nat) : Int) = g at *
    constructor
    · intro h
      rcases Int.lt_or_le c 0 with e | e
      · exact e
      · have := ze9 (ze3 hp) e; omega
    · intro h; have := Int.mul_neg_of_pos_of_neg hp h; omega
  rw [show (big (y.tdiv (Int.gcd x y : Nat))).1 = decide (y.tdiv (Int.gcd x y : Nat) < 0) from rfl];by_cases hn : y < 0
  · rw [if_pos hn, Int.tdiv_neg] at p1 p2
    rw [decide_eq_true (by rw [e2]; exact hsg.1 hn)];simp only [cond_true];rw [Aa0 (show k <= 1000000 by omega) (by omega), Aa0 (show k <= 1000000 by omega) (by omega)];simp only [za0, p1, p2];rfl
  · rw [if_neg hn] at p1 p2
    rw [decide_eq_false (by rw [e2]; exact fun h => hn (hsg.2 h))];simp only [cond_false, p1, p2];rfl
theorem Bg9 {q:Rat} {k:Nat} (hk:k<=1000000) (hq:Sz k q):MK (rqF q)=some (rqF (-q)):=by
 unfold MK;simp only[Zz,Aa0 hk hq.1,za0];rfl
section
variable {p q:Rat} {k:Nat} (hk:k<=20000) (hp:Sz k p) (hq:Sz k q)
include hk hp hq
theorem UY:FW (rqF p) (rqF q)=some (rqF (p + q)):=by
 unfold FW;simp only[Zz,As9,SD,JZ (k:=k) (by omega) hp.1 (CE hq.2),JZ (k:=k) (by omega) hq.1 (CE hp.2),JZ (k:=k) (by omega) (CE hp.2) (CE hq.2),za0,A6];rw[A5d (k:=k + k) (by omega) (Js hp.1 (CE hq.2)) (Js hq.1 (CE hp.2))];simp only[za0,A6];rw[V0 (k:=k + k + 1) (by omega) (XF hp hq) (upB (Js (CE hp.2) (CE hq.2)) (by omega)) (Od p q),<-A8r];rfl
theorem ZW:He (rqF p) (rqF q)=some (rqF (p*q)):=by
 unfold He;simp only[Zz,As9,SD,JZ (k:=k) (by omega) hp.1 hq.1,JZ (k:=k) (by omega) (CE hp.2) (CE hq.2),za0,A6];rw[V0 (k:=k + k) (by omega) (Js hp.1 hq.1) (Js (CE hp.2) (CE hq.2)) (Od p q),<-A8D];rfl
theorem A44 (h0:q≠0):Kc (rqF p) (rqF q)=some (rqF (p/q)):=by
 unfold Kc;simp only[Zz,As9,SD,JZ (k:=k) (by omega) hp.1 (CE hq.2),JZ (k:=k) (by omega) (CE hp.2) hq.1,za0,A6];rw[V0 (k:=k + k) (by omega) (Js hp.1 (CE hq.2)) (Js (CE hp.2) hq.1) (by
  intro h;rcases Int.mul_eq_zero.1 h with h | h
  ·exact Af4 _ h
  ·exact h0 (Rat.num_eq_zero.1 h)),<-A70]
 rfl
end
theorem ZS {p q:Rat} {k:Nat} (hk:k<=20000) (hp:Sz k p) (hq:Sz k q):GX (rqF p) (rqF q)=some (rqF (p-q)):=by
 unfold GX;simp only[A4,Bg9 (k:=k) (by omega) hq,za0,UY hk hp (A3k hq)];rw[Rat.sub_eq_add_neg]
theorem Bh3 {x y:Int} {k:Nat} (hk:k<=900000) (hx:(x.natAbs:Int)<B k) (hy:(y.natAbs:Int)<B k):MQ (big x) (big y)=some (big (x-y)):=by
 unfold MQ;simp only[A6,Aa0 (k:=k) (by omega) hy,za0];rw[A5d (k:=k) (by omega) hx (Bc1 hy)];simp only[za0,A6,Int.sub_eq_add_neg]
theorem A6p {q:Rat} {k:Nat} (hk:k<=80000) (h1 : 1<=k) (hq:Sz k q):IX (rqF q)=some (big q.floor):=by
 have hd:=q.den_pos;have hf:=YH (x:=q.num) (d:=(q.den:Int)) (by omega);rw[<-Rat.floor_def] at hf;have ht:=upB (m:=k + 1) (k:=k) (x:=q.num.tdiv (q.den:Int)) (by have:=Ro q.num (q.den:Int); have:=hq.1; omega) (by omega);unfold IX;simp only[Zz,As9,SD,AP7 (k:=k) (by omega) hq.1 (CE hq.2) (Af4 q),za0,A6];rw[show (big (q.num.tmod (q.den:Int))).1=decide (q.num.tmod (q.den:Int)<0) from rfl];by_cases h:q.num.tmod (q.den:Int)<0
 ·rw[if_pos h] at hf;rw[decide_eq_true h];simp only[cond_true,AZ8,za0,A6];rw[Bh3 (k:=k + 1) (by omega) ht (A1e (by omega)),<-hf];rfl
 ·rw[if_neg h] at hf;rw[decide_eq_false h,<-hf];rfl
theorem VQ {q:Rat} {k:Nat} (hk:k<=1000000) (hq:Sz k q):Et (rqF q)=some (SC q):=by
 unfold Et SC;have e1:((((rqF q).2.1.length:Nat):Int)>40)↔¬((q.num.natAbs:Int)<B 40):=by
  rw[<-Ax];show ((((lim q.num.natAbs).length:Nat):Int)>40)↔_;omega
 have e2:((((rqF q).2.2.2.length:Nat):Int)>40)↔¬((q.den:Int)<B 40):=by
  rw[<-Ax];have:(rqF q).2.2.2=lim q.den:=by show (big (q.den:Int)).2=_; rw[HY]
  rw[this];omega
 by_cases h1:(q.num.natAbs:Int)<B 40
 ·rw[decide_eq_false (fun h=>e1.1 h h1)];by_cases h2:(q.den:Int)<B 40
  ·rw[decide_eq_false (fun h=>e2.1 h h2),if_pos ⟨h1,h2⟩];simp only[cond_false];rw[show (rqF q).1=(big q.num).1 from rfl,show (rqF q).2.1=(big q.num).2 from rfl,show (rqF q).2.2.2=(big (q.den:Int)).2 from rfl,AJ1 (k:=40) (by omega) h1,AB2 (k:=40) (by omega) h2];rfl
  ·rw[decide_eq_true (e2.2 h2),if_neg (fun h=>h2 h.2)]; rfl
 ·rw[decide_eq_true (e1.2 h1),if_neg (fun h=>h1 h.1)]; rfl
theorem Kg {q:Rat} (h:Sz 40 q):SC q=(rqF q,true):=if_pos h
theorem RY {q:Rat} (h:¬Sz 40 q):SC q=(zF,false):=if_neg h
section
variable {p q:Rat} (hp:Sz 40 p) (hq:Sz 40 q)
include hp hq
end
section
variable {a b:RF} (ha:BrF a) (hb:BrF b) (h:(Cr (toQ a)&&Cr (toQ b))=false)
include ha hb h
end
end
section
open Go
def ShF (a:RF):Prop:=a.2.1.length<=100/\a.2.2.2.length<=100
theorem ShF.br {a:RF} (h:ShF a):BrF a:=by unfold ShF at h; unfold BrF AH; omega
end
section
open Go
end
section
open Go
end
section
open Go
abbrev Q2:=Rat×Rat
def crd (b:Bool) (p:Q2):Rat:=if b then p.2 else p.1
def ins (b high:Bool) (s:Rat) (p:Q2):Bool:=if high then decide (s<=crd b p) else decide (crd b p<=s)
def Ax1 (a c:Q2) (t:Rat):Q2:=(a.1 + t*(c.1-a.1),a.2 + t*(c.2-a.2))
def AX3 (b:Bool) (s:Rat) (a c:Q2):Q2:=Ax1 a c ((s-crd b a)/(crd b c-crd b a))
def Sv (b high:Bool) (s:Rat) (a c:Q2):List Q2:=(if ins b high s a=ins b high s c then [] else [AX3 b s a c])++(if ins b high s c then [c] else [])
def Dd (b high:Bool) (s:Rat):Q2->List Q2->List Q2
 | _,[]=>[]
 | a,c::l=>Sv b high s a c++Dd b high s c l
def Nk (l:List Q2):Q2:=l.getLast?.getD (0,0)
def Gb (b high:Bool) (s:Rat) (l:List Q2):List Q2:=Dd b high s (Nk l) l
def crs (p q:Q2):Rat:=p.1*q.2-q.1*p.2
def chn (f:Q2->Q2->Rat):Q2->List Q2->Rat
 | _,[]=>0
 | a,c::l=>f a c + chn f c l
def MZ (l:List Q2):Rat:=chn crs (Nk l) l
theorem Bn5 {b:Bool} {s:Rat} {a c:Q2} (h:crd b c≠crd b a):crd b (AX3 b s a c)=s:=by
 have hd:crd b c-crd b a≠0:=fun e=>h (by grind)
 have hm:=Rat.div_mul_cancel hd (a:=s-crd b a);unfold AX3 Ax1;cases b with
 | true =>
  unfold crd at *
  simp at *
  rw[hm]; grind
 | false =>
  unfold crd at *
  simp at *
  rw[hm]; grind
theorem A2T {b high:Bool} {s:Rat} {a c:Q2} (h:ins b high s a≠ins b high s c):crd b c≠crd b a:=by
 intro e
 apply h
 unfold ins;rw[e]
theorem A8n {b:Bool} {s:Rat} {p:Q2}:ins b false s p=decide (crd b p<=s):=rfl
theorem A7M {b:Bool} {s:Rat} {p:Q2}:ins b true s p=decide (s<=crd b p):=rfl
def A10:Q2->List Q2->Q2
 | a,[]=>a
 | _,c::l=>A10 c l
theorem Ah6 (f:Q2->Q2->Rat):∀ (a:Q2) (l m:List Q2),chn f a (l++m)=chn f a l + chn f (A10 a l) m
 | a,[],m=>by simp[chn,A10,Rat.zero_add]
 | a,c::l,m=>by
  rw[List.cons_append,chn,chn,Ah6 f c l m,A10,Rat.add_assoc]
theorem AE7 (a:Q2):∀ (l:List Q2),l≠[]->A10 a l=Nk l
 | [],h=>absurd rfl h
 | [c],_=>rfl
 | c::d::l,_=>by
  rw[A10,AE7 c (d::l) (by simp)];unfold Nk;rw[List.getLast?_cons_cons]
theorem A7k {l:List Q2} (h:l≠[]):Nk l∈l:=by
 unfold Nk;cases hl:l.getLast? with
 | none=>exact absurd (List.getLast?_eq_none_iff.1 hl) h
 | some x=>exact List.mem_of_getLast? hl
theorem A9q (f:Q2->Q2->Rat) (a:Q2) (l:List Q2) (c:Q2):chn f a (l ++ [c])=chn f a l + f (A10 a l) c:=by
 rw[Ah6]; simp only[chn]; grind
end
section
open Go
abbrev SF:=Bool×(List Int×(Bool×(List Int×(Bool×(List Int×(Bool×List Int))))))
abbrev RQ:=(Bool×List Int)×(Bool×List Int)
abbrev RPt:=RQ×RQ
def fl (x:RPt):SF:=(x.1.1.1,(x.1.1.2,(x.1.2.1,(x.1.2.2,(x.2.1.1,(x.2.1.2,x.2.2))))))
def un (s:SF):RPt:=(((s.1,s.2.1),(s.2.2.1,s.2.2.2.1)),((s.2.2.2.2.1,s.2.2.2.2.2.1),s.2.2.2.2.2.2))
def fx (x:RPt):RF:=(x.1.1.1,(x.1.1.2,x.1.2))
def fy (x:RPt):RF:=(x.2.1.1,(x.2.1.2,x.2.2))
theorem A6O (x:RPt):(x.1.1.1,(x.1.1.2,(x.1.2.1,(x.1.2.2,(x.2.1.1,(x.2.1.2,x.2.2))))))=fl x:=(rfl)
theorem A3O (s:SF):(((s.1,s.2.1),(s.2.2.1,s.2.2.2.1)),((s.2.2.2.2.1,s.2.2.2.2.2.1),s.2.2.2.2.2.2))=un s:=(rfl)
theorem Bc3 (x:RPt):(x.1.1.1,(x.1.1.2,x.1.2))=fx x:=(rfl)
theorem Bd8 (x:RPt):(x.2.1.1,(x.2.1.2,x.2.2))=fy x:=(rfl)
theorem Aj7 (x:RPt):un (fl x)=x:=(rfl)
theorem TC (x:RPt):((fl x).1,((fl x).2.1,((fl x).2.2.1,(fl x).2.2.2.1)))=fx x:=(rfl)
theorem Tw (x:RPt):(fl x).2.2.2.2=fy x:=(rfl)
def rp (p:Q2):RPt:=(rq p.1,rq p.2)
theorem JI (p:Q2):fx (rp p)=rqF p.1:=(rfl)
theorem JK (p:Q2):fy (rp p)=rqF p.2:=(rfl)
def shQ (n:Nat) (a:RF):Bool:=decide (a.2.1.length<=n)&&decide (a.2.2.2.length<=n)
def Gu (x:RPt):Bool:=(Cr x.1&&Cr x.2)&&(shQ 8 (fx x)&&shQ 8 (fy x))
def BrP (x:RPt):Prop:=BrF (fx x)/\BrF (fy x)
def SzP (k:Nat) (p:Q2):Prop:=Sz k p.1/\Sz k p.2
theorem SzP.mono {k m:Nat} {p:Q2} (h:SzP k p) (hkm:k<=m):SzP m p:=⟨h.1.mono hkm,h.2.mono hkm⟩
theorem Zf {q:Rat} {n:Nat} (hn:n<=100):shQ n (rqF q)=decide (Sz n q):=by
 unfold shQ;rw[<-Bool.decide_and];refine decide_eq_decide.2 ?_
 unfold Sz;have h1:=@Ax q.num.natAbs n;have h2:=@Ax q.den n;have e2:(rqF q).2.2.2=lim q.den:=by show (big (q.den:Int)).2=_; rw[HY]
 rw[e2,<-h2,<-h1];rfl
theorem A28 (x:RPt):toQ (fx x)=x.1:=(rfl)
theorem A3A (x:RPt):toQ (fy x)=x.2:=(rfl)
theorem SK {x:RPt}:Gu x=true↔∃ p,SzP 8 p/\x=rp p:=by
 constructor
 ·intro h;unfold Gu at h;simp only[za2] at h;obtain ⟨⟨h1,h2⟩,h3,h4⟩:=h;obtain ⟨a,ha,e1⟩:=Na.1 h1;obtain ⟨c,hc,e2⟩:=Na.1 h2;have exy:x=(rq a,rq c):=by rw[<-e1,<-e2]
  have ex:fx x=rqF a:=by rw[exy]; rfl
  have ey:fy x=rqF c:=by rw[exy]; rfl
  rw[ex,Zf (by omega)] at h3;rw[ey,Zf (by omega)] at h4;exact ⟨(a,c),⟨of_decide_eq_true h3,of_decide_eq_true h4⟩,by unfold rp; rw[<-e1,<-e2]⟩
 ·rintro ⟨p,hp,rfl⟩;unfold Gu;rw[JI,JK,Zf (by omega),Zf (by omega),decide_eq_true hp.1,decide_eq_true hp.2,Bool.and_true,Bool.and_true,za2];exact ⟨U6 (hp.1.mono (by omega)),U6 (hp.2.mono (by omega))⟩
def H9 (l:List RPt):Bool:=decide (l.length<=40)&&l.all Gu
def SzR (ps:List Q2):Prop:=ps.length<=40/\∀ p∈ps,SzP 8 p
theorem A7q {l:List RPt}:H9 l=true↔∃ ps:List Q2,SzR ps/\l=ps.map rp:=by
 unfold H9;rw[za2,decide_eq_true_eq];constructor
 ·rintro ⟨h1,h2⟩;have key:∀ l:List RPt,l.all Gu=true->∃ ps:List Q2,(∀ p∈ps,SzP 8 p)/\l=ps.map rp:=by
   intro l
   induction l with
   | nil=>intro _; exact ⟨[],by simp,rfl⟩
   | cons x l ih =>
    intro h;rw[zd0,za2] at h;obtain ⟨p,hp,e⟩:=SK.1 h.1;obtain ⟨ps,hps,e2⟩:=ih h.2;refine ⟨p::ps,?_,by rw[zb9,<-e,<-e2]⟩
    intro q hq;rcases zc8.1 hq with rfl | hq
    ·exact hp
    ·exact hps q hq
  obtain ⟨ps,hps,e⟩:=key l h2;exact ⟨ps,⟨by rw[e,zd1] at h1; exact h1,hps⟩,e⟩
 ·rintro ⟨ps,⟨h1,h2⟩,rfl⟩;refine ⟨by rw[zd1]; exact h1,?_⟩
  rw[za5];intro x hx;obtain ⟨p,hp,rfl⟩:=zd4.1 hx;exact SK.2 ⟨p,h2 p hp,rfl⟩
theorem NI (a:RF) (n:Nat):BT a (n:Int)=some (shQ n a):=by
 unfold BT shQ;by_cases h:a.2.1.length<=n
 ·rw[decide_eq_true (show ((a.2.1.length:Nat):Int)<=(n:Int) by omega),cT,decide_eq_true h,ze2]
  congr 1
  exact decide_eq_decide.2 (by omega)
 ·rw[decide_eq_false (show ¬((a.2.1.length:Nat):Int)<=(n:Int) by omega),cF,decide_eq_false h,Bool.false_and]
theorem A4N {x:RPt} (h:BrP x):FO (fl x) 8=some (Gu x):=by
 have hl:Fg [x.1,x.2]=some (Cr x.1&&Cr x.2):=by
  rw[AF9 (by simp) (by
   intro a ha;simp at ha;rcases ha with rfl | rfl
   ·exact h.1
   ·exact h.2)]
  simp
 have e:((((fl x).1,(fl x).2.1),((fl x).2.2.1,(fl x).2.2.2.1)):RQ)=x.1:=rfl;have e':((((fl x).2.2.2.2.1,(fl x).2.2.2.2.2.1),(fl x).2.2.2.2.2.2):RQ)=x.2:=rfl;unfold FO Gu;simp only[A6];rw[e,e',hl,obs];have s1:=NI (fx x) 8;have s2:=NI (fy x) 8;rw[show ((8:Nat):Int)=8 from rfl] at s1 s2;cases hg:Cr x.1&&Cr x.2 with
 | false=>rfl
 | true =>
  rw[cT]
  try simp only[TC,Tw]
  rw[s1,obs,ze2];cases shQ 8 (fx x) with
  | false=>rfl
  | true=>rw[cT,s2,obs,ze2]
theorem Da {l:List RPt} (hl:l.length<=100000) (hb:∀ x∈l,BrP x):DD l=some (H9 l):=by
 have hc:A1 l=some (!(l.all Gu)):=by
  unfold A1 Bx;have key:=Ls (body:=fun (s:((List RPt)×(Int×Int)))=>AG s.1 s.2.1 s.2.2) (l:=l) (st:=fun k=>(l,(l.length:Int),(k:Int))) (p:=Gu) (fin:=.inl ()) (bad:=fun k=>.inr (k:Int))
   (fun k a hk hp=>by
    have:=EC hk;show AG l (l.length:Int) (k:Int)=_;unfold AG Fd;simp only[IM hk,cT,An,hk,obs,A6];rw[A6O,A4N (hb a (za4 hk)),obs,hp,obs,nT,cF,AM (by omega)])
   (fun k a hk hp=>by
    show AG l (l.length:Int) (k:Int)=_;unfold AG Fd;simp only[IM hk,cT,An,hk,obs,A6];rw[A6O,A4N (hb a (za4 hk)),obs,hp,obs,nF,cT])
   (by
    show AG l (l.length:Int) (l.length:Int)=_;unfold AG; simp only[Vj,cF])
  rw[show ((0:Nat):Int)=0 from rfl] at key;cases hall:l.all Gu with
  | true=>rw[key.1 hall]; rfl
  | false =>
   obtain ⟨k,_,h⟩:=key.2 hall;rw[h];simp only[za0,za8];have:decide ((k:Int)>=0)=true:=by simp
   rw[this]; rfl
 unfold DD H9;by_cases h:l.length<=40
 ·rw[decide_eq_true (by omega),cT,hc,obs,decide_eq_true h,Bool.not_not,ze2]
 ·rw[decide_eq_false (by omega),cF,decide_eq_false h,Bool.false_and]
theorem RL {a:RF} (h:BrF a):GR a=some (Cr (toQ a)&&shQ 8 a):=by
 unfold GR shQ;simp only[A4,A6];by_cases h1:a.2.1.length<=8
 ·rw[decide_eq_true (by omega),cT,decide_eq_true h1,ze2];by_cases h2:a.2.2.2.length<=8
  ·rw[decide_eq_true (by omega),cT,decide_eq_true h2,Bool.and_true,AF8 h,obs]
  ·rw[decide_eq_false (by omega),cF,decide_eq_false h2,Bool.and_false]
 ·rw[decide_eq_false (by omega),cF,decide_eq_false h1,Bool.false_and,Bool.and_false]
theorem Ao1 {a:RF} (h:BrF a):FQ a=some (Cr (toQ a)&&shQ 2 a):=by
 unfold FQ shQ;simp only[A4,A6];by_cases h1:a.2.1.length<=2
 ·rw[decide_eq_true (by omega),cT,decide_eq_true h1,ze2];by_cases h2:a.2.2.2.length<=2
  ·rw[decide_eq_true (by omega),cT,decide_eq_true h2,Bool.and_true,AF8 h,obs]
  ·rw[decide_eq_false (by omega),cF,decide_eq_false h2,Bool.and_false]
 ·rw[decide_eq_false (by omega),cF,decide_eq_false h1,Bool.false_and,Bool.and_false]
theorem Gx {l:List RPt} (hl:l.length<=100000) (hb:∀ x∈l,BrP x):FU l=some (H9 l):=by
 have key:=Ls (body:=fun (s:((List RPt)×((List RPt)×(Int×Int))))=>CG s.1 s.2.1 s.2.2.1 s.2.2.2) (l:=l) (st:=fun k=>(l,l,(l.length:Int),(k:Int))) (p:=Gu) (fin:=.inl l) (bad:=fun k=>.inr false)
  (fun k a hk hp=>by
   have:=EC hk;have hba:=hb a (za4 hk);unfold Gu at hp;simp only[za2] at hp;show CG l l (l.length:Int) (k:Int)=_;unfold CG;simp only[IM hk,cT,An,hk,obs,A6];rw[Bc3,Bd8,RL hba.1,obs,A28,hp.1.1,hp.2.1,Bool.and_self,nT,cF,RL hba.2,obs,A3A,hp.1.2,hp.2.2,Bool.and_self,nT,cF,AM (by omega)])
  (fun k a hk hp=>by
   have hba:=hb a (za4 hk);show CG l l (l.length:Int) (k:Int)=_;unfold CG;simp only[IM hk,cT,An,hk,obs,A6];rw[Bc3,Bd8,RL hba.1,obs,A28];cases h1:Cr a.1&&shQ 8 (fx a) with
   | false=>rw[nF,cT]
   | true =>
    have h2:(Cr a.2&&shQ 8 (fy a))=false:=by
     unfold Gu at hp;rw[za2] at h1;rw[h1.1,h1.2,ze2,ze2] at hp;exact hp
    rw[nT,cF,RL hba.2,obs,A3A,h2,nF,cT])
  (by
   show CG l l (l.length:Int) (l.length:Int)=_;unfold CG; simp only[Vj,cF])
 rw[show ((0:Nat):Int)=0 from rfl] at key;unfold FU H9;cases hall:l.all Gu with
 | true =>
  rw[key.1 hall,obs,sEl,Bool.and_true]
  congr 1
  exact decide_eq_decide.2 (by omega)
 | false =>
  obtain ⟨k,_,h⟩:=key.2 hall;rw[h,obs,sEr,Bool.and_false]
end
section
open Go
theorem At5 {l:List RPt} {x:RPt} (h:l.length<=100000):Ct 128 8 l [x]=some (l ++ [x]):=Dm (by simp[Ag]; omega) (by simp[Ag]; omega)
theorem Z6 (p:Q2) (b:Bool):BC (fl (rp p)) b=some (rqF (crd b p)):=by cases b <;> rfl
theorem AR2 (p:Q2) (b:Bool):FS (fl (rp p)) b=some (rqF (crd b p)):=by cases b <;> rfl
theorem FH {k:Nat} {p:Q2} (h:SzP k p) (b:Bool):Sz k (crd b p):=by cases b; exact h.1; exact h.2
theorem AF6:Bc (1:Int)=some (rqF 1):=by rw[IJ (by omega) (by omega)]; rfl
section
variable {a c:Q2} {t:Rat} (ha:SzP 8 a) (hc:SzP 8 c) (ht:Sz 34 t)
include ha hc ht
end
section
variable {a c:Q2} {s:Rat} {b:Bool} (ha:SzP 8 a) (hc:SzP 8 c) (hs:Sz 8 s) (hne:crd b c≠crd b a)
include ha hc hs hne
end
theorem A5r {k n:Nat} (hk:k<n) (hn:n<=100000):Int.tmod (IntKind.wrap .i64 (IntKind.wrap .i64 ((k:Int) + (n:Int))-1)) (n:Int)=(((k + n-1)%n:Nat):Int):=by
 rw[Aj (n:=(k:Int) + (n:Int)) (by omega) (by omega),Aj (by omega) (by omega),zc6 (by omega)];rw[show (k:Int) + (n:Int)-1=((k + n-1:Nat):Int) by omega];rfl
theorem AH0 {k n:Nat} (hk:k<n):(k + 1 + n-1)%n=k:=by
 rw[show k + 1 + n-1=k + n by omega,Nat.add_mod_right,Nat.mod_eq_of_lt hk]
theorem IK {ps:List Q2} {k:Nat} {p:Q2} (h:ps[k]? = some p):AP (ps.map rp) (k:Int)=some (rp p):=by
 rw[An,zc9,h]; rfl
theorem Ak1 (b high:Bool) (s:Rat) (a c:Q2):(Sv b high s a c).length<=2:=by
 unfold Sv;rw[zc7]
 split <;> split <;> simp
section
variable {ps:List Q2} {s:Rat} (hps:SzR ps) (hs:Sz 8 s) (b high:Bool)
include hps hs
end
end
section
open Go
theorem AP2 {p q:Q2} (h:rp p=rp q):p=q:=by
 unfold rp at h;have h1:=A9C (congrArg Prod.fst h);have h2:=A9C (congrArg Prod.snd h);exact Prod.ext h1 h2
theorem AI1 (p:Q2):Gu (rp p)=true↔SzP 8 p:=by
 rw[SK];constructor
 ·rintro ⟨q,hq,e⟩;rw[AP2 e]; exact hq
 ·intro h; exact ⟨p,h,rfl⟩
theorem Ii {m:List Q2}:H9 (m.map rp)=true↔SzR m:=by
 unfold H9 SzR;rw[za2,decide_eq_true_eq,zd1,za5];constructor
 ·rintro ⟨h1,h2⟩;exact ⟨h1,fun p hp=>(AI1 p).1 (h2 _ (List.mem_map_of_mem hp))⟩
 ·rintro ⟨h1,h2⟩;refine ⟨h1,fun x hx=>?_⟩
  obtain ⟨p,hp,rfl⟩:=zd4.1 hx;exact (AI1 p).2 (h2 p hp)
theorem Ac5 {p:Q2} {k:Nat} (hk:k<=1000000) (h:SzP k p):BrP (rp p):=⟨A09 hk h.1,A09 hk h.2⟩
theorem T4 {m:List Q2} {k:Nat} (hk:k<=1000000) (h:∀ p∈m,SzP k p):∀ x∈m.map rp,BrP x:=by
 intro x hx;obtain ⟨p,hp,rfl⟩:=zd4.1 hx;exact Ac5 hk (h p hp)
theorem AC8 {q:Rat} {k:Nat} (hk:k<=1000000) (h:Sz k q):It (rqF q)=some (rqF q):=by
 unfold It;rw[show (rqF q).1=(big q.num).1 from rfl,show (rqF q).2.1=(big q.num).2 from rfl,show (rqF q).2.2.2=(big (q.den:Int)).2 from rfl,A5z hk h.1,ZV hk h.2];rfl
theorem A9w {p:Q2} (h:SzP 8 p):LF (fl (rp p))=some (fl (rp p)):=by
 unfold LF;simp only[A4,A6,TC,Tw,JI,JK];rw[AC8 (by omega) h.1,obs,AC8 (by omega) h.2,obs];rfl
theorem A6s {m:List Q2} (h:SzR m):I2 (m.map rp)=some (m.map rp):=by
 have h40:=h.1;obtain ⟨h1,h2⟩:=RW (l:=m) (body:=fun (s:((List RPt)×((List RPt)×(Int×Int))))=>DJ s.1 s.2.1 s.2.2.1 s.2.2.2)
  (st:=fun k (b:List Q2)=>(b.map rp,(m.map rp,((m.length:Int),(k:Int))))) (step:=fun b p=>b ++ [p]) (fin:=fun b=>b.map rp) (I:=fun k b=>b.length=k)
  (by
   rintro k b p hk hI;have hkl:=EC hk;have hp:=h.2 p (za4 hk);refine ⟨?_,by simp[hI]⟩
   show DJ (b.map rp) (m.map rp) (m.length:Int) (k:Int)=_;unfold DJ;rw[decide_eq_true (by omega),cT,IK hk,obs];simp only[A6,A6O];rw[A9w hp,obs,A3O,Aj7,At5 (by simp; omega),obs,AM (by omega)];simp)
  (by
   rintro b _;show DJ (b.map rp) (m.map rp) (m.length:Int) (m.length:Int)=_;unfold DJ;rw[decide_eq_false (by omega)];rfl) [] rfl
 have e:m.foldl (fun b p=>b ++ [p]) []=m:=by
  have:∀ (l acc:List Q2),l.foldl (fun b p=>b ++ [p]) acc=acc++l:=by
   intro l
   induction l with
   | nil=>intro acc; simp
   | cons x l ih=>intro acc; rw[List.foldl_cons,ih]; simp
  rw[this]; rfl
 rw[e] at h1;have h1':Ah (fun (s:((List RPt)×((List RPt)×(Int×Int))))=>DJ s.1 s.2.1 s.2.2.1 s.2.2.2) ((List.nil:List RPt),(m.map rp,((m.length:Int),(0:Int))))=some (m.map rp):=h1;unfold I2;rw[zd1,h1',obs]
theorem A6c {p:Q2} (h:SzP 8 p):Jj (fl (rp p))=some (fl (rp p),true):=by
 unfold Jj;simp only[A4,A6,TC,Tw,JI,JK];rw[VQ (k:=8) (by omega) h.1,obs,VQ (k:=8) (by omega) h.2,obs,Kg (h.1.mono (by omega)),Kg (h.2.mono (by omega))];rfl
theorem A8j {m:List Q2} (h:SzR m):Kr (m.map rp)=some (m.map rp,true):=by
 have h40:=h.1;obtain ⟨h1,h2⟩:=RW (l:=m) (body:=fun (s:((List RPt)×((List RPt)×(Int×Int))))=>Es s.1 s.2.1 s.2.2.1 s.2.2.2)
  (st:=fun k (b:List Q2)=>(b.map rp,(m.map rp,((m.length:Int),(k:Int))))) (step:=fun b p=>b ++ [p]) (fin:=fun b=>.inl (b.map rp)) (I:=fun k b=>b.length=k)
  (by
   rintro k b p hk hI;have hkl:=EC hk;have hp:=h.2 p (za4 hk);refine ⟨?_,by simp[hI]⟩
   show Es (b.map rp) (m.map rp) (m.length:Int) (k:Int)=_;unfold Es;rw[decide_eq_true (by omega),cT,IK hk,obs];simp only[A6,A6O];rw[A6c hp,obs];simp only;rw[nT,cF,A3O,Aj7,At5 (by simp; omega),obs,AM (by omega)];simp)
  (by
   rintro b _;show Es (b.map rp) (m.map rp) (m.length:Int) (m.length:Int)=_;unfold Es;rw[decide_eq_false (by omega)];rfl) [] rfl
 have e:m.foldl (fun b p=>b ++ [p]) []=m:=by
  have:∀ (l acc:List Q2),l.foldl (fun b p=>b ++ [p]) acc=acc++l:=by
   intro l
   induction l with
   | nil=>intro acc; simp
   | cons x l ih=>intro acc; rw[List.foldl_cons,ih]; simp
  rw[this]; rfl
 rw[e] at h1;have h1':Ah (fun (s:((List RPt)×((List RPt)×(Int×Int))))=>Es s.1 s.2.1 s.2.2.1 s.2.2.2) ((List.nil:List RPt),(m.map rp,((m.length:Int),(0:Int))))=some (.inl (m.map rp)):=h1;unfold Kr;rw[zd1,h1',obs,sEl]
def ZM (m:List Q2):List RPt×Bool:=if H9 (m.map rp)=true then (m.map rp,true) else ([],false)
theorem Av1 {m:List Q2} {k:Nat} (hk:k<=1000000) (hl:m.length<=100000) (h:∀ p∈m,SzP k p):EN (m.map rp)=some (ZM m):=by
 unfold EN ZM;rw[Da (by simp; omega) (T4 hk h),obs];by_cases hg:H9 (m.map rp)=true
 ·rw[if_pos hg,hg,nT,cF,A6s (Ii.1 hg),obs]
 ·rw[if_neg hg,Bool.eq_false_iff.2 hg,nF,cT]
theorem A6G {m:List Q2} {k:Nat} (hk:k<=1000000) (hl:m.length<=100000) (h:∀ p∈m,SzP k p):Ja (m.map rp)=some (ZM m):=by
 unfold Ja ZM;rw[Gx (by simp; omega) (T4 hk h),obs];by_cases hg:H9 (m.map rp)=true
 ·rw[if_pos hg,hg,nT,cF,A8j (Ii.1 hg)];rfl
 ·rw[if_neg hg,Bool.eq_false_iff.2 hg,nF,cT]
section
variable {ps:List Q2} {s:Rat} (hps:SzR ps) (hs:Sz 2 s) (b:Bool)
include hps hs
end
section
variable {l:List RPt} {a:RF} (hl:l.length<=1000) (hb:∀ x∈l,BrP x) (ha:BrF a) (h:(H9 l&&(Cr (toQ a)&&shQ 2 a))=false) (b:Bool)
include hl hb ha h
end
def Bu0 (ps:List Q2):Rat:=match ps with | []=>0 | a::m=>chn crs a (m ++ [a])
theorem Af3 (ps:List Q2):Bu0 ps=MZ ps:=by
 cases ps with
 | nil=>rfl
 | cons a m =>
  have hl2:Nk (a::m)=A10 a m:=by rw[<-AE7 a (a::m) (by simp)]; rfl
  show chn crs a (m ++ [a])=chn crs (Nk (a::m)) (a::m);rw[A9q,hl2,chn]
  grind
theorem A8Y {p q:Q2} (hp:SzP 8 p) (hq:SzP 8 q):Sz 33 (crs p q):=(KO (LK hp.1 hq.2) (LK hq.1 hp.2)).mono (by omega)
section
variable {ps:List Q2} {f:Q2} (hps:SzR ps) (hf:ps[0]? = some f)
include hps hf
theorem A0h {k:Nat} (hk:k<ps.length):∃ d,AP (ps.map rp) (Int.tmod (IntKind.wrap .i64 ((k:Int) + 1)) (ps.length:Int))=some (rp d)/\SzP 8 d/\∃ r,ps.drop (k + 1) ++ [f]=d::r/\(k + 1<ps.length->r=ps.drop (k + 2) ++ [f])/\(k + 1=ps.length->r = []):=by
 have h40:=hps.1;rw[AM (by omega),zc6 (by omega)];by_cases h:k + 1<ps.length
 ·have e:((k + 1:Nat):Int)%(ps.length:Int)=((k + 1:Nat):Int):=Int.emod_eq_of_lt (by omega) (by omega);rw[e];have hg:ps[k + 1]? = some ps[k + 1]:=za1 h;exact ⟨ps[k + 1],IK hg,hps.2 _ (za4 hg),ps.drop (k + 2) ++ [f],by rw[zb0 h,List.cons_append],fun _=>rfl,fun h'=>by omega⟩
 ·have e:((k + 1:Nat):Int)%(ps.length:Int)=((0:Nat):Int):=by rw[show k + 1=ps.length by omega]; exact Int.emod_self
  rw[e];refine ⟨f,IK hf,hps.2 _ (za4 hf),[],?_,fun h'=>absurd h' h,fun _=>rfl⟩
  rw[zd5 (by omega)]; rfl
theorem AX8:∀ (m k:Nat) (acc:Rat),k + m=ps.length->Sz (34*k + 1) acc ->
  ∃ r,Ah (fun (s:(RF×(RF×((List RPt)×((List RPt)×(Int×Int))))))=>BA s.1 s.2.1 s.2.2.1 s.2.2.2.1 s.2.2.2.2.1 s.2.2.2.2.2) (zF,(rqF acc,(ps.map rp,(ps.map rp,((ps.length:Int),(k:Int))))))=some (zF,rqF r)/\Sz 1361 r /\
   r=acc + (match ps.drop k with | []=>0 | c::_=>chn crs c (ps.drop (k + 1) ++ [f])):=by
 have h40:=hps.1;intro m
 induction m with
 | zero =>
  intro k acc hk hacc;refine ⟨acc,Aq ?_,hacc.mono (by omega),?_⟩
  ·show BA zF (rqF acc) (ps.map rp) (ps.map rp) (ps.length:Int) (k:Int)=_;unfold BA;rw[decide_eq_false (by omega)];rfl
  ·rw[zd5 (show ps.length<=k by omega)];simp only
   grind
 | succ m ih =>
  intro k acc hk hacc;have hlt:k<ps.length:=by omega
  have hd:ps.drop k=ps[k]::ps.drop (k + 1):=zb0 hlt;have hg:ps[k]? = some ps[k]:=za1 hlt;generalize ps[k]=c at hd hg;have sc:=hps.2 c (za4 hg);obtain ⟨d,hdg,sd,r,hr,hr1,hr2⟩:=A0h hps hf hlt;have hx:=A8Y sc sd;have hsum:Sz (34*(k + 1) + 1) (acc + crs c d):=(Ti hacc hx).mono (by omega);have hgo:BA zF (rqF acc) (ps.map rp) (ps.map rp) (ps.length:Int) (k:Int)=some (.inl (zF,(rqF (acc + crs c d),(ps.map rp,(ps.map rp,((ps.length:Int),((k + 1:Nat):Int))))))):=by
   unfold BA;have hz:(((ps.length:Nat):Int)==0)=false:=beq_eq_false_iff_ne.2 (by omega);rw[decide_eq_true (by omega),cT,IK hg,obs,zd1,hz,cF,hdg,obs];simp only[A4,A6,Bc3,Bd8,JI,JK];rw[Iy (k:=8) (by omega) sc.1 sd.2,obs,Iy (k:=8) (by omega) sd.1 sc.2,obs]
   try simp only[A4]
   rw[Rt (k:=16) (by omega) ((LK sc.1 sd.2).mono (by omega)) ((LK sd.1 sc.2).mono (by omega)),obs]
   try simp only[A4]
   rw[show c.1*d.2-d.1*c.2=crs c d from rfl,Kf (k:=1400) (by omega) (hacc.mono (by omega)) (hx.mono (by omega)),obs,AM (by omega)]
  obtain ⟨q,g1,g2,g3⟩:=ih (k + 1) (acc + crs c d) (by omega) hsum;refine ⟨q,(AX (f:=fun (s:(RF×(RF×((List RPt)×((List RPt)×(Int×Int))))))=>BA s.1 s.2.1 s.2.2.1 s.2.2.2.1 s.2.2.2.2.1 s.2.2.2.2.2) (s:=(zF,(rqF acc,(ps.map rp,(ps.map rp,((ps.length:Int),(k:Int))))))) hgo).trans g1,g2,?_⟩
  rw[g3,hd];simp only;rw[hr,chn];by_cases h:k + 1<ps.length
  ·rw[hr1 h];have hd2:ps.drop (k + 1)=ps[k + 1]::ps.drop (k + 2):=zb0 h;rw[hd2] at hr ⊢
   have:d=ps[k + 1]:=by rw[List.cons_append] at hr; exact (List.cons.inj hr).1.symm
   rw[this];simp only
   grind
  ·rw[hr2 (by omega),zd5 (show ps.length<=k + 1 by omega)];simp only[chn]
   grind
theorem AY0:∀ (m k:Nat) (acc:Rat),k + m=ps.length->Sz (34*k + 1) acc ->
  ∃ r,Ah (fun (s:(RF×(RF×((List RPt)×((List RPt)×(Int×Int))))))=>BP s.1 s.2.1 s.2.2.1 s.2.2.2.1 s.2.2.2.2.1 s.2.2.2.2.2) (zF,(rqF acc,(ps.map rp,(ps.map rp,((ps.length:Int),(k:Int))))))=some (zF,rqF r)/\Sz 1361 r /\
   r=acc + (match ps.drop k with | []=>0 | c::_=>chn crs c (ps.drop (k + 1) ++ [f])):=by
 have h40:=hps.1;intro m
 induction m with
 | zero =>
  intro k acc hk hacc;refine ⟨acc,Aq ?_,hacc.mono (by omega),?_⟩
  ·show BP zF (rqF acc) (ps.map rp) (ps.map rp) (ps.length:Int) (k:Int)=_;unfold BP;rw[decide_eq_false (by omega)];rfl
  ·rw[zd5 (show ps.length<=k by omega)];simp only
   grind
 | succ m ih =>
  intro k acc hk hacc;have hlt:k<ps.length:=by omega
  have hd:ps.drop k=ps[k]::ps.drop (k + 1):=zb0 hlt;have hg:ps[k]? = some ps[k]:=za1 hlt;generalize ps[k]=c at hd hg;have sc:=hps.2 c (za4 hg);obtain ⟨d,hdg,sd,r,hr,hr1,hr2⟩:=A0h hps hf hlt;have hx:=A8Y sc sd;have hsum:Sz (34*(k + 1) + 1) (acc + crs c d):=(Ti hacc hx).mono (by omega);have hgo:BP zF (rqF acc) (ps.map rp) (ps.map rp) (ps.length:Int) (k:Int)=some (.inl (zF,(rqF (acc + crs c d),(ps.map rp,(ps.map rp,((ps.length:Int),((k + 1:Nat):Int))))))):=by
   unfold BP;have hz:(((ps.length:Nat):Int)==0)=false:=beq_eq_false_iff_ne.2 (by omega);rw[decide_eq_true (by omega),cT,IK hg,obs,zd1,hz,cF,hdg,obs];simp only[A4,A6,Bc3,Bd8,JI,JK];rw[ZW (k:=8) (by omega) sc.1 sd.2,obs,ZW (k:=8) (by omega) sd.1 sc.2,obs]
   try simp only[A4]
   rw[ZS (k:=16) (by omega) ((LK sc.1 sd.2).mono (by omega)) ((LK sd.1 sc.2).mono (by omega)),obs]
   try simp only[A4]
   rw[show c.1*d.2-d.1*c.2=crs c d from rfl,UY (k:=1400) (by omega) (hacc.mono (by omega)) (hx.mono (by omega)),obs,AM (by omega)]
  obtain ⟨q,g1,g2,g3⟩:=ih (k + 1) (acc + crs c d) (by omega) hsum;refine ⟨q,(AX (f:=fun (s:(RF×(RF×((List RPt)×((List RPt)×(Int×Int))))))=>BP s.1 s.2.1 s.2.2.1 s.2.2.2.1 s.2.2.2.2.1 s.2.2.2.2.2) (s:=(zF,(rqF acc,(ps.map rp,(ps.map rp,((ps.length:Int),(k:Int))))))) hgo).trans g1,g2,?_⟩
  rw[g3,hd];simp only;rw[hr,chn];by_cases h:k + 1<ps.length
  ·rw[hr1 h];have hd2:ps.drop (k + 1)=ps[k + 1]::ps.drop (k + 2):=zb0 h;rw[hd2] at hr ⊢
   have:d=ps[k + 1]:=by rw[List.cons_append] at hr; exact (List.cons.inj hr).1.symm
   rw[this];simp only
   grind
  ·rw[hr2 (by omega),zd5 (show ps.length<=k + 1 by omega)];simp only[chn]
   grind
end
end
section
open Go
theorem AJ0:Bc (0:Int)=some (rqF 0):=by rw[IJ (by omega) (by omega)]; rfl
theorem AH8:Bc (2:Int)=some (rqF 2):=by rw[IJ (by omega) (by omega)]; rfl
theorem AB1:CA (0:Int)=some (rqF 0):=by rw[Ry (by omega) (by omega)]; rfl
theorem A7I:CA (2:Int)=some (rqF 2):=by rw[Ry (by omega) (by omega)]; rfl
theorem S2:Sz 1361 (2:Rat):=by
 have h:(((2:Int)).natAbs:Int)<B 1361:=Int.lt_of_lt_of_le (by rw[B1]; decide:(((2:Int)).natAbs:Int)<B 1) (Kt (by omega));have:=AS1 (z:=2) h (by omega);exact this
theorem S0r:Sz 1 (0:Rat):=by
 have h:(((0:Int)).natAbs:Int)<B 1:=by rw[B1]; decide
 have:=AS1 (z:=0) h (by omega);exact this
theorem Xv:(2:Rat)≠0:=by decide
theorem AY5 {ps:List Q2} (hps:SzR ps):HK (ps.map rp)=some (rqF (MZ ps/2))/\Sz 2722 (MZ ps/2):=by
 have h40:=hps.1;have key:∃ r,Ah (fun (s:(RF×(RF×((List RPt)×((List RPt)×(Int×Int))))))=>BA s.1 s.2.1 s.2.2.1 s.2.2.2.1 s.2.2.2.2.1 s.2.2.2.2.2) (zF,(rqF 0,(ps.map rp,(ps.map rp,((ps.length:Int),(0:Int))))))=some (zF,rqF r)/\Sz 1361 r/\r=MZ ps:=by
  cases ps with
  | nil =>
   refine ⟨0,Aq ?_,S0r.mono (by omega),rfl⟩
   show BA zF (rqF 0) [] [] 0 0=_;unfold BA;rfl
  | cons f m =>
   obtain ⟨r,h1,h2,h3⟩:=AX8 hps (f:=f) rfl (f::m).length 0 0 (by omega) S0r;refine ⟨r,h1,h2,?_⟩
   rw[h3,<-Af3];show (0:Rat) + chn crs f (m ++ [f])=chn crs f (m ++ [f])
   grind
 obtain ⟨r,h1,h2,h3⟩:=key;rw[h3] at h1 h2;refine ⟨?_,(AM0 h2 S2 Xv).mono (by omega)⟩
 have g1:Ah (fun (s:(RF×(RF×((List RPt)×((List RPt)×(Int×Int))))))=>BA s.1 s.2.1 s.2.2.1 s.2.2.2.1 s.2.2.2.2.1 s.2.2.2.2.2) ((false,([],(false,[]))),(rqF 0,(ps.map rp,(ps.map rp,((ps.length:Int),(0:Int))))))=some (zF,rqF (MZ ps)):=h1;have hh:CR (rqF (MZ ps))=some (rqF (MZ ps/2)):=by
  unfold CR;simp only[A4];rw[AH8,obs]
  try simp only[A4]
  rw[WR (k:=1361) (by omega) h2 S2 Xv,obs]
 unfold HK;rw[AJ0,obs]
 try simp only[A4]
 rw[zd1,g1,obs]
 try simp only[A4]
 rw[hh,obs]
theorem X4 {ps:List Q2} (hps:SzR ps):Hf (ps.map rp)=some (rqF (MZ ps/2))/\Sz 2722 (MZ ps/2):=by
 have h40:=hps.1;have key2:∃ r,Ah (fun (s:(RF×(RF×((List RPt)×((List RPt)×(Int×Int))))))=>BP s.1 s.2.1 s.2.2.1 s.2.2.2.1 s.2.2.2.2.1 s.2.2.2.2.2) (zF,(rqF 0,(ps.map rp,(ps.map rp,((ps.length:Int),(0:Int))))))=some (zF,rqF r)/\Sz 1361 r/\r=MZ ps:=by
  cases ps with
  | nil =>
   refine ⟨0,Aq ?_,S0r.mono (by omega),rfl⟩
   show BP zF (rqF 0) [] [] 0 0=_;unfold BP;rfl
  | cons f m =>
   obtain ⟨r,h1,h2,h3⟩:=AY0 hps (f:=f) rfl (f::m).length 0 0 (by omega) S0r;refine ⟨r,h1,h2,?_⟩
   rw[h3,<-Af3];show (0:Rat) + chn crs f (m ++ [f])=chn crs f (m ++ [f])
   grind
 obtain ⟨r,h1,h2,h3⟩:=key2;rw[h3] at h1 h2;refine ⟨?_,(AM0 h2 S2 Xv).mono (by omega)⟩
 have g1:Ah (fun (s:(RF×(RF×((List RPt)×((List RPt)×(Int×Int))))))=>BP s.1 s.2.1 s.2.2.1 s.2.2.2.1 s.2.2.2.2.1 s.2.2.2.2.2) ((false,([],(false,[]))),(rqF 0,(ps.map rp,(ps.map rp,((ps.length:Int),(0:Int))))))=some (zF,rqF (MZ ps)):=h1;unfold Hf;rw[AB1,obs]
 try simp only[A4]
 rw[zd1,g1,obs]
 try simp only[A4]
 rw[A7I,obs]
 try simp only[A4]
 rw[A44 (k:=1361) (by omega) h2 S2 Xv,obs]
theorem A3D {ps:List Q2} (hps:SzR ps):FK (ps.map rp)=some (SC (MZ ps/2)):=by
 have hp:=hps.1;unfold FK;rw[Da (by simp; omega) (T4 (k:=8) (by omega) hps.2),obs,Ii.2 hps,nT,cF,(AY5 hps).1,obs];simp only[A4,A6];rw[VR,obs]
def ShP (x:RPt):Prop:=ShF (fx x)/\ShF (fy x)
theorem ShP.br {x:RPt} (h:ShP x):BrP x:=⟨h.1.br,h.2.br⟩
end
section
open Go
structure Val (E:Q2->Q2->Rat):Prop where
 anti:∀ p q,E p q = -(E q p)
 split:∀ p q t,0<=t->t<=1->E p (Ax1 p q t) + E (Ax1 p q t) q=E p q
theorem Val.self {E:Q2->Q2->Rat} (h:Val E) (p:Q2):E p p=0:=by
 have:=h.anti p p
 grind
section
variable (E:Q2->Q2->Rat) (b high:Bool) (s:Rat)
end
section
variable {E:Q2->Q2->Rat} (h:Val E) {b high:Bool} {s:Rat}
include h
end
section
variable {E:Q2->Q2->Rat} (h:Val E) {b high:Bool} {s:Rat}
include h
end
end
section
open Go
def S0 (lo hi:Q2) (l:List Q2):List Q2:=Gb true false hi.2 (Gb true true lo.2 (Gb false false hi.1 (Gb false true lo.1 l)))
end
section
open Go
theorem S1K:Sz 1 (1:Rat):=by have:=AS1 (z:=1) (A1e (k:=1) (by omega)) (by omega); exact this
def SzN (K:Nat) (ps:List Q2):Prop:=ps.length<=1000/\∀ p∈ps,SzP K p
theorem R8 {K:Nat} (hK:K<=2972) {p:Q2} {s:Rat} (hp:SzP K p) (hs:Sz K s) (b high:Bool):Gw high b (rqF s) (fl (rp p))=some (high,(b,(rqF s,ins b high s p))):=by
 have hc:=FH hp b;unfold Gw;simp only[A4,A6];cases high with
 | true =>
  simp only[cT];rw[Z6,obs,Ft (k:=K) (by omega) hc hs,obs,A7M];have:(!decide (crd b p<s))=decide (s<=crd b p):=by
   rw[Bool.eq_iff_iff]; simp[Rat.not_lt]
  rw[this]
 | false =>
  simp only[cF];rw[Z6,obs,Ft (k:=K) (by omega) hs hc,obs,A8n];have:(!decide (s<crd b p))=decide (crd b p<=s):=by
   rw[Bool.eq_iff_iff]; simp[Rat.not_lt]
  rw[this]
section
variable {K:Nat} (hK:K<=2972) {a c:Q2} {t:Rat} (ha:SzP K a) (hc:SzP K c) (ht:Sz (4*K + 2) t)
include hK ha hc ht
theorem Bo6:Vw (fl (rp a)) (fl (rp c)) (rqF t)=some (fl (rp (Ax1 a c t))):=by
 have h1:Sz (4*K + 4) (1-t):=(KO S1K ht).mono (by omega);have m1:∀ x:Rat,Sz K x->Sz (5*K + 4) ((1-t)*x):=fun x hx=>(LK h1 hx).mono (by omega)
 have m2:∀ x:Rat,Sz K x->Sz (5*K + 4) (t*x):=fun x hx=>(LK ht hx).mono (by omega)
 unfold Vw;simp only[A4,A6,TC,Tw,JI,JK];rw[AF6,obs]
 try simp only[A4]
 rw[Rt (k:=4*K + 2) (by omega) (S1K.mono (by omega)) ht,obs]
 try simp only[A4]
 rw[Iy (k:=4*K + 4) (by omega) h1 (ha.1.mono (by omega)),obs,Iy (k:=4*K + 4) (by omega) (ht.mono (by omega)) (hc.1.mono (by omega)),obs]
 try simp only[A4]
 rw[Kf (k:=5*K + 4) (by omega) (m1 _ ha.1) (m2 _ hc.1),obs,Iy (k:=4*K + 4) (by omega) h1 (ha.2.mono (by omega)),obs,Iy (k:=4*K + 4) (by omega) (ht.mono (by omega)) (hc.2.mono (by omega)),obs]
 try simp only[A4]
 rw[Kf (k:=5*K + 4) (by omega) (m1 _ ha.2) (m2 _ hc.2),obs];unfold Ax1;rw[show a.1 + t*(c.1-a.1)=(1-t)*a.1 + t*c.1 by grind,show a.2 + t*(c.2-a.2)=(1-t)*a.2 + t*c.2 by grind];rfl
theorem Bp2:K5 (fl (rp a)) (fl (rp c)) (rqF t)=some (fl (rp (Ax1 a c t))):=by
 have key:∀ x y:Rat,Sz K x->Sz K y->Hh (rqF x) (rqF y) (rqF t)=some (rqF (x + t*(y-x))):=by
  intro x y hx hy;unfold Hh;simp only[A4];rw[ZS (k:=K) (by omega) hy hx,obs]
  try simp only[A4]
  have h1:Sz (4*K + 2) (y-x):=(KO hy hx).mono (by omega);rw[ZW (k:=4*K + 2) (by omega) ht h1,obs]
  try simp only[A4]
  rw[UY (k:=6*K + 3) (by omega) (hx.mono (by omega)) ((LK ht (KO hy hx)).mono (by omega)),obs]
 unfold K5;simp only[A4,A6,TC,Tw,JI,JK];rw[key _ _ ha.1 hc.1,obs,key _ _ ha.2 hc.2,obs];rfl
theorem Be8:SzP (7*K + 4) (Ax1 a c t):=by
 have key:∀ x y:Rat,Sz K x->Sz K y->Sz (7*K + 4) (x + t*(y-x)):=fun x y hx hy=>(Ti hx (LK ht (KO hy hx))).mono (by omega)
 exact ⟨key _ _ ha.1 hc.1,key _ _ ha.2 hc.2⟩
end
section
variable {K:Nat} (hK:K<=2972) {a c:Q2} {s:Rat} {b:Bool} (ha:SzP K a) (hc:SzP K c) (hs:Sz K s) (hne:crd b c≠crd b a)
include hK ha hc hs hne
theorem A8T:Sz (4*K + 2) ((s-crd b a)/(crd b c-crd b a)) :=
 (AM0 (KO hs (FH ha b)) (KO (FH hc b) (FH ha b)) (fun e=>hne (by grind))).mono (by omega)
theorem Be4:SzP (7*K + 4) (AX3 b s a c):=Be8 hK ha hc (A8T hK ha hc hs hne)
theorem A9r:FD (rqF (s-crd b a)) (rqF (crd b c-crd b a))=some (rqF ((s-crd b a)/(crd b c-crd b a))) :=
 WR (k:=2*K + 1) (by omega) ((KO hs (FH ha b)).mono (by omega)) ((KO (FH hc b) (FH ha b)).mono (by omega)) (fun e=>hne (by grind))
theorem A6b:KK (fl (rp a)) (fl (rp c)) b (rqF s)=some (fl (rp (AX3 b s a c))):=by
 have hon:=Bn5 (s:=s) hne;unfold KK;simp only[A4,A6];rw[AR2,obs]
 try simp only[A4]
 rw[ZS (k:=K) (by omega) hs (FH ha b),obs,AR2,obs]
 try simp only[A4]
 rw[ZS (k:=K) (by omega) (FH hc b) (FH ha b),obs]
 try simp only[A4]
 rw[A44 (k:=2*K + 1) (by omega) ((KO hs (FH ha b)).mono (by omega)) ((KO (FH hc b) (FH ha b)).mono (by omega)) (fun e=>hne (by grind)),obs]
 try simp only[A4]
 rw[Bp2 hK ha hc (A8T hK ha hc hs hne),obs,show Ax1 a c ((s-crd b a)/(crd b c-crd b a))=AX3 b s a c from rfl];generalize AX3 b s a c=m at hon;cases b with
 | true =>
  rw[cT];have:m.2=s:=hon;rw[<-this];rfl
 | false =>
  rw[cF];have:m.1=s:=hon;rw[<-this];rfl
end
theorem A4S {K:Nat} (hK:K<=2972) {p:Q2} {s:Rat} (hp:SzP K p) (hs:Sz K s) (b high:Bool):∃ v,Hg (fl (rp p)) b (rqF s) high=some v/\decide (v<=0)=ins b high s p:=by
 have hc:=FH hp b;unfold Hg;simp only[A4,A6];rw[AR2,obs]
 try simp only[A4]
 rw[OE (k:=K) (by omega) hc hs,obs];have h1:=@A4E (crd b p) s;have h2:=@LW (crd b p) s;have hb : -1<=Vo (crd b p) s/\Vo (crd b p) s<=1:=by unfold Vo; split <;> (try split) <;> omega
 cases high with
 | true =>
  refine ⟨_,rfl,?_⟩
  rw[Aj (by omega) (by omega),A7M];refine decide_eq_decide.2 ?_
  rw[<-Rat.not_lt,<-h1];omega
 | false =>
  refine ⟨_,rfl,?_⟩
  rw[A8n];refine decide_eq_decide.2 ?_
  rw[<-Rat.not_lt,<-h2];omega
section
variable {K:Nat} (hK:K<=2972) {ps:List Q2} {s:Rat} (hps:SzN K ps) (hs:Sz K s) (b high:Bool)
include hK hps hs
theorem AN5:∀ (m k:Nat) (a:Q2) (out:List Q2),k + m=ps.length->(k<ps.length->ps[(k + ps.length-1)%ps.length]? = some a)->out.length<=2*k ->
  Ah (fun (s:(Bool×(RF×(Bool×((List (RQ×RQ))×((List (RQ×RQ))×((List (RQ×RQ))×(Int×Int))))))))=>Fe s.1 s.2.1 s.2.2.1 s.2.2.2.1 s.2.2.2.2.1 s.2.2.2.2.2.1 s.2.2.2.2.2.2.1 s.2.2.2.2.2.2.2)
   (b,(rqF s,(high,(out.map rp,(ps.map rp,(ps.map rp,((ps.length:Int),(k:Int))))))))=some ((out++Dd b high s a (ps.drop k)).map rp):=by
 intro m
 induction m with
 | zero =>
  intro k a out hk _ _;refine Aq ?_
  show Fe b (rqF s) high (out.map rp) (ps.map rp) (ps.map rp) (ps.length:Int) (k:Int)=_;unfold Fe;rw[decide_eq_false (by omega),zd5 (by omega),Dd,ze5];rfl
 | succ m ih =>
  intro k a out hk ha hout;have h40:=hps.1;have hlt:k<ps.length:=by omega
  have ha:=ha hlt;have hd:ps.drop k=ps[k]::ps.drop (k + 1):=zb0 hlt;have hg:ps[k]? = some ps[k]:=za1 hlt;generalize ps[k]=c at hd hg;have sa:=hps.2 a (za4 ha);have sc:=hps.2 c (za4 hg);have hgo:Fe b (rqF s) high (out.map rp) (ps.map rp) (ps.map rp) (ps.length:Int) (k:Int)=some (.inl (b,(rqF s,(high,((out++Sv b high s a c).map rp,(ps.map rp,(ps.map rp,((ps.length:Int),((k + 1:Nat):Int))))))))):=by
   unfold Fe;have hz:(((ps.length:Nat):Int)==0)=false:=beq_eq_false_iff_ne.2 (by omega);rw[decide_eq_true (by omega),cT,IK hg,obs,zd1,hz,cF,A5r hlt (by omega),IK ha,obs];simp only[A4,A6,A6O];rw[R8 hK sa hs,obs];simp only;rw[R8 hK sc hs,obs];simp only;unfold Sv;have ol:(out.map rp).length<=100000:=by rw[zd1]; omega
   by_cases hne:ins b high s a=ins b high s c
   ·rw[show (ins b high s a==ins b high s c)=true from beq_iff_eq.2 hne,nT,cF,obs,sEr,if_pos hne];simp only[A4,A6];rw[R8 hK sc hs,obs];simp only;cases hi:ins b high s c with
    | true =>
     rw[cT,A3O,Aj7,At5 ol,obs,AM (by omega)];simp
    | false =>
     rw[cF,AM (by omega)];simp
   ·have hcut:=A2T hne;rw[show (ins b high s a==ins b high s c)=false from beq_eq_false_iff_ne.2 hne,nF,cT,Z6,obs]
    try simp only[A4]
    rw[Rt (k:=K) (by omega) hs (FH sa b),obs,Z6,obs,obs]
    try simp only[A4]
    rw[Rt (k:=K) (by omega) (FH sc b) (FH sa b),obs]
    try simp only[A4]
    rw[A9r hK sa sc hs hcut,obs]
    try simp only[A4]
    rw[Bo6 hK sa sc (A8T hK sa sc hs hcut),obs,show Ax1 a c ((s-crd b a)/(crd b c-crd b a))=AX3 b s a c from rfl,A3O,Aj7,At5 ol,obs,obs,sEr,if_neg hne];simp only[A4,A6];rw[R8 hK sc hs,obs];simp only;cases hi:ins b high s c with
    | true =>
     rw[cT,A3O,Aj7,At5 (by simp; omega),obs,AM (by omega)];simp
    | false =>
     rw[cF,AM (by omega)];simp
  refine (AX (f:=fun (s:(Bool×(RF×(Bool×((List (RQ×RQ))×((List (RQ×RQ))×((List (RQ×RQ))×(Int×Int))))))))=>Fe s.1 s.2.1 s.2.2.1 s.2.2.2.1 s.2.2.2.2.1 s.2.2.2.2.2.1 s.2.2.2.2.2.2.1 s.2.2.2.2.2.2.2)
   (s:=(b,(rqF s,(high,(out.map rp,(ps.map rp,(ps.map rp,((ps.length:Int),(k:Int))))))))) hgo).trans ?_
  have hst:=Ak1 b high s a c;rw[ih (k + 1) c (out++Sv b high s a c) (by omega) (fun h=>by rw[AH0 hlt]; exact hg) (by rw[zc7]; omega),hd,Dd,List.append_assoc]
theorem AO2:∀ (m k:Nat) (a:Q2) (out:List Q2),k + m=ps.length->(k<ps.length->ps[(k + ps.length-1)%ps.length]? = some a)->out.length<=2*k ->
  Ah (fun (s:(RF×((List (RQ×RQ))×((List (RQ×RQ))×(Bool×(Bool×((List (RQ×RQ))×(Int×Int))))))))=>C1 s.1 s.2.1 s.2.2.1 s.2.2.2.1 s.2.2.2.2.1 s.2.2.2.2.2.1 s.2.2.2.2.2.2.1 s.2.2.2.2.2.2.2)
   (rqF s,(out.map rp,(ps.map rp,(b,(high,(ps.map rp,((ps.length:Int),(k:Int))))))))=some ((out++Dd b high s a (ps.drop k)).map rp):=by
 intro m
 induction m with
 | zero =>
  intro k a out hk _ _;refine Aq ?_
  show C1 (rqF s) (out.map rp) (ps.map rp) b high (ps.map rp) (ps.length:Int) (k:Int)=_;unfold C1;rw[decide_eq_false (by omega),zd5 (by omega),Dd,ze5];rfl
 | succ m ih =>
  intro k a out hk ha hout;have h40:=hps.1;have hlt:k<ps.length:=by omega
  have ha:=ha hlt;have hd:ps.drop k=ps[k]::ps.drop (k + 1):=zb0 hlt;have hg:ps[k]? = some ps[k]:=za1 hlt;generalize ps[k]=c at hd hg;have sa:=hps.2 a (za4 ha);have sc:=hps.2 c (za4 hg);have hgo:C1 (rqF s) (out.map rp) (ps.map rp) b high (ps.map rp) (ps.length:Int) (k:Int)=some (.inl (rqF s,((out++Sv b high s a c).map rp,(ps.map rp,(b,(high,(ps.map rp,((ps.length:Int),((k + 1:Nat):Int))))))))):=by
   unfold C1;have hz:(((ps.length:Nat):Int)==0)=false:=beq_eq_false_iff_ne.2 (by omega);obtain ⟨v,v1,v2⟩:=A4S hK sa hs b high;obtain ⟨w,w1,w2⟩:=A4S hK sc hs b high;rw[decide_eq_true (by omega),cT,IK hg,obs,zd1,hz,cF,A5r hlt (by omega),IK ha,obs];simp only[A4,A6,A6O];rw[v1,obs,w1,obs,v2,w2];unfold Sv;have ol:(out.map rp).length<=100000:=by rw[zd1]; omega
   by_cases hne:ins b high s a=ins b high s c
   ·rw[show (ins b high s a==ins b high s c)=true from beq_iff_eq.2 hne,nT,cF,if_pos hne];cases hi:ins b high s c with
    | true =>
     rw[cT,At5 ol,obs,AM (by omega)];simp
    | false =>
     rw[cF,AM (by omega)];simp
   ·have hcut:=A2T hne;rw[show (ins b high s a==ins b high s c)=false from beq_eq_false_iff_ne.2 hne,nF,cT,A6b hK sa sc hs hcut,obs,A3O,Aj7,At5 ol,obs,if_neg hne];cases hi:ins b high s c with
    | true =>
     rw[cT,At5 (by simp; omega),obs,AM (by omega)];simp
    | false =>
     rw[cF,AM (by omega)];simp
  refine (AX (f:=fun (s:(RF×((List (RQ×RQ))×((List (RQ×RQ))×(Bool×(Bool×((List (RQ×RQ))×(Int×Int))))))))=>C1 s.1 s.2.1 s.2.2.1 s.2.2.2.1 s.2.2.2.2.1 s.2.2.2.2.2.1 s.2.2.2.2.2.2.1 s.2.2.2.2.2.2.2)
   (s:=(rqF s,(out.map rp,(ps.map rp,(b,(high,(ps.map rp,((ps.length:Int),(k:Int))))))))) hgo).trans ?_
  have hst:=Ak1 b high s a c;rw[ih (k + 1) c (out++Sv b high s a c) (by omega) (fun h=>by rw[AH0 hlt]; exact hg) (by rw[zc7]; omega),hd,Dd,List.append_assoc]
theorem AY1 (h : 0<ps.length):ps[(0 + ps.length-1)%ps.length]? = some (Nk ps):=by
 rw[ze4,Nat.mod_eq_of_lt (by omega),<-List.getLast?_eq_getElem?];unfold Nk;cases hl:ps.getLast? with
 | none=>rw[List.getLast?_eq_none_iff.1 hl] at h; simp at h
 | some x=>rfl
theorem Z0:Jg (ps.map rp) b high (rqF s)=some ((Gb b high s ps).map rp):=by
 have h:=AN5 hK hps hs b high ps.length 0 (Nk ps) [] (by omega) (fun h=>AY1 hK hps hs h) (by simp);rw[ze8,List.nil_append] at h;have h':Ah (fun (s:(Bool×(RF×(Bool×((List (RQ×RQ))×((List (RQ×RQ))×((List (RQ×RQ))×(Int×Int))))))))=>Fe s.1 s.2.1 s.2.2.1 s.2.2.2.1 s.2.2.2.2.1 s.2.2.2.2.2.1 s.2.2.2.2.2.2.1 s.2.2.2.2.2.2.2)
   (b,(rqF s,(high,((List.nil:List RPt),(ps.map rp,(ps.map rp,((ps.length:Int),(0:Int))))))))=_:=h
 unfold Jg;simp only[A4,A6];rw[zd1,h',obs];rfl
theorem NU:El (ps.map rp) b (rqF s) high=some ((Gb b high s ps).map rp):=by
 have h:=AO2 hK hps hs b high ps.length 0 (Nk ps) [] (by omega) (fun h=>AY1 hK hps hs h) (by simp);rw[ze8,List.nil_append] at h;have h':Ah (fun (s:(RF×((List (RQ×RQ))×((List (RQ×RQ))×(Bool×(Bool×((List (RQ×RQ))×(Int×Int))))))))=>C1 s.1 s.2.1 s.2.2.1 s.2.2.2.1 s.2.2.2.2.1 s.2.2.2.2.2.1 s.2.2.2.2.2.2.1 s.2.2.2.2.2.2.2)
   (rqF s,((List.nil:List RPt),(ps.map rp,(b,(high,(ps.map rp,((ps.length:Int),(0:Int))))))))=_:=h
 unfold El;simp only[A4,A6];rw[zd1,h',obs];rfl
theorem UP:(Gb b high s ps).length<=2*ps.length/\∀ p∈Gb b high s ps,SzP (7*K + 4) p:=by
 have h40:=hps.1;have h2:=hps.2;have key:∀ (l:List Q2) (a:Q2),SzP K a->(∀ p∈l,SzP K p)->(Dd b high s a l).length<=2*l.length/\∀ p∈Dd b high s a l,SzP (7*K + 4) p:=by
  intro l
  induction l with
  | nil=>intro a _ _; exact ⟨by simp[Dd],fun p hp=>by simp[Dd] at hp⟩
  | cons c l ih =>
   intro a ha hl;have hc:=hl c (by simp);obtain ⟨i1,i2⟩:=ih c hc (fun p hp=>hl p (List.mem_cons_of_mem _ hp));have hst:=Ak1 b high s a c;rw[Dd];refine ⟨by rw[zc7,zb8]; omega,fun p hp=>?_⟩
   rcases zb3.1 hp with hp | hp
   ·unfold Sv at hp;rcases zb3.1 hp with hp | hp
    ·by_cases e:ins b high s a=ins b high s c
     ·rw[if_pos e] at hp; cases hp
     ·rw[if_neg e] at hp;rw[zd8.1 hp];exact Be4 hK ha hc hs (A2T e)
    ·by_cases e:ins b high s c=true
     ·rw[if_pos e] at hp;rw[zd8.1 hp];exact hc.mono (by omega)
     ·rw[if_neg e] at hp; cases hp
   ·exact i2 p hp
 by_cases hn:ps = []
 ·unfold Gb;rw[hn];exact ⟨by simp[Dd],fun p hp=>by simp[Dd] at hp⟩
 ·obtain ⟨k1,k2⟩:=key ps (Nk ps) (h2 _ (A7k hn)) h2;exact ⟨k1,k2⟩
end
end
section
open Go
theorem AW2 (p:Q2):((fl (rp p)).1,((fl (rp p)).2.1,((fl (rp p)).2.2.1,((fl (rp p)).2.2.2.1,rqF p.2))))=fl (rp p):=(rfl)
section
variable {ps:List Q2} {lo hi:Q2} (hps:SzR ps) (hlo:SzP 2 lo) (hhi:SzP 2 hi)
include hps hlo hhi
theorem RN:SzN 8 ps/\SzN 60 (Gb false true lo.1 ps)/\SzN 424 (Gb false false hi.1 (Gb false true lo.1 ps))/\SzN 2972 (Gb true true lo.2 (Gb false false hi.1 (Gb false true lo.1 ps))) /\
  ((S0 lo hi ps).length<=640/\∀ p∈S0 lo hi ps,SzP 20808 p):=by
 have h40:=hps.1;have s0:SzN 8 ps:=⟨by omega,hps.2⟩;obtain ⟨l1,z1⟩:=UP (K:=8) (by omega) s0 (hlo.1.mono (by omega)) false true;have s1:SzN 60 (Gb false true lo.1 ps):=⟨by omega,fun p hp=>(z1 p hp).mono (by omega)⟩;obtain ⟨l2,z2⟩:=UP (K:=60) (by omega) s1 (hhi.1.mono (by omega)) false false;have s2:SzN 424 (Gb false false hi.1 (Gb false true lo.1 ps)):=⟨by omega,fun p hp=>(z2 p hp).mono (by omega)⟩;obtain ⟨l3,z3⟩:=UP (K:=424) (by omega) s2 (hlo.2.mono (by omega)) true true
 have s3:SzN 2972 (Gb true true lo.2 (Gb false false hi.1 (Gb false true lo.1 ps))):=⟨by omega,fun p hp=>(z3 p hp).mono (by omega)⟩;obtain ⟨l4,z4⟩:=UP (K:=2972) (by omega) s3 (hhi.2.mono (by omega)) true false;refine ⟨s0,s1,s2,s3,?_,fun p hp=>(z4 p hp).mono (by omega)⟩
 unfold S0;omega
theorem A7A:Jm (ps.map rp) (fl (rp lo)) (fl (rp hi))=some ((S0 lo hi ps).map rp):=by
 obtain ⟨s0,s1,s2,s3,_⟩:=RN hps hlo hhi;unfold Jm;simp only[A4,A6,TC,Tw,JI,JK,AW2];rw[Z0 (K:=8) (by omega) s0 (hlo.1.mono (by omega)),obs,Z0 (K:=60) (by omega) s1 (hhi.1.mono (by omega)),obs,Z0 (K:=424) (by omega) s2 (hlo.2.mono (by omega)),obs,Z0 (K:=2972) (by omega) s3 (hhi.2.mono (by omega)),obs];rfl
theorem A8R:Kq (ps.map rp) (fl (rp lo)) (fl (rp hi))=some ((S0 lo hi ps).map rp):=by
 obtain ⟨s0,s1,s2,s3,_⟩:=RN hps hlo hhi;unfold Kq;simp only[A4,A6,TC,Tw,JI,JK,AW2];rw[NU (K:=8) (by omega) s0 (hlo.1.mono (by omega)),obs,NU (K:=60) (by omega) s1 (hhi.1.mono (by omega)),obs,NU (K:=424) (by omega) s2 (hlo.2.mono (by omega)),obs,NU (K:=2972) (by omega) s3 (hhi.2.mono (by omega)),obs];rfl
end
def Vu (x:RPt):Bool:=(Cr x.1&&Cr x.2)&&(shQ 2 (fx x)&&shQ 2 (fy x))
theorem Kj {x:RPt}:Vu x=true↔∃ p,SzP 2 p/\x=rp p:=by
 constructor
 ·intro h;unfold Vu at h;simp only[za2] at h;obtain ⟨⟨h1,h2⟩,h3,h4⟩:=h;obtain ⟨a,ha,e1⟩:=Na.1 h1;obtain ⟨c,hc,e2⟩:=Na.1 h2;have exy:x=(rq a,rq c):=by rw[<-e1,<-e2]
  have ex:fx x=rqF a:=by rw[exy]; rfl
  have ey:fy x=rqF c:=by rw[exy]; rfl
  rw[ex,Zf (by omega)] at h3;rw[ey,Zf (by omega)] at h4;exact ⟨(a,c),⟨of_decide_eq_true h3,of_decide_eq_true h4⟩,by unfold rp; rw[<-e1,<-e2]⟩
 ·rintro ⟨p,hp,rfl⟩;unfold Vu;rw[JI,JK,Zf (by omega),Zf (by omega),decide_eq_true hp.1,decide_eq_true hp.2,Bool.and_true,Bool.and_true,za2];exact ⟨U6 (hp.1.mono (by omega)),U6 (hp.2.mono (by omega))⟩
theorem HQ {x:RPt} (h:BrP x):FO (fl x) 2=some (Vu x):=by
 have hl:Fg [x.1,x.2]=some (Cr x.1&&Cr x.2):=by
  rw[AF9 (by simp) (by
   intro a ha;simp at ha;rcases ha with rfl | rfl
   ·exact h.1
   ·exact h.2)]
  simp
 have e:((((fl x).1,(fl x).2.1),((fl x).2.2.1,(fl x).2.2.2.1)):RQ)=x.1:=rfl;have e':((((fl x).2.2.2.2.1,(fl x).2.2.2.2.2.1),(fl x).2.2.2.2.2.2):RQ)=x.2:=rfl;unfold FO Vu;simp only[A6];rw[e,e',hl,obs];have s1:=NI (fx x) 2;have s2:=NI (fy x) 2;rw[show ((2:Nat):Int)=2 from rfl] at s1 s2;cases hg:Cr x.1&&Cr x.2 with
 | false=>rfl
 | true =>
  rw[cT]
  try simp only[TC,Tw]
  rw[s1,obs,ze2];cases shQ 2 (fx x) with
  | false=>rfl
  | true=>rw[cT,s2,obs,ze2]
theorem JP {x:RPt} (h:BrP x):Kb (fl x)=some (Vu x):=by
 unfold Kb Vu;simp only[A6,TC,Tw];rw[Ao1 h.1,obs,A28];cases h1:Cr x.1 with
 | false=>rw[Bool.false_and,cF,Bool.false_and,Bool.false_and]
 | true =>
  cases h2:shQ 2 (fx x) with
  | false=>rw[Bool.and_false,cF,Bool.false_and,Bool.and_false]
  | true=>rw[Bool.and_true,cT,Ao1 h.2,obs,A3A,ze2,ze2]
section
variable {ps:List Q2} {lo hi:Q2} (hps:SzR ps) (hlo:SzP 2 lo) (hhi:SzP 2 hi) (hx:lo.1<=hi.1) (hy:lo.2<=hi.2)
include hps hlo hhi hx hy
theorem A6N:B0 (ps.map rp) (fl (rp lo)) (fl (rp hi))=some (ZM (S0 lo hi ps)):=by
 have hp:=hps.1;obtain ⟨_,_,_,_,c1,c2⟩:=RN hps hlo hhi;unfold B0;simp only[A4,A6,TC,Tw,JI,JK,AW2];rw[Da (by simp; omega) (T4 (k:=8) (by omega) hps.2),obs,Ii.2 hps,nT,cF,HQ (Ac5 (k:=2) (by omega) hlo),obs,Kj.2 ⟨lo,hlo,rfl⟩,nT,cF,HQ (Ac5 (k:=2) (by omega) hhi),obs,Kj.2 ⟨hi,hhi,rfl⟩,nT,cF,
  Ft (k:=2) (by omega) hhi.1 hlo.1,obs,decide_eq_false (Rat.not_lt.2 hx),cF,Ft (k:=2) (by omega) hhi.2 hlo.2,obs,decide_eq_false (Rat.not_lt.2 hy),cF,A7A hps hlo hhi,obs,Av1 (k:=20808) (by omega) (by omega) c2,obs]
theorem A7c:BX (ps.map rp) (fl (rp lo)) (fl (rp hi))=some (ZM (S0 lo hi ps)):=by
 have hp:=hps.1;obtain ⟨_,_,_,_,c1,c2⟩:=RN hps hlo hhi;have nx:¬Vo lo.1 hi.1>0:=fun h=>Rat.not_lt.2 hx (LW.1 h)
 have ny:¬Vo lo.2 hi.2>0:=fun h=>Rat.not_lt.2 hy (LW.1 h)
 unfold BX;simp only[A4,A6,TC,Tw,JI,JK,AW2];rw[Gx (by simp; omega) (T4 (k:=8) (by omega) hps.2),obs,Ii.2 hps,nT,cF,JP (Ac5 (k:=2) (by omega) hlo),obs,Kj.2 ⟨lo,hlo,rfl⟩,nT,cF,JP (Ac5 (k:=2) (by omega) hhi),obs,Kj.2 ⟨hi,hhi,rfl⟩,nT,cF,
  OE (k:=2) (by omega) hlo.1 hhi.1,obs,decide_eq_false nx,cF,OE (k:=2) (by omega) hlo.2 hhi.2,obs,decide_eq_false ny,cF,A8R hps hlo hhi,obs,A6G (k:=20808) (by omega) (by omega) c2,obs]
end
theorem Bb9 {m:List Q2} (h:(ZM m).2=true):SzR m/\ZM m=(m.map rp,true):=by
 unfold ZM at h ⊢
 by_cases hg:H9 (m.map rp)=true
 ·rw[if_pos hg]; exact ⟨Ii.1 hg,rfl⟩
 ·rw[if_neg hg] at h; cases h
theorem A5N {m:List Q2} (h:(ZM m).2=false):(ZM m).1 = []:=by
 unfold ZM at h ⊢
 by_cases hg:H9 (m.map rp)=true
 ·rw[if_pos hg] at h; cases h
 ·rw[if_neg hg]
theorem A3G {l:List RPt} {a c:RPt} (hl:l.length<=1000) (hb:∀ x∈l,BrP x) (ha:BrP a) (hc:BrP c):∃ f,B0 l (fl a) (fl c)=some f/\BX l (fl a) (fl c)=some f/\(f.2=false->f.1 = []) /\
  (f.2=true->∃ ps lo hi,SzR ps/\SzP 2 lo/\SzP 2 hi/\lo.1<=hi.1/\lo.2<=hi.2/\l=ps.map rp/\a=rp lo/\c=rp hi/\SzR (S0 lo hi ps)/\f=((S0 lo hi ps).map rp,true)):=by
 have bad:B0 l (fl a) (fl c)=some ([],false)->BX l (fl a) (fl c)=some ([],false)->∃ f,B0 l (fl a) (fl c)=some f/\BX l (fl a) (fl c)=some f/\(f.2=false->f.1 = []) /\
  (f.2=true->∃ ps lo hi,SzR ps/\SzP 2 lo/\SzP 2 hi/\lo.1<=hi.1/\lo.2<=hi.2/\l=ps.map rp/\a=rp lo/\c=rp hi/\SzR (S0 lo hi ps)/\f=((S0 lo hi ps).map rp,true)) :=
  fun h1 h2=>⟨_,h1,h2,fun _=>rfl,fun h=>by cases h⟩
 cases hg:H9 l with
 | false =>
  refine bad ?_ ?_
  ·unfold B0;rw[Da (by omega) hb,obs,hg,nF,cT]
  ·unfold BX;rw[Gx (by omega) hb,obs,hg,nF,cT]
 | true =>
  cases g1:Vu a with
  | false =>
   refine bad ?_ ?_
   ·unfold B0;simp only[A4,A6];rw[Da (by omega) hb,obs,hg,nT,cF,HQ ha,obs,g1,nF,cT]
   ·unfold BX;simp only[A4,A6];rw[Gx (by omega) hb,obs,hg,nT,cF,JP ha,obs,g1,nF,cT]
  | true =>
   cases g2:Vu c with
   | false =>
    refine bad ?_ ?_
    ·unfold B0;simp only[A4,A6];rw[Da (by omega) hb,obs,hg,nT,cF,HQ ha,obs,g1,nT,cF,HQ hc,obs,g2,nF,cT]
    ·unfold BX;simp only[A4,A6];rw[Gx (by omega) hb,obs,hg,nT,cF,JP ha,obs,g1,nT,cF,JP hc,obs,g2,nF,cT]
   | true =>
    obtain ⟨ps,hps,el⟩:=A7q.1 hg;obtain ⟨lo,hlo,ea⟩:=Kj.1 g1;obtain ⟨hi,hhi,ec⟩:=Kj.1 g2;by_cases hx:lo.1<=hi.1
    ·by_cases hy:lo.2<=hi.2
     ·have q1:=A6N hps hlo hhi hx hy;have q2:=A7c hps hlo hhi hx hy;rw[<-el,<-ea,<-ec] at q1 q2;refine ⟨_,q1,q2,A5N,fun h=>?_⟩
      obtain ⟨o1,o2⟩:=Bb9 h;exact ⟨ps,lo,hi,hps,hlo,hhi,hx,hy,el,ea,ec,o1,o2⟩
     ·have hy':=Rat.not_le.1 hy;refine bad ?_ ?_
      ·unfold B0;simp only[A4,A6];rw[Da (by omega) hb,obs,hg,nT,cF,HQ ha,obs,g1,nT,cF,HQ hc,obs,g2,nT,cF,ea,ec];simp only[A4,A6,TC,Tw,JI,JK,AW2];rw[Ft (k:=2) (by omega) hhi.1 hlo.1,obs,decide_eq_false (Rat.not_lt.2 hx),cF,Ft (k:=2) (by omega) hhi.2 hlo.2,obs,decide_eq_true hy',cT]
      ·unfold BX;simp only[A4,A6];rw[Gx (by omega) hb,obs,hg,nT,cF,JP ha,obs,g1,nT,cF,JP hc,obs,g2,nT,cF,ea,ec];simp only[A4,A6,TC,Tw,JI,JK,AW2];have nx:¬Vo lo.1 hi.1>0:=fun h=>Rat.not_lt.2 hx (LW.1 h)
       rw[OE (k:=2) (by omega) hlo.1 hhi.1,obs,decide_eq_false nx,cF,OE (k:=2) (by omega) hlo.2 hhi.2,obs,decide_eq_true (LW.2 hy'),cT]
    ·have hx':=Rat.not_le.1 hx;refine bad ?_ ?_
     ·unfold B0;simp only[A4,A6];rw[Da (by omega) hb,obs,hg,nT,cF,HQ ha,obs,g1,nT,cF,HQ hc,obs,g2,nT,cF,ea,ec];simp only[A4,A6,TC,Tw,JI,JK,AW2];rw[Ft (k:=2) (by omega) hhi.1 hlo.1,obs,decide_eq_true hx',cT]
     ·unfold BX;simp only[A4,A6];rw[Gx (by omega) hb,obs,hg,nT,cF,JP ha,obs,g1,nT,cF,JP hc,obs,g2,nT,cF,ea,ec];simp only[A4,A6,TC,Tw,JI,JK,AW2];rw[OE (k:=2) (by omega) hlo.1 hhi.1,obs,decide_eq_true (LW.2 hx'),cT]
end
section
open Go
def ptQ (p:Int×Int):Q2:=((p.1:Rat),(p.2:Rat))
theorem UZ {n:Int} (h1 : -100000<=n) (h2:n<=100000):Sz 2 (n:Rat):=AS1 (by have:B 2=4294967296:=rfl; omega) (by omega)
def SmP (p:Int×Int):Prop:=(-100000<=p.1/\p.1<=100000)/\(-100000<=p.2/\p.2<=100000)
theorem Bp8 {p:Int×Int} (h:SmP p):SzP 2 (ptQ p):=⟨UZ h.1.1 h.1.2,UZ h.2.1 h.2.2⟩
theorem GP.sm {p:Int×Int} (h:GP p):SmP p:=by
 obtain ⟨a,b,c,d⟩:=h;unfold SmP;omega
theorem Ag2 {p:Int×Int} (h:SmP p):Ih p=some (fl (rp (ptQ p))):=by
 obtain ⟨⟨h1,h2⟩,h3,h4⟩:=h;unfold Ih
 try simp only
 rw[Ry (by omega) (by omega),obs,Ry (by omega) (by omega),obs];rfl
theorem A8P {w:List (Int×Int)} (hl:w.length<=1000) (h:∀ p∈w,SmP p):LD w=some ((w.map ptQ).map rp):=by
 have key:∀ (m k:Nat) (l:List RPt),k + m=w.length->l.length=k->Ah (fun (s:((List RPt)×((List (Int×Int))×(Int×Int))))=>Dy s.1 s.2.1 s.2.2.1 s.2.2.2) (l,(w,((w.length:Int),(k:Int))))=some (l++((w.drop k).map ptQ).map rp):=by
  intro m
  induction m with
  | zero =>
   intro k l hk hlk;refine Aq ?_
   show Dy l w (w.length:Int) (k:Int)=_;unfold Dy;rw[decide_eq_false (by omega),zd5 (by omega)];simp[cF]
  | succ m ih =>
   intro k l hk hlk;have hlt:k<w.length:=by omega
   have hg:w[k]? = some w[k]:=za1 hlt;have hd:w.drop k=w[k]::w.drop (k + 1):=zb0 hlt;have gp:=h _ (za4 hg);generalize w[k]=p at hg hd gp;obtain ⟨⟨g1,g2⟩,g3,g4⟩:=gp;have hb:Dy l w (w.length:Int) (k:Int)=some (.inl (l ++ [rp (ptQ p)],(w,((w.length:Int),((k + 1:Nat):Int))))):=by
    unfold Dy;rw[decide_eq_true (by omega),cT,An,hg,obs]
    try simp only
    rw[IJ (by omega) (by omega),obs,IJ (by omega) (by omega),obs];simp only[A6];have e:(((((rqF (p.1:Rat)).1,(rqF (p.1:Rat)).2.1),(rqF (p.1:Rat)).2.2),(((rqF (p.2:Rat)).1,(rqF (p.2:Rat)).2.1),(rqF (p.2:Rat)).2.2)):RPt)=rp (ptQ p):=rfl;rw[e,At5 (by omega),obs,AM (by omega)]
   refine (AX (f:=fun (s:((List RPt)×((List (Int×Int))×(Int×Int))))=>Dy s.1 s.2.1 s.2.2.1 s.2.2.2) (s:=(l,(w,((w.length:Int),(k:Int))))) hb).trans ?_
   rw[ih (k + 1) _ (by omega) (by simp; omega),hd];simp
 have k0:=key w.length 0 [] (by omega) rfl;have k0':Ah (fun (s:((List RPt)×((List (Int×Int))×(Int×Int))))=>Dy s.1 s.2.1 s.2.2.1 s.2.2.2) ((List.nil:List RPt),(w,((w.length:Int),(0:Int))))=_:=k0;unfold LD;rw[k0',obs];rfl
theorem Au4 {w:List (Int×Int)} (hl:w.length<=1000) (h:∀ p∈w,SmP p):Ah (fun (s:((List RPt)×((List (Int×Int))×(Int×Int))))=>DB s.1 s.2.1 s.2.2.1 s.2.2.2) ((List.nil:List RPt),(w,((w.length:Int),(0:Int))))=some ((w.map ptQ).map rp):=by
 have key:∀ (m k:Nat) (l:List RPt),k + m=w.length->l.length=k->Ah (fun (s:((List RPt)×((List (Int×Int))×(Int×Int))))=>DB s.1 s.2.1 s.2.2.1 s.2.2.2) (l,(w,((w.length:Int),(k:Int))))=some (l++((w.drop k).map ptQ).map rp):=by
  intro m
  induction m with
  | zero =>
   intro k l hk hlk;refine Aq ?_
   show DB l w (w.length:Int) (k:Int)=_;unfold DB;rw[decide_eq_false (by omega),zd5 (by omega)];simp[cF]
  | succ m ih =>
   intro k l hk hlk;have hlt:k<w.length:=by omega
   have hg:w[k]? = some w[k]:=za1 hlt;have hd:w.drop k=w[k]::w.drop (k + 1):=zb0 hlt;have gp:=h _ (za4 hg);generalize w[k]=p at hg hd gp;have hb:DB l w (w.length:Int) (k:Int)=some (.inl (l ++ [rp (ptQ p)],(w,((w.length:Int),((k + 1:Nat):Int))))):=by
    unfold DB;rw[decide_eq_true (by omega),cT,An,hg,obs];simp only[A6];rw[Ag2 gp,obs,A3O,Aj7,At5 (by omega),obs,AM (by omega)]
   refine (AX (f:=fun (s:((List RPt)×((List (Int×Int))×(Int×Int))))=>DB s.1 s.2.1 s.2.2.1 s.2.2.2) (s:=(l,(w,((w.length:Int),(k:Int))))) hb).trans ?_
   rw[ih (k + 1) _ (by omega) (by simp; omega),hd];simp
 exact key w.length 0 [] (by omega) rfl
theorem A3w {w:List (Int×Int)} (h:Mf w=true):∀ p∈w,SmP p:=by
 intro p hp;have:=(J7.1 h).2 p hp;rw[A3y] at this;unfold SmP;omega
theorem Bh8 {w:List (Int×Int)} (h:Mf w=true):SzR (w.map ptQ):=by
 have h12:=(J7.1 h).1.2;refine ⟨by rw[zd1]; omega,fun p hp=>?_⟩
 obtain ⟨q,hq,rfl⟩:=zd4.1 hp;exact (Bp8 (A3w h q hq)).mono (by omega)
end
section
open Go
def E5 (x y:Int):Q2:=((x:Rat),(y:Rat))
def sqA (ps:List Q2) (x y:Int):Rat:=MZ (S0 (E5 x y) (E5 (x + 1) (y + 1)) ps)
def A1M (ps:List Q2) (y:Int):Nat->Int->List Rat
 | 0,_=>[]
 | n + 1,x=>sqA ps x y::A1M ps y n (x + 1)
def Ax0 (ps:List Q2) (w:Nat) (x:Int):Nat->Int->List Rat
 | 0,_=>[]
 | n + 1,y=>A1M ps y w x++Ax0 ps w x n (y + 1)
theorem Ao8 (ps:List Q2) (y:Int):∀ (n:Nat) (x:Int),(A1M ps y n x).length=n
 | 0,_=>rfl
 | n + 1,x=>by rw[A1M,zb8,Ao8]
theorem A07 (ps:List Q2) (w:Nat) (x:Int):∀ (n:Nat) (y:Int),(Ax0 ps w x n y).length=w*n
 | 0,_=>rfl
 | n + 1,y=>by rw[Ax0,zc7,Ao8,A07,Nat.mul_succ]; omega
end
section
open Go
theorem AA9 {x y:Int} (hx : -100<=x/\x<=100) (hy : -100<=y/\y<=100):SzP 2 (E5 x y):=⟨UZ (by omega) (by omega),UZ (by omega) (by omega)⟩
theorem A0g {x y:Int}:(((rqF (x:Rat)).1,((rqF (x:Rat)).2.1,((rqF (x:Rat)).2.2.1,((rqF (x:Rat)).2.2.2,rqF (y:Rat))))))=fl (rp (E5 x y)):=(rfl)
theorem A4p {q:Rat} (h:(SC q).2=false):SC q=(zF,false):=by
 by_cases hz:Sz 40 q
 ·rw[Kg hz] at h; cases h
 ·exact RY hz
theorem A5Q {l:List RPt} (hl:l.length<=1000) (hb:∀ x∈l,BrP x) {x y:Int} (hx : -90<=x/\x<=90) (hy : -90<=y/\y<=90):∃ f:RF×Bool,Eg l x y=some f/\Ew l x y=some f/\(f.2=false->f=(zF,false)) /\
  (f.2=true->∃ ps,SzR ps/\l=ps.map rp/\SzR (S0 (E5 x y) (E5 (x + 1) (y + 1)) ps)/\Sz 40 (sqA ps x y/2)/\f=(rqF (sqA ps x y/2),true)):=by
 have c1:=AA9 (x:=x) (y:=y) (by omega) (by omega);have c2:=AA9 (x:=x + 1) (y:=y + 1) (by omega) (by omega);obtain ⟨f,f1,f2,_,f4⟩:=A3G hl hb (Ac5 (k:=2) (by omega) c1) (Ac5 (k:=2) (by omega) c2);have i1:Eg l x y=(bif !f.2 then some (zF,false) else (FK f.1).bind fun x5=>some (x5.1,x5.2)):=by
  unfold Eg;rw[IJ (by omega) (by omega),obs,IJ (by omega) (by omega),obs,Aj (by omega) (by omega),IJ (by omega) (by omega),obs,Aj (by omega) (by omega),IJ (by omega) (by omega),obs];simp only[A4,A6];rw[A0g,A0g,f1,obs];rfl
 have s1:Ew l x y=(bif !f.2 then some (zF,false) else (Hf f.1).bind fun x3=>(Et x3).bind fun x4=>some (x4.1,x4.2)):=by
  have h1:SmP (x,y):=by unfold SmP; simp only; omega
  have h2:SmP (x + 1,y + 1):=by unfold SmP; simp only; omega
  unfold Ew;rw[Ag2 h1,obs,Aj (by omega) (by omega),Aj (by omega) (by omega),Ag2 h2,obs];simp only[A4,A6];rw[show ptQ (x,y)=E5 x y from rfl,show ptQ (x + 1,y + 1)=E5 (x + 1) (y + 1) from rfl,f2,obs];rfl
 rw[i1,s1];cases h:f.2 with
 | false =>
  exact ⟨(zF,false),by rw[nF,cT],by rw[nF,cT],fun _=>rfl,fun h=>by cases h⟩
 | true =>
  obtain ⟨ps,lo,hi,hps,hlo,hhi,hx',hy',el,ea,ec,hm,ef⟩:=f4 h;have e1:lo=E5 x y:=AP2 ea.symm;have e2:hi=E5 (x + 1) (y + 1):=AP2 ec.symm;rw[e1,e2] at hm ef;have ef1:f.1=(S0 (E5 x y) (E5 (x + 1) (y + 1)) ps).map rp:=by rw[ef]
  refine ⟨SC (sqA ps x y/2),?_,?_,A4p,fun hf=>?_⟩
  ·rw[nT,cF,ef1,A3D hm,obs];simp only[A6,sqA]
  ·rw[nT,cF,ef1,(X4 hm).1,obs,VQ (k:=2722) (by omega) (X4 hm).2,obs];simp only[A6,sqA]
  ·by_cases hz:Sz 40 (sqA ps x y/2)
   ·exact ⟨ps,hps,el,hm,hz,Kg hz⟩
   ·rw[RY hz] at hf; cases hf
noncomputable def shV (l:List RPt) (x y:Int):RF×Bool:=(Eg l x y).getD (zF,false)
theorem Uj {l:List RPt} (hl:l.length<=1000) (hb:∀ x∈l,BrP x) {x y:Int} (hx : -90<=x/\x<=90) (hy : -90<=y/\y<=90):Eg l x y=some (shV l x y)/\Ew l x y=some (shV l x y)/\((shV l x y).2=false->shV l x y=(zF,false)) /\
  ((shV l x y).2=true->∃ ps,SzR ps/\l=ps.map rp/\SzR (S0 (E5 x y) (E5 (x + 1) (y + 1)) ps)/\Sz 40 (sqA ps x y/2)/\shV l x y=(rqF (sqA ps x y/2),true)):=by
 obtain ⟨f,h1,h2,h3',h4⟩:=A5Q hl hb hx hy;have e:shV l x y=f:=by unfold shV; rw[h1]; rfl
 rw[e];exact ⟨h1,h2,h3',h4⟩
noncomputable def LU (l:List RPt) (y:Int):Nat->Int->Option (List RQ)
 | 0,_=>some []
 | n + 1,x=>if (shV l x y).2=true then (LU l y n (x + 1)).map (toQ (shV l x y).1 :: ·) else none
noncomputable def JB (l:List RPt) (w:Nat) (x:Int):Nat->Int->Option (List RQ)
 | 0,_=>some []
 | n + 1,y=>(LU l y w x).bind fun r=>(JB l w x n (y + 1)).map (r ++ ·)
abbrev BN:=Int×(Int×(Int×Int))
def Au1 {α:Type} (f:List RQ->α):Option (List RQ)->α ⊕ (List RQ×Bool)
 | some r=>.inl (f r)
 | none=>.inr ([],false)
theorem Bo8 {l:List RQ} {x:RQ} (h:l.length<=100000):Ct 64 4 l [x]=some (l ++ [x]):=Dm (by simp[Ag]; omega) (by simp[Ag]; omega)
section
variable {l:List RPt} (hl:l.length<=1000) (hb:∀ x∈l,BrP x) {w:BN} (w1 : -40<=w.1/\w.1<=40) (w2 : -40<=w.2.1/\w.2.1<=40) (w3 : 0<=w.2.2.1/\w.2.2.1<=40) (w4 : 0<=w.2.2.2/\w.2.2.2<=40)
include hl hb w1 w2 w3 w4
theorem Am4 {y:Int} (hy:w.2.1<=y/\y<w.2.1 + w.2.2.2):∀ (n:Nat) (x:Int) (out:List RQ),x + (n:Int)=w.1 + w.2.2.1->w.1<=x->out.length + n<=10000 ->
  Ah (fun (s:(BN×((List RQ)×((List RPt)×(Int×Int)))))=>Cc s.1 s.2.1 s.2.2.1 s.2.2.2.1 s.2.2.2.2) (w,(out,(l,(y,x)))) =
   some (Au1 (fun r=>(w,(out++r,(l,y)))) (LU l y n x))
 | 0,x,out,hx,hx',ho=>by
  refine Aq ?_
  show Cc w out l y x=_;unfold Cc;rw[Aj (by omega) (by omega),decide_eq_false (by omega),cF,LU];exact congrArg (fun z=>some (Sum.inr (Sum.inl (w,(z,(l,y)))))) (ze5 out).symm
 | n + 1,x,out,hx,hx',ho=>by
  obtain ⟨s1,s2,_,s4⟩:=Uj hl hb (x:=x) (y:=y) (by omega) (by omega);rw[LU];cases h:(shV l x y).2 with
  | false =>
   rw[if_neg (by simp)];refine Aq ?_
   show Cc w out l y x=_;unfold Cc;rw[Aj (by omega) (by omega),decide_eq_true (by omega),cT,s1,obs,h,nF,cT];rfl
  | true =>
   rw[if_pos rfl];have hgo:Cc w out l y x=some (.inl (w,(out ++ [toQ (shV l x y).1],(l,(y,x + 1))))):=by
    unfold Cc;rw[Aj (n:=w.1 + w.2.2.1) (by omega) (by omega),decide_eq_true (by omega),cT,s1,obs,h,nT,cF,Bo8 (by omega),obs,Aj (n:=x + 1) (by omega) (by omega)];rfl
   refine (AX (f:=fun (s:(BN×((List RQ)×((List RPt)×(Int×Int)))))=>Cc s.1 s.2.1 s.2.2.1 s.2.2.2.1 s.2.2.2.2) (s:=(w,(out,(l,(y,x))))) hgo).trans ?_
   rw[Am4 hy n (x + 1) _ (by omega) (by omega) (by rw[zc7,List.length_singleton]; omega)];cases LU l y n (x + 1) with
   | none=>rfl
   | some r=>simp[Au1]
theorem Ae4 {y:Int} (hy:w.2.1<=y/\y<w.2.1 + w.2.2.2):∀ (n:Nat) (x:Int) (out:List RQ),x + (n:Int)=w.1 + w.2.2.1->w.1<=x->out.length + n<=10000 ->
  Ah (fun (s:(BN×((List RQ)×((List RPt)×(Int×Int)))))=>Cd s.1 s.2.1 s.2.2.1 s.2.2.2.1 s.2.2.2.2) (w,(out,(l,(y,x)))) =
   some (Au1 (fun r=>(w,(out++r,(l,y)))) (LU l y n x))
 | 0,x,out,hx,hx',ho=>by
  refine Aq ?_
  show Cd w out l y x=_;unfold Cd;rw[Aj (by omega) (by omega),decide_eq_false (by omega),cF,LU];exact congrArg (fun z=>some (Sum.inr (Sum.inl (w,(z,(l,y)))))) (ze5 out).symm
 | n + 1,x,out,hx,hx',ho=>by
  obtain ⟨s1,s2,_,s4⟩:=Uj hl hb (x:=x) (y:=y) (by omega) (by omega);rw[LU];cases h:(shV l x y).2 with
  | false =>
   rw[if_neg (by simp)];refine Aq ?_
   show Cd w out l y x=_;unfold Cd;rw[Aj (by omega) (by omega),decide_eq_true (by omega),cT,s2,obs,h,nF,cT];rfl
  | true =>
   rw[if_pos rfl];have hgo:Cd w out l y x=some (.inl (w,(out ++ [toQ (shV l x y).1],(l,(y,x + 1))))):=by
    unfold Cd;rw[Aj (n:=w.1 + w.2.2.1) (by omega) (by omega),decide_eq_true (by omega),cT,s2,obs,h,nT,cF,Bo8 (by omega),obs,Aj (n:=x + 1) (by omega) (by omega)];rfl
   refine (AX (f:=fun (s:(BN×((List RQ)×((List RPt)×(Int×Int)))))=>Cd s.1 s.2.1 s.2.2.1 s.2.2.2.1 s.2.2.2.2) (s:=(w,(out,(l,(y,x))))) hgo).trans ?_
   rw[Ae4 hy n (x + 1) _ (by omega) (by omega) (by rw[zc7,List.length_singleton]; omega)];cases LU l y n (x + 1) with
   | none=>rfl
   | some r=>simp[Au1]
theorem Al8 (y:Int):∀ (n:Nat) (x:Int) (r:List RQ),LU l y n x=some r->r.length=n
 | 0,x,r,h=>by
  rw[LU] at h;rw[<-Option.some.inj h]; rfl
 | n + 1,x,r,h=>by
  rw[LU] at h
  split at h
  ·cases hr:LU l y n (x + 1) with
   | none=>rw[hr] at h; cases h
   | some r' =>
    rw[hr] at h;rw[<-Option.some.inj h,zb8,Al8 y n (x + 1) r' hr]
  ·cases h
theorem Af2:∀ (n:Nat) (y:Int) (out:List RQ),y + (n:Int)=w.2.1 + w.2.2.2->w.2.1<=y->out.length + 40*n<=9000 ->
  Ah (fun (s:(BN×((List RQ)×((List RPt)×Int))))=>BQ s.1 s.2.1 s.2.2.1 s.2.2.2) (w,(out,(l,y))) =
   some (Au1 (fun r=>out++r) (JB l w.2.2.1.toNat w.1 n y))
 | 0,y,out,hy,hy',ho=>by
  refine Aq ?_
  show BQ w out l y=_;unfold BQ;rw[Aj (by omega) (by omega),decide_eq_false (by omega),cF,JB];exact congrArg (fun z=>some (Sum.inr (Sum.inl z))) (ze5 out).symm
 | n + 1,y,out,hy,hy',ho=>by
  have row:=Am4 hl hb w1 w2 w3 w4 (y:=y) (by omega) w.2.2.1.toNat w.1 out (by omega) (by omega) (by omega);rw[JB];cases h:LU l y w.2.2.1.toNat w.1 with
  | none =>
   rw[h] at row;change _=some (Sum.inr (([]:List RQ),false)) at row;refine Aq ?_
   show BQ w out l y=_;unfold BQ;rw[Aj (by omega) (by omega),decide_eq_true (by omega),cT,row,obs,sEr];rfl
  | some r =>
   rw[h] at row;change _=some (Sum.inl (w,(out++r,(l,y)))) at row;have hlen:=Al8 hl hb w1 w2 w3 w4 y _ _ _ h;have hgo:BQ w out l y=some (.inl (w,(out++r,(l,y + 1)))):=by
    unfold BQ;rw[Aj (n:=w.2.1 + w.2.2.2) (by omega) (by omega),decide_eq_true (by omega),cT,row,obs,sEl,Aj (n:=y + 1) (by omega) (by omega)]
   refine (AX (f:=fun (s:(BN×((List RQ)×((List RPt)×Int))))=>BQ s.1 s.2.1 s.2.2.1 s.2.2.2) (s:=(w,(out,(l,y)))) hgo).trans ?_
   rw[Af2 n (y + 1) _ (by omega) (by omega) (by rw[zc7]; omega)];show _=some (Au1 (fun r=>out++r) ((JB l w.2.2.1.toNat w.1 n (y + 1)).map (r ++ ·)));cases JB l w.2.2.1.toNat w.1 n (y + 1) with
   | none=>rfl
   | some r'=>simp[Au1]
theorem Ap5:∀ (n:Nat) (y:Int) (out:List RQ),y + (n:Int)=w.2.1 + w.2.2.2->w.2.1<=y->out.length + 40*n<=9000 ->
  Ah (fun (s:(BN×((List RQ)×((List RPt)×Int))))=>BO s.1 s.2.1 s.2.2.1 s.2.2.2) (w,(out,(l,y))) =
   some (Au1 (fun r=>out++r) (JB l w.2.2.1.toNat w.1 n y))
 | 0,y,out,hy,hy',ho=>by
  refine Aq ?_
  show BO w out l y=_;unfold BO;rw[Aj (by omega) (by omega),decide_eq_false (by omega),cF,JB];exact congrArg (fun z=>some (Sum.inr (Sum.inl z))) (ze5 out).symm
 | n + 1,y,out,hy,hy',ho=>by
  have row:=Ae4 hl hb w1 w2 w3 w4 (y:=y) (by omega) w.2.2.1.toNat w.1 out (by omega) (by omega) (by omega);rw[JB];cases h:LU l y w.2.2.1.toNat w.1 with
  | none =>
   rw[h] at row;change _=some (Sum.inr (([]:List RQ),false)) at row;refine Aq ?_
   show BO w out l y=_;unfold BO;rw[Aj (by omega) (by omega),decide_eq_true (by omega),cT,row,obs,sEr];rfl
  | some r =>
   rw[h] at row;change _=some (Sum.inl (w,(out++r,(l,y)))) at row;have hlen:=Al8 hl hb w1 w2 w3 w4 y _ _ _ h;have hgo:BO w out l y=some (.inl (w,(out++r,(l,y + 1)))):=by
    unfold BO;rw[Aj (n:=w.2.1 + w.2.2.2) (by omega) (by omega),decide_eq_true (by omega),cT,row,obs,sEl,Aj (n:=y + 1) (by omega) (by omega)]
   refine (AX (f:=fun (s:(BN×((List RQ)×((List RPt)×Int))))=>BO s.1 s.2.1 s.2.2.1 s.2.2.2) (s:=(w,(out,(l,y)))) hgo).trans ?_
   rw[Ap5 n (y + 1) _ (by omega) (by omega) (by rw[zc7]; omega)];show _=some (Au1 (fun r=>out++r) ((JB l w.2.2.1.toNat w.1 n (y + 1)).map (r ++ ·)));cases JB l w.2.2.1.toNat w.1 n (y + 1) with
   | none=>rfl
   | some r'=>simp[Au1]
end
def H3 (w:BN):Bool:=Dq w.1 (-20) 20&&(Dq w.2.1 (-20) 20&&(Dq w.2.2.1 1 8&&Dq w.2.2.2 1 8))
theorem Oy (w:BN):Dj w=some (H3 w):=by
 unfold Dj H3;rw[Vc,obs];cases Dq w.1 (-20) 20 with
 | false=>rfl
 | true =>
  rw[cT,Vc,obs];cases Dq w.2.1 (-20) 20 with
  | false=>rfl
  | true =>
   rw[cT,Vc,obs];cases Dq w.2.2.1 1 8 with
   | false=>rfl
   | true=>rw[cT,Vc,obs]; rfl
theorem NG (w:BN):C8 w=some (H3 w):=by
 unfold C8 H3;rw[WM,obs];cases Dq w.1 (-20) 20 with
 | false=>rfl
 | true =>
  rw[cT,WM,obs];cases Dq w.2.1 (-20) 20 with
  | false=>rfl
  | true =>
   rw[cT,WM,obs];cases Dq w.2.2.1 1 8 with
   | false=>rfl
   | true=>rw[cT,WM,obs]; rfl
theorem Ia {w:BN}:H3 w=true↔(-20<=w.1/\w.1<=20)/\(-20<=w.2.1/\w.2.1<=20)/\(1<=w.2.2.1/\w.2.2.1<=8)/\(1<=w.2.2.2/\w.2.2.2<=8):=by
 unfold H3;rw[za2,za2,za2,Kn,Kn,Kn,Kn]
theorem A2S {l:List RPt} (hl:l.length<=1000) (hb:∀ x∈l,BrP x) (w:BN):∃ f:List RQ×Bool,B8 l w=some f/\CP l w=some f /\
  (f.2=false->f.1 = [])/\(f.2=true->H9 l=true/\H3 w=true/\JB l w.2.2.1.toNat w.1 w.2.2.2.toNat w.2.1=some f.1):=by
 cases hw:H3 w with
 | false =>
  refine ⟨([],false),?_,?_,fun _=>rfl,fun h=>by cases h⟩
  ·unfold B8;simp only[A4,A6];rw[Da (by omega) hb,obs];cases H9 l with
   | false=>rw[nF,cT]
   | true=>rw[nT,cF,Oy,obs,hw,nF,cT]
  ·unfold CP;simp only[A4,A6];rw[NG,obs,hw,nF,cT]
 | true =>
  obtain ⟨w1,w2,w3,w4⟩:=Ia.1 hw;have il:=Af2 hl hb (w:=w) (by omega) (by omega) (by omega) (by omega) w.2.2.2.toNat w.2.1 [] (by omega) (by omega) (by simp; omega);have sl:=Ap5 hl hb (w:=w) (by omega) (by omega) (by omega) (by omega) w.2.2.2.toNat w.2.1 [] (by omega) (by omega) (by simp; omega);have ss:CP l w=some (match JB l w.2.2.1.toNat w.1 w.2.2.2.toNat w.2.1 with | some r=>(r,true) | none=>(([]:List RQ),false)):=by
   unfold CP;simp only[A4,A6];have sl':Ah (fun (s:(BN×((List RQ)×((List RPt)×Int))))=>BO s.1 s.2.1 s.2.2.1 s.2.2.2) (w,((List.nil:List RQ),(l,w.2.1)))=_:=sl;rw[NG,obs,hw,nT,cF,sl',obs];cases JB l w.2.2.1.toNat w.1 w.2.2.2.toNat w.2.1 with
   | none=>rfl
   | some r=>rfl
  cases hg:H9 l with
  | false =>
   have hn:JB l w.2.2.1.toNat w.1 w.2.2.2.toNat w.2.1=none:=by
    obtain ⟨s1,s2,_,s4⟩:=Uj hl hb (x:=w.1) (y:=w.2.1) (by omega) (by omega);have h0:(shV l w.1 w.2.1).2=false:=by
     cases h:(shV l w.1 w.2.1).2 with
     | false=>rfl
     | true =>
      obtain ⟨ps,hps,el,_⟩:=s4 h;rw[el,Ii.2 hps] at hg;cases hg
    obtain ⟨n,hn⟩:∃ n,w.2.2.1.toNat=n + 1:=⟨w.2.2.1.toNat-1,by omega⟩;obtain ⟨m,hm⟩:∃ m,w.2.2.2.toNat=m + 1:=⟨w.2.2.2.toNat-1,by omega⟩;rw[hn,hm,JB,LU,h0,if_neg (by simp)];rfl
   rw[hn] at ss;refine ⟨([],false),?_,ss,fun _=>rfl,fun h=>by cases h⟩
   unfold B8;rw[Da (by omega) hb,obs,hg,nF,cT]
  | true =>
   have ii:B8 l w=some (match JB l w.2.2.1.toNat w.1 w.2.2.2.toNat w.2.1 with | some r=>(r,true) | none=>(([]:List RQ),false)):=by
    unfold B8;simp only[A4,A6];have il':Ah (fun (s:(BN×((List RQ)×((List RPt)×Int))))=>BQ s.1 s.2.1 s.2.2.1 s.2.2.2) (w,((List.nil:List RQ),(l,w.2.1)))=_:=il;rw[Da (by omega) hb,obs,hg,nT,cF,Oy,obs,hw,nT,cF,il',obs];cases JB l w.2.2.1.toNat w.1 w.2.2.2.toNat w.2.1 with
    | none=>rfl
    | some r=>rfl
   refine ⟨_,ii,ss,?_,?_⟩
   ·cases JB l w.2.2.1.toNat w.1 w.2.2.2.toNat w.2.1 with
    | none=>intro _; rfl
    | some r=>intro h; cases h
   ·cases JB l w.2.2.1.toNat w.1 w.2.2.2.toNat w.2.1 with
    | none=>intro h; cases h
    | some r=>intro _; exact ⟨rfl,rfl,rfl⟩
section
variable {l:List RPt} {ps:List Q2} (hps:SzR ps) (el:l=ps.map rp)
include hps el
theorem Bs8 {x y:Int} (hx : -90<=x/\x<=90) (hy : -90<=y/\y<=90) (h:(shV l x y).2=true):Sz 40 (sqA ps x y/2)/\shV l x y=(rqF (sqA ps x y/2),true):=by
 have h40:=hps.1;obtain ⟨_,_,_,s4⟩:=Uj (l:=l) (by rw[el]; simp; omega) (by rw[el]; exact T4 (k:=8) (by omega) hps.2) hx hy;obtain ⟨qs,hqs,e,_,k1,k2⟩:=s4 h;have inj:∀ u v:List Q2,u.map rp=v.map rp->u=v:=by
  intro u
  induction u with
  | nil=>intro v hv; cases v with
   | nil=>rfl
   | cons a t=>cases hv
  | cons b u ih=>intro v hv; cases v with
   | nil=>cases hv
   | cons a t =>
    rw[zb9,zb9] at hv;obtain ⟨i1,i2⟩:=List.cons.inj hv;rw[AP2 i1,ih t i2]
 have e2:qs=ps:=inj _ _ (by rw[<-e,el]);rw[e2] at k1 k2;exact ⟨k1,k2⟩
theorem A9G {y:Int} (hy : -90<=y/\y<=90):∀ (n:Nat) (x:Int) (r:List RQ),-90<=x->x + (n:Int)<=90->LU l y n x=some r->r=(A1M ps y n x).map (fun a=>rq (a/2))/\(∀ a∈A1M ps y n x,Sz 40 (a/2))/\∀ i:Nat,i<n->(shV l (x + (i:Int)) y).2=true/\r[i]? = some (toQ (shV l (x + (i:Int)) y).1)
 | 0,x,r,_,_,h=>by
  rw[LU] at h;rw[<-Option.some.inj h];exact ⟨rfl,fun a ha=>(by cases ha),fun i hi=>(by omega)⟩
 | n + 1,x,r,h1,h2,h=>by
  rw[LU] at h
  split at h
  ·rename_i hs;cases hr:LU l y n (x + 1) with
   | none=>rw[hr] at h; cases h
   | some r' =>
    rw[hr] at h;obtain ⟨k1,k2⟩:=Bs8 hps el (x:=x) (y:=y) (by omega) hy hs;obtain ⟨j1,j2,j3⟩:=A9G hy n (x + 1) r' (by omega) (by omega) hr;have hr':toQ (shV l x y).1::r'=r:=Option.some.inj h;refine ⟨?_,?_,?_⟩
    ·rw[<-hr',k2,j1,A1M,zb9];rfl
    ·intro a ha;rw[A1M] at ha;rcases zc8.1 ha with rfl | ha
     ·exact k1
     ·exact j2 a ha
    ·intro i hi;cases i with
     | zero =>
      rw[show x + ((0:Nat):Int)=x by omega,<-hr'];exact ⟨hs,rfl⟩
     | succ i =>
      obtain ⟨q1,q2⟩:=j3 i (by omega);rw[show x + ((i + 1:Nat):Int)=x + 1 + (i:Int) by omega,<-hr'];exact ⟨q1,by rw[List.getElem?_cons_succ]; exact q2⟩
  ·cases h
theorem A7N {w:Nat} {x:Int} (hx : -90<=x/\x + (w:Int)<=90):∀ (n:Nat) (y:Int) (r:List RQ),-90<=y->y + (n:Int)<=90->JB l w x n y=some r->r=(Ax0 ps w x n y).map (fun a=>rq (a/2))/\(∀ a∈Ax0 ps w x n y,Sz 40 (a/2)) /\
  ∀ j i:Nat,j<n->i<w->(shV l (x + (i:Int)) (y + (j:Int))).2=true/\r[j*w + i]? = some (toQ (shV l (x + (i:Int)) (y + (j:Int))).1)
 | 0,y,r,_,_,h=>by
  rw[JB] at h;rw[<-Option.some.inj h];exact ⟨rfl,fun a ha=>(by cases ha),fun j i hj=>(by omega)⟩
 | n + 1,y,r,h1,h2,h=>by
  rw[JB] at h;cases hr:LU l y w x with
  | none=>rw[hr] at h; cases h
  | some r1 =>
   rw[hr] at h;have h:(JB l w x n (y + 1)).map (r1 ++ ·)=some r:=h;cases hw:JB l w x n (y + 1) with
   | none=>rw[hw] at h; cases h
   | some r2 =>
    rw[hw] at h;have hrr:r1++r2=r:=Option.some.inj h;obtain ⟨j1,j2,j3⟩:=A9G hps el (y:=y) (by omega) w x r1 (by omega) (by omega) hr;obtain ⟨k1,k2,k3⟩:=A7N hx n (y + 1) r2 (by omega) (by omega) hw;have len1:r1.length=w:=by rw[j1,zd1,Ao8]
    refine ⟨?_,?_,?_⟩
    ·rw[<-hrr,j1,k1,Ax0,List.map_append]
    ·intro a ha;rw[Ax0] at ha;rcases zb3.1 ha with ha | ha
     ·exact j2 a ha
     ·exact k2 a ha
    ·intro j i hj hi;cases j with
     | zero =>
      obtain ⟨q1,q2⟩:=j3 i hi;rw[show y + ((0:Nat):Int)=y by omega,<-hrr,Nat.zero_mul,ze4,List.getElem?_append_left (by omega)];exact ⟨q1,q2⟩
     | succ j =>
      obtain ⟨q1,q2⟩:=k3 j i (by omega) hi;rw[show y + ((j + 1:Nat):Int)=y + 1 + (j:Int) by omega,<-hrr,Nat.succ_mul,List.getElem?_append_right (by omega),len1,show j*w + w + i-w=j*w + i by omega];exact ⟨q1,q2⟩
end
end
section
open Go
end
section
open Go
def unq (a:RQ):RF:=(a.1.1,(a.1.2,a.2))
theorem AG8 (a:RQ):(a.1.1,(a.1.2,a.2))=unq a:=(rfl)
theorem Xp (q:Rat):unq (rq q)=rqF q:=(rfl)
section
variable {qs:List Rat} (h40:∀ q∈qs,Sz 40 q) (hl:qs.length<=64)
include h40 hl
end
end
section
open Go
def Sb (q:Rat):Rat:=if 0<=q.num then q else -q
theorem Ae8 (q:Rat):(Sb q).num=(q.num.natAbs:Int):=by
 unfold Sb
 split
 ·omega
 ·rw[Rat.neg_num]; omega
theorem A0m (q:Rat):(Sb q).den=q.den:=by
 unfold Sb
 split
 ·rfl
 ·exact Rat.neg_den q
theorem A9e (q:Rat) : 0<=Sb q:=Rat.num_nonneg.1 (by rw[Ae8]; omega)
theorem AS3 {q:Rat} {k:Nat} (h:Sz k q):Sz k (Sb q):=⟨by rw[Ae8]; exact h.1,by rw[A0m]; exact h.2⟩
theorem A5c (q:Rat):rqF (Sb q)=((big (q.num.natAbs:Int)).1,((big (q.num.natAbs:Int)).2,((big (q.den:Int)).1,(big (q.den:Int)).2))):=by
 unfold rqF;rw[Ae8,A0m]
theorem A5u (q:Rat):(big q.num).2=(big (q.num.natAbs:Int)).2:=by unfold big; simp
def H6 (q:Rat):Rat:=if 1<Sb q then 1 else Sb q
theorem Bg4 (q:Rat) : 0<=H6 q/\H6 q<=1:=by
 unfold H6;have:=A9e q
 split <;> constructor <;> grind
def byQ (q:Rat):Int:=(H6 q*255 + 1/2).floor
theorem AQ8 (q:Rat) : 0<=byQ q/\byQ q<=255:=by
 obtain ⟨h1,h2⟩:=Bg4 q;have a:(0:Int)<=byQ q:=Rat.le_floor_iff.2 (by grind);have b:byQ q<256:=Rat.floor_lt_iff.2 (by grind);omega
theorem Br6 {q:Rat} (h : 1<Sb q):byQ q=255:=by
 unfold byQ H6;rw[if_pos h];have h1:(255:Int)<=((1:Rat)*255 + 1/2).floor:=Rat.le_floor_iff.2 (by grind);have h2:((1:Rat)*255 + 1/2).floor<256:=Rat.floor_lt_iff.2 (by grind);omega
theorem AW5 (q:Rat):T8 (byQ q)=(byQ q,true):=by
 have:=AQ8 q;unfold T8;rw[if_pos (by omega)]
theorem sz1:Sz 1 (1:Rat):=by
 have:B 1=65536:=rfl;exact ⟨by rw[this]; decide,by rw[this]; decide⟩
theorem sz2:Sz 1 (2:Rat):=by
 have:B 1=65536:=rfl;exact ⟨by rw[this]; decide,by rw[this]; decide⟩
theorem A8J:Sz 1 (255:Rat):=by
 have:B 1=65536:=rfl;exact ⟨by rw[this]; decide,by rw[this]; decide⟩
theorem A3i:Bc (255:Int)=some (rqF 255):=by rw[IJ (by omega) (by omega)]; rfl
theorem A6h:CA (1:Int)=some (rqF 1):=by rw[Ry (by omega) (by omega)]; rfl
theorem A3I:CA (255:Int)=some (rqF 255):=by rw[Ry (by omega) (by omega)]; rfl
section
variable {q:Rat} (hq:Sz 40 q)
include hq
theorem AL1:Sz 40 (H6 q):=by
 unfold H6
 split
 ·exact sz1.mono (by omega)
 ·exact AS3 hq
theorem AQ7:Sz 40 (1/2:Rat):=(AM0 (k:=1) (m:=1) sz1 sz2 Xv).mono (by omega)
theorem AK0:Sz 80 (H6 q*255):=(LK (AL1 hq) A8J).mono (by omega)
theorem A0w:Sz 200 (H6 q*255 + 1/2):=(Ti (AK0 hq) (AQ7 hq)).mono (by omega)
theorem byB:((byQ q).natAbs:Int)<B 40:=by
 have:=AQ8 q;have h1:B 1=65536:=rfl;have:=Kt (show 1<=40 by omega);omega
theorem A6f:IW (rqF q)=some (rqF (Sb q)):=by
 unfold IW L2;rw[A5c];simp only[rqF];rw[A5u,ZV (k:=40) (by omega) hq.1,ZV (k:=40) (by omega) hq.2];rfl
theorem Bf1:MJ (rqF q)=some (rqF (Sb q)):=by
 unfold MJ;rw[A5c];simp only[rqF];rw[A5u,AB2 (k:=40) (by omega) hq.1];rfl
theorem A8M:K9 (rqF q)=some (byQ q):=by
 have tail:((Bc (255:Int))).bind (fun x7=>((Ck (rqF (H6 q)) (x7.1,(x7.2.1,(x7.2.2.1,x7.2.2.2))))).bind fun x8 =>
  (some (rqF 1)).bind fun x9 =>
  ((CR (x9.1,(x9.2.1,(x9.2.2.1,x9.2.2.2))))).bind fun x10 =>
  ((CH (x8.1,(x8.2.1,(x8.2.2.1,x8.2.2.2))) (x10.1,(x10.2.1,(x10.2.2.1,x10.2.2.2))))).bind fun x11 =>
  ((EV (x11.1,(x11.2.1,(x11.2.2.1,x11.2.2.2))))).bind fun x12 =>
  ((Ie (x12.1,x12.2))).bind fun x13 =>
  some x13.1)=some (byQ q):=by
  have hh:CR (rqF 1)=some (rqF (1/2)):=by
   unfold CR;simp only[A4];rw[AH8,obs]
   try simp only[A4]
   rw[WR (k:=1) (by omega) sz1 sz2 Xv,obs]
  rw[A3i,obs]
  try simp only[A4,A6]
  rw[Iy (k:=40) (by omega) (AL1 hq) (A8J.mono (by omega)),obs,obs]
  try simp only[A4,A6]
  rw[hh,obs]
  try simp only[A4,A6]
  rw[Kf (k:=80) (by omega) (AK0 hq) ((AQ7 hq).mono (by omega)),obs]
  try simp only[A4,A6]
  rw[A2p (k:=200) (by omega) (by omega) (A0w hq),obs,show (H6 q*255 + 1/2).floor=byQ q from rfl,Bg5 (byB hq),obs,AW5]
 unfold K9
 try simp only[A4,A6]
 rw[A6f hq,obs,AF6,obs]
 try simp only[A4,A6]
 rw[Ft (k:=40) (by omega) (sz1.mono (by omega)) (AS3 hq),obs];by_cases h : 1<Sb q
 ·rw[decide_eq_true h,cT,obs,obs,sEr];rw[show H6 q=1 by unfold H6; rw[if_pos h]] at tail;exact tail
 ·rw[decide_eq_false h,cF,obs,sEr,show Sb q=H6 q by unfold H6; rw[if_neg h]];exact tail
theorem A6u:I5 (rqF q)=some (byQ q):=by
 unfold I5
 try simp only[A4,A6]
 rw[Bf1 hq,obs,A6h,obs]
 try simp only[A4,A6]
 rw[OE (k:=40) (by omega) (AS3 hq) (sz1.mono (by omega)),obs];by_cases h : 1<Sb q
 ·rw[decide_eq_true (LW.2 h),cT,Br6 h]
 ·have hb1:((1:Int).natAbs:Int)<B 1:=by have:B 1=65536:=rfl; rw[this]; decide
  have hb2:((2:Int).natAbs:Int)<B 1:=by have:B 1=65536:=rfl; rw[this]; decide
  have e2:Rat.divInt 1 2=(1/2:Rat):=by rw[Rat.divInt_eq_div]; rfl
  rw[decide_eq_false (fun g=>h (LW.1 g)),cF,U4 (by omega) (by omega),obs,U4 (by omega) (by omega),obs]
  try simp only[A4,A6]
  rw[V0 (k:=1) (by omega) hb1 hb2 (by omega),obs,A3I,obs,e2,show Sb q=H6 q by unfold H6; rw[if_neg h]]
  try simp only[A4,A6]
  rw[ZW (k:=40) (by omega) (AL1 hq) (A8J.mono (by omega)),obs]
  try simp only[A4,A6]
  rw[UY (k:=80) (by omega) (AK0 hq) ((AQ7 hq).mono (by omega)),obs]
  try simp only[A4,A6]
  rw[A6p (k:=200) (by omega) (by omega) (A0w hq),obs,show (H6 q*255 + 1/2).floor=byQ q from rfl,Bf3 (byB hq),obs,AW5]
end
theorem Bh0 {l:List Rat} {k:Nat} {q:Rat} (h:l[k]? = some q):AP (l.map rq) (k:Int)=some (rq q):=by rw[An,zc9,h]; rfl
section
variable {qs:List Rat} (h40:∀ q∈qs,Sz 40 q) (hl:qs.length<=1000)
include h40 hl
theorem A57:GZ (qs.map rq)=some (qs.map byQ):=by
 obtain ⟨_,h1,_⟩:=CJ (body:=fun (s:((List Int)×((List RQ)×(Int×Int))))=>DK s.1 s.2.1 s.2.2.1 s.2.2.2) (fun k (_:Unit)=>((qs.take k).map byQ,(qs.map rq,((qs.length:Int),(k:Int))))) (fun _=>qs.map byQ) (fun _ _=>True) qs.length (by
  intro k _ hk _;have he:qs[k]? = some qs[k]:=za1 hk;have hz:=h40 _ (za4 he);generalize qs[k]=q at he hz;refine ⟨(),?_,trivial⟩
  show DK ((qs.take k).map byQ) (qs.map rq) (qs.length:Int) (k:Int)=_;unfold DK;rw[decide_eq_true (by omega),cT,Bh0 he,obs];simp only[A4,A6,AG8,Xp];rw[A8M hz,obs,Dm (by simp[Ag]; omega) (by simp[Ag]; omega),obs,AM (by omega),List.take_add_one,he];simp) (by
  intro _ _;show DK ((qs.take qs.length).map byQ) (qs.map rq) (qs.length:Int) (qs.length:Int)=_;unfold DK;rw[decide_eq_false (by omega),cF,List.take_length]) 0 () (by omega) trivial
 have h1':Ah (fun (s:((List Int)×((List RQ)×(Int×Int))))=>DK s.1 s.2.1 s.2.2.1 s.2.2.2) ((List.nil:List Int),(qs.map rq,((qs.length:Int),(0:Int))))=_:=h1;unfold GZ;rw[zd1,h1',obs]
theorem AO5:Ah (fun (s:((List Int)×((List RQ)×(Int×Int))))=>B2 s.1 s.2.1 s.2.2.1 s.2.2.2) ((List.nil:List Int),(qs.map rq,((qs.length:Int),(0:Int))))=some (qs.map byQ):=by
 obtain ⟨_,h1,_⟩:=CJ (body:=fun (s:((List Int)×((List RQ)×(Int×Int))))=>B2 s.1 s.2.1 s.2.2.1 s.2.2.2) (fun k (_:Unit)=>((qs.take k).map byQ,(qs.map rq,((qs.length:Int),(k:Int))))) (fun _=>qs.map byQ) (fun _ _=>True) qs.length (by
  intro k _ hk _;have he:qs[k]? = some qs[k]:=za1 hk;have hz:=h40 _ (za4 he);generalize qs[k]=q at he hz;refine ⟨(),?_,trivial⟩
  show B2 ((qs.take k).map byQ) (qs.map rq) (qs.length:Int) (k:Int)=_;unfold B2;rw[decide_eq_true (by omega),cT,Bh0 he,obs];simp only[A4,A6,AG8,Xp];rw[A6u hz,obs,Dm (by simp[Ag]; omega) (by simp[Ag]; omega),obs,AM (by omega),List.take_add_one,he];simp) (by
  intro _ _;show B2 ((qs.take qs.length).map byQ) (qs.map rq) (qs.length:Int) (qs.length:Int)=_;unfold B2;rw[decide_eq_false (by omega),cF,List.take_length]) 0 () (by omega) trivial
 exact h1
end
end
end Go.Proofs.YtiijheppiboglaaGreatDoor.Ev
