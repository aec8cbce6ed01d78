/- What the theorem of this claim leans on, part 6. -/
import Derived.Test.YtiijheppiboglaaGreatDoorKE
import Derived.KernelRfl
set_option maxHeartbeats 2000000
open Option renaming bind_some → za0, map_eq_some_iff → zb5, map_some → zd8
open List renaming getElem?_eq_getElem → za1, getElem?_eq_some_iff → za3, mem_of_getElem? → za4, all_eq_true → za5, drop_eq_getElem_cons → zb0, mem_flatMap → zb1, flatMap_cons → zb3, mem_append → zb4, getD_eq_getElem?_getD → zb6, eq_nil_of_length_eq_zero → zb7, map_cons → zb8, getElem?_take → zb9, length_cons → zc0, take_of_length_le → zc3, mem_cons → zc5, getElem?_map → zc8, all_cons → zc9, length_pos_iff → zd0, drop_eq_nil_of_le → zd1, getElem?_drop → zd2, length_append → zd3, mem_map → zd4, length_map → zd5, getElem?_eq_none → ze1, append_nil → ze6, drop_zero → ze7, length_nil → ze9
open Bool renaming and_eq_true → za2, false_eq_true → zc2, true_and → ze2
open Nat renaming eq_of_beq_eq_true → za6, le_refl → za7, mul_le_mul_right → zd6, lt_of_lt_of_le → zd7, lt_or_ge → zd9, zero_add → ze4, le_trans → ze5, add_mul → zf0
open Sum renaming elim_inr → za8
open Int renaming mul_le_mul_of_nonneg_right → za9, mul_le_mul_of_nonneg_left → zb2, toNat_natCast → zc4, tmod_eq_emod_of_nonneg → zc6, tdiv_eq_ediv_of_nonneg → zc7, mul_add → ze0, le_of_lt → ze3, mul_nonneg → ze8
open Array renaming getD_eq_getD_getElem? → zc1
set_option linter.unusedVariables false
set_option linter.unusedSimpArgs false
set_option linter.unusedSectionVars false
namespace Go.Proofs.YtiijheppiboglaaGreatDoor.Ev
section
open Go
def CZ (a b:Int):Int:=if a<b then -1 else if b<a then 1 else 0
theorem Ea {a b:Int} (h:a<b):CZ a b = -1:=by unfold CZ; rw[if_pos h]
theorem Gb {a b:Int} (h:b<a):CZ a b=1:=by unfold CZ; rw[if_neg (by omega),if_pos h]
theorem QZ (a:Int):CZ a a=0:=by unfold CZ; simp
theorem B9 (a b:Int):(CZ a b = -1/\a<b)\/(CZ a b=1/\b<a)\/(CZ a b=0/\a=b):=by unfold CZ; split <;> (try split) <;> omega
theorem Vd (a b:Int):B6 a b=some (CZ a b):=by
 unfold B6 Er CZ;by_cases h1:a<b <;> by_cases h2:b<a <;> simp[h1,h2]
theorem AX9 {k:Nat} {d:Int} (h:d<=-1):B k*d<=- B k:=by
 have:=zb2 h (ze3 (GM k));omega
theorem A26 {l m:List Int} (hl:LB l) (hm:LB m) {k:Nat} {x y:Int} (hx:l[k]? = some x) (hy:m[k]? = some y) (hd:l.drop (k + 1)=m.drop (k + 1)):(x<y->val l<val m)/\(y<x->val m<val l):=by
 have kl:=Fc hx;have km:=Fc hy;have e1:=Vf l k (by omega);have e2:=Vf m k (by omega);have d1:l.drop k=x::l.drop (k + 1):=by rw[zb0 kl]; congr 1; rw[za1 kl] at hx; exact Option.some.inj hx
 have d2:m.drop k=y::m.drop (k + 1):=by rw[zb0 km]; congr 1; rw[za1 km] at hy; exact Option.some.inj hy
 rw[d1] at e1;rw[d2,<-hd] at e2;simp only[val] at e1 e2;have t1:=AX (hl.take k);have t2:=AX (hm.take k);have t3:=Py (hl.take k);have t4:=Py (hm.take k);rw[List.length_take,Nat.min_eq_left (by omega)] at t3 t4;rw[ze0] at e1 e2;constructor
 ·intro h;have:=AX9 (k:=k) (show x-y<=-1 by omega);rw[Int.mul_sub] at this;omega
 ·intro h;have:=AX9 (k:=k) (show y-x<=-1 by omega);rw[Int.mul_sub] at this;omega
theorem Y4 {a b:Nat}:((lim a).length<(lim b).length->a<b):=by
 intro h;rcases zd9 a b with h1 | h1
 ·exact h1
 ·exfalso
  have h2:=(Aw (n:=a) (k:=(lim a).length)).1 (za7 _);have:=(Aw (n:=b) (k:=(lim a).length)).2 (by omega);omega
section
variable {l m:List Int} (hl:LB l) (hm:LB m) (hlen:l.length=m.length) (hb:AH l)
include hl hm hlen hb
theorem A1N:(val l=val m->Ah (fun (s:((List Int)×((List Int)×Int)))=>Bm s.1 s.2.1 s.2.2) (l,(m,(l.length:Int)-1))=some (.inl ())) /\
  (val l≠val m->Ah (fun (s:((List Int)×((List Int)×Int)))=>Bm s.1 s.2.1 s.2.2) (l,(m,(l.length:Int)-1))=some (.inr (CZ (val l) (val m)))):=by
 unfold AH at hb;have key:∀ (n:Nat),n<=l.length->l.drop n=m.drop n->(l=m->Ah (fun (s:((List Int)×((List Int)×Int)))=>Bm s.1 s.2.1 s.2.2) (l,(m,(n:Int)-1))=some (.inl ()))/\(l≠m->Ah (fun (s:((List Int)×((List Int)×Int)))=>Bm s.1 s.2.1 s.2.2) (l,(m,(n:Int)-1))=some (.inr (CZ (val l) (val m)))/\val l≠val m):=by
  intro n
  induction n with
  | zero =>
   intro _ h;simp only[ze7] at h;refine ⟨fun _=>Aq rfl,fun hn=>absurd h hn⟩
  | succ n ih =>
   intro hn h;have k1:n<l.length:=by omega
   have k2:n<m.length:=by omega
   have hx:l[n]? = some l[n]:=za1 k1;have hy:m[n]? = some m[n]:=za1 k2;have hs:((n + 1:Nat):Int)-1=(n:Int):=by omega
   rw[hs];by_cases he:l[n]=m[n]
   ·have hd:l.drop n=m.drop n:=by rw[zb0 k1,zb0 k2,he,h]
    have hstep:Bm l m (n:Int)=some (.inl (l,(m,(n:Int)-1))):=by
     unfold Bm;rw[decide_eq_true (show (n:Int)>=0 by omega),Ao,Ao,hx,hy,Aj (by omega) (by omega)];simp only[cond_true,za0,he,bne_self_eq_false,cond_false]
    obtain ⟨i1,i2⟩:=ih (by omega) hd;exact ⟨fun hh=>by rw[AY hstep]; exact i1 hh,fun hh=>by rw[AY hstep]; exact i2 hh⟩
   ·obtain ⟨c1,c2⟩:=A26 hl hm hx hy h;have hne:l≠m:=fun hh=>he (by subst hh; rfl)
    have hc:CZ l[n] m[n]=CZ (val l) (val m):=by
     rcases Int.lt_or_gt_of_ne he with h1 | h1
     ·rw[Ea h1,Ea (c1 h1)]
     ·rw[Gb h1,Gb (c2 h1)]
    have hstep:Bm l m (n:Int)=some (.inr (.inr (CZ (val l) (val m)))):=by
     unfold Bm;rw[decide_eq_true (show (n:Int)>=0 by omega),Ao,Ao,hx,hy];have hb:(l[n] != m[n])=true:=by simpa using he
     simp only[cond_true,za0,hb,Vd,hc]
    refine ⟨fun hh=>absurd hh hne,fun _=>⟨Aq hstep,?_⟩⟩
    rcases Int.lt_or_gt_of_ne he with h1 | h1
    ·have:=c1 h1; omega
    ·have:=c2 h1; omega
 obtain ⟨h1,h2⟩:=key l.length (za7 _) (by rw[List.drop_length,hlen,List.drop_length]);constructor
 ·intro hv;by_cases he:l=m
  ·exact h1 he
  ·exact absurd hv (h2 he).2
 ·intro hv;exact (h2 fun he=>hv (by rw[he])).1
theorem A2o:(val l=val m->Ah (fun (s:((List Int)×((List Int)×Int)))=>Du s.1 s.2.1 s.2.2) (l,(m,(l.length:Int)-1))=some (.inl ())) /\
  (val l≠val m->Ah (fun (s:((List Int)×((List Int)×Int)))=>Du s.1 s.2.1 s.2.2) (l,(m,(l.length:Int)-1))=some (.inr (CZ (val l) (val m)))):=by
 unfold AH at hb;have key:∀ (n:Nat),n<=l.length->l.drop n=m.drop n->(l=m->Ah (fun (s:((List Int)×((List Int)×Int)))=>Du s.1 s.2.1 s.2.2) (l,(m,(n:Int)-1))=some (.inl ()))/\(l≠m->Ah (fun (s:((List Int)×((List Int)×Int)))=>Du s.1 s.2.1 s.2.2) (l,(m,(n:Int)-1))=some (.inr (CZ (val l) (val m)))/\val l≠val m):=by
  intro n
  induction n with
  | zero =>
   intro _ h;simp only[ze7] at h;refine ⟨fun _=>Aq rfl,fun hn=>absurd h hn⟩
  | succ n ih =>
   intro hn h;have k1:n<l.length:=by omega
   have k2:n<m.length:=by omega
   have hx:l[n]? = some l[n]:=za1 k1;have hy:m[n]? = some m[n]:=za1 k2;have hs:((n + 1:Nat):Int)-1=(n:Int):=by omega
   rw[hs];by_cases he:l[n]=m[n]
   ·have hd:l.drop n=m.drop n:=by rw[zb0 k1,zb0 k2,he,h]
    have hstep:Du l m (n:Int)=some (.inl (l,(m,(n:Int)-1))):=by
     unfold Du;rw[decide_eq_true (show (n:Int)>=0 by omega),Ao,Ao,hx,hy,Aj (by omega) (by omega)];simp only[cond_true,za0,he];rw[decide_eq_false (Int.lt_irrefl _)];rfl
    obtain ⟨i1,i2⟩:=ih (by omega) hd;exact ⟨fun hh=>by rw[AY hstep]; exact i1 hh,fun hh=>by rw[AY hstep]; exact i2 hh⟩
   ·obtain ⟨c1,c2⟩:=A26 hl hm hx hy h;have hne:l≠m:=fun hh=>he (by subst hh; rfl)
    have hstep:Du l m (n:Int)=some (.inr (.inr (CZ (val l) (val m)))):=by
     unfold Du;rw[decide_eq_true (show (n:Int)>=0 by omega),Ao,Ao,hx,hy];simp only[cond_true,za0];rcases Int.lt_or_gt_of_ne he with h1 | h1
     ·rw[decide_eq_true h1,Ea (c1 h1)]; rfl
     ·rw[decide_eq_false (by omega),decide_eq_true h1,Gb (c2 h1)]; rfl
    refine ⟨fun hh=>absurd hh hne,fun _=>⟨Aq hstep,?_⟩⟩
    rcases Int.lt_or_gt_of_ne he with h1 | h1
    ·have:=c1 h1; omega
    ·have:=c2 h1; omega
 obtain ⟨h1,h2⟩:=key l.length (za7 _) (by rw[List.drop_length,hlen,List.drop_length]);constructor
 ·intro hv;by_cases he:l=m
  ·exact h1 he
  ·exact absurd hv (h2 he).2
 ·intro hv;exact (h2 fun he=>hv (by rw[he])).1
end
theorem Hn {a b:Nat} (ha:AH (lim a)) (hb:AH (lim b)):BG (lim a) (lim b)=some (CZ a b):=by
 unfold BG;have ha':=ha;have hb':=hb;unfold AH at ha' hb';by_cases h:(lim a).length=(lim b).length
 ·have e:((((lim a).length:Nat):Int) != (((lim b).length:Nat):Int))=false:=by simp[h]
  rw[e,Aj (by omega) (by omega)];simp only[cond_false];obtain ⟨h1,h2⟩:=A1N (AN a) (AN b) h ha;rw[AE,AE] at h1 h2;by_cases hv:(a:Int)=b
  ·rw[h1 hv,hv,QZ]; rfl
  ·rw[h2 hv]; rfl
 ·have e:((((lim a).length:Nat):Int) != (((lim b).length:Nat):Int))=true:=by simp; omega
  rw[e];simp only[cond_true,Vd,za0];rcases Nat.lt_or_gt_of_ne h with h1 | h1
  ·have:=Y4 h1;rw[Ea (by omega),Ea (by omega)]
  ·have:=Y4 h1;rw[Gb (by omega),Gb (by omega)]
theorem Q9 {a b:Nat} (ha:AH (lim a)) (hb:AH (lim b)):Cf (lim a) (lim b)=some (CZ a b):=by
 unfold Cf;have ha':=ha;have hb':=hb;unfold AH at ha' hb';by_cases h:(lim a).length=(lim b).length
 ·have e:((((lim a).length:Nat):Int) != (((lim b).length:Nat):Int))=false:=by simp[h]
  rw[e,Aj (by omega) (by omega)];simp only[cond_false];obtain ⟨h1,h2⟩:=A2o (AN a) (AN b) h ha;rw[AE,AE] at h1 h2;by_cases hv:(a:Int)=b
  ·rw[h1 hv,hv,QZ]; rfl
  ·rw[h2 hv]; rfl
 ·have e:((((lim a).length:Nat):Int) != (((lim b).length:Nat):Int))=true:=by simp; omega
  rw[e];simp only[cond_true];rcases Nat.lt_or_gt_of_ne h with h1 | h1
  ·have:=Y4 h1;rw[decide_eq_true (by omega),Ea (by omega)]; rfl
  ·have:=Y4 h1;rw[decide_eq_false (by omega),Gb (by omega)]; rfl
def dg (l:List Int) (k:Nat):Int:=l.getD k 0
theorem Gg {l:List Int} {k:Nat} {x:Int} (h:l[k]? = some x):dg l k=x:=by unfold dg; rw[zb6,h]; rfl
theorem I7 {l:List Int} {k:Nat} (h:l.length<=k):dg l k=0:=by unfold dg; rw[zb6,ze1 h]; rfl
theorem Bi {l:List Int} (h:LB l) (k:Nat) : 0<=dg l k/\dg l k<65536:=by
 rcases zd9 k l.length with hk | hk
 ·rw[Gg (za1 hk)]; exact h _ (List.getElem_mem _)
 ·rw[I7 hk]; omega
theorem A9 (l:List Int) (k:Nat):val (l.take (k + 1))=val (l.take k) + B k*dg l k:=by
 rcases zd9 k l.length with hk | hk
 ·have he:=za1 hk;rw[List.take_add_one,he,Gg he,Option.toList_some,MH,List.length_take,Nat.min_eq_left (by omega)]
 ·rw[I7 hk,zc3 (by omega),zc3 hk];omega
theorem MJ {l:List Int} (k:Nat):Dd l (k:Int)=some (dg l k):=by
 unfold Dd;rcases zd9 k l.length with hk | hk
 ·rw[decide_eq_true (by omega),Ao,za1 hk,Gg (za1 hk)];rfl
 ·rw[decide_eq_false (by omega),I7 hk];rfl
theorem AQ0 {l:List Int} {x:Int} (h:l.length<=100000000):De 8 1 l [x]=some (l ++ [x]):=F9 (by simp[Ag]; omega) (by simp[Ag]; omega)
theorem AH0 {a b:List Int} (ha:LB a) (hb:LB b) (na:a.length<=10000000) (nb:b.length<=10000000) :
  ∃ r,Fb a b=some r/\LB r/\val r=val a + val b/\r.length<=max a.length b.length + 1/\(r.length<=max a.length b.length\/B (max a.length b.length)<=val a + val b):=by
 unfold Fb;obtain ⟨r,h1,h2⟩:=Fq (f:=fun (s:((List Int)×((List Int)×((List Int)×(Int×Int)))))=>DQ s.1 s.2.1 s.2.2.1 s.2.2.2.1 s.2.2.2.2)
  (I:=fun s=>∃ (k:Nat) (out:List Int) (c:Int),s=(out,(a,(b,(c,(k:Int)))))/\out.length=k/\k<=max a.length b.length + 1/\LB out/\(c=0\/c=1)/\(k=max a.length b.length + 1->c=0/\B (max a.length b.length)<=val a + val b)/\val out + B k*c=val (a.take k) + val (b.take k))
  (R:=fun r=>LB r/\val r=val a + val b/\r.length<=max a.length b.length + 1/\(r.length<=max a.length b.length\/B (max a.length b.length)<=val a + val b)) (fun s=>max a.length b.length + 2-s.1.length) (by
   rintro s ⟨k,out,c,rfl,h1,h2,h3,h4,h4',h5⟩;simp only;have da:=Bi ha k;have db:=Bi hb k;have go:k<max a.length b.length\/c=1->∃ c',DQ out a b c (k:Int)=some (.inl (out ++ [(dg a k + dg b k + c)%65536],(a,(b,(c',((k + 1:Nat):Int))))))/\c'=(dg a k + dg b k + c)/65536:=by
    intro hgo;refine ⟨_,?_,rfl⟩
    have hkk:k<=max a.length b.length:=by rcases hgo with h | h <;> omega
    unfold DQ;have hcond:(bif decide ((k:Int)<((a.length:Nat):Int)) then some (Sum.inr (α:=(List Int×List Int×List Int×Int×Int) ⊕ List Int) (out,(a,(b,(c,(k:Int)))))) else bif decide ((k:Int)<((b.length:Nat):Int)) then some (Sum.inr (out,(a,(b,(c,(k:Int)))))) else bif decide (c>0) then some (Sum.inr (out,(a,(b,(c,(k:Int)))))) else some (Sum.inl (Sum.inr out)))=some (Sum.inr (out,(a,(b,(c,(k:Int)))))):=by
     by_cases c1:(k:Int)<(a.length:Int)
     ·rw[decide_eq_true c1]; rfl
     ·by_cases c2:(k:Int)<(b.length:Int)
      ·rw[decide_eq_false c1,decide_eq_true c2]; rfl
      ·have:c>0:=by rcases hgo with h | h <;> omega
       rw[decide_eq_false c1,decide_eq_false c2,decide_eq_true this]; rfl
    rw[hcond];simp only[za0,za8,MJ];rw[Aj (n:=dg a k + dg b k) (by omega) (by omega),Aj (n:=dg a k + dg b k + c) (by omega) (by omega),zc6 (by omega),zc7 (by omega),Aj (by omega) (by omega),AQ0 (by omega),AR (by omega)];rfl
   by_cases hgo:k<max a.length b.length\/c=1
   ·obtain ⟨c',e1,e2⟩:=go hgo
    clear go
    have hkk:k<=max a.length b.length:=by
     rcases hgo with h | h
     ·omega
     ·rcases zd9 (max a.length b.length) k with h6 | h6
      ·have:=h4' (by omega); omega
      ·exact h6
    refine .inl ⟨_,e1,⟨k + 1,_,c',rfl,by simp[h1],by omega,h3.append (LB.cons (by omega) LB.nil),by omega,?_,?_⟩,by simp; omega⟩
    ·intro hk;have:k=max a.length b.length:=by omega
     rw[I7 (by omega),I7 (by omega)] at e2;refine ⟨by omega,?_⟩
     have hc1:c=1:=by omega
     rw[hc1,zc3 (by omega),zc3 (by omega),this] at h5;have:=AX h3;omega
    ·rw[MH,h1,A9,A9];have:B (k + 1)*c'=B k*(65536*c'):=by simp only[B]; rw[Int.mul_comm 65536 (B k),Int.mul_assoc]
     rw[this];have hq:(dg a k + dg b k + c)%65536 + 65536*c'=dg a k + dg b k + c:=by omega
     have:B k*((dg a k + dg b k + c)%65536) + B k*(65536*c')=B k*dg a k + B k*dg b k + B k*c:=by rw[<-ze0,hq,ze0,ze0]
     omega
   ·clear go
    have hc:c=0:=by omega
    have hk:max a.length b.length<=k:=by omega
    subst hc;refine .inr ⟨out,?_,h3,?_,by omega,?_⟩
    ·unfold DQ;rw[decide_eq_false (by omega),decide_eq_false (by omega)];rfl
    ·rw[zc3 (by omega),zc3 (by omega)] at h5;omega
    ·rcases zd9 (max a.length b.length) k with h6 | h6
     ·exact .inr (h4' (by omega)).2
     ·left; omega) ([],(a,(b,(0,0)))) ⟨0,[],0,rfl,rfl,by omega,LB.nil,.inl rfl,by omega,by simp[val,B]⟩
 exact ⟨r,by rw[h1]; rfl,h2⟩
theorem A1U {a b:List Int} (ha:LB a) (hb:LB b) (na:a.length<=10000000) (nb:b.length<=10000000) :
  ∃ r,Hs a b=some r/\LB r/\val r=val a + val b/\r.length<=max a.length b.length + 1:=by
 unfold Hs;have hM:A78 [((a.length:Nat):Int),((b.length:Nat):Int)]=((max a.length b.length:Nat):Int):=by simp only[A78,List.foldl]; split <;> omega
 obtain ⟨r,h1,h2⟩:=Fq (f:=fun (s:((List Int)×((List Int)×((List Int)×(Int×Int)))))=>E7 s.1 s.2.1 s.2.2.1 s.2.2.2.1 s.2.2.2.2)
  (I:=fun s=>∃ (k:Nat) (out:List Int) (c:Int),s=(out,(a,(b,(c,(k:Int)))))/\out.length=k/\k<=max a.length b.length + 1/\LB out/\(c=0\/c=1)/\(k=max a.length b.length + 1->c=0)/\val out + B k*c=val (a.take k) + val (b.take k))
  (R:=fun r=>LB r/\val r=val a + val b/\r.length<=max a.length b.length + 1) (fun s=>max a.length b.length + 2-s.1.length) (by
   rintro s ⟨k,out,c,rfl,h1,h2,h3,h4,h4',h5⟩;simp only;have da:=Bi ha k;have db:=Bi hb k;have go:k<max a.length b.length\/c=1->∃ c',E7 out a b c (k:Int)=some (.inl (out ++ [(dg a k + dg b k + c)%65536],(a,(b,(c',((k + 1:Nat):Int))))))/\c'=(dg a k + dg b k + c)/65536:=by
    intro hgo;refine ⟨_,?_,rfl⟩
    have hkk:k<=max a.length b.length:=by rcases hgo with h | h <;> omega
    unfold E7;rw[hM];have hcond:(bif decide ((k:Int)<((max a.length b.length:Nat):Int)) then some (Sum.inr (α:=(List Int×List Int×List Int×Int×Int) ⊕ List Int) (out,(a,(b,(c,(k:Int)))))) else bif decide (c>0) then some (Sum.inr (out,(a,(b,(c,(k:Int)))))) else some (Sum.inl (Sum.inr out)))=some (Sum.inr (out,(a,(b,(c,(k:Int)))))):=by
     by_cases c1:(k:Int)<((max a.length b.length:Nat):Int)
     ·rw[decide_eq_true c1]; rfl
     ·have:c>0:=by rcases hgo with h | h <;> omega
      rw[decide_eq_false c1,decide_eq_true this]; rfl
    rw[hcond];simp only[za0,za8];have s1:(bif decide ((k:Int)<((a.length:Nat):Int)) then (AQ a (k:Int)).bind fun x3=>some (Sum.inr (α:=(List Int×List Int×List Int×Int×Int) ⊕ List Int) (out,(a,(b,(IntKind.wrap .i64 (c + x3),(k:Int)))))) else some (Sum.inr (out,(a,(b,(c,(k:Int)))))))=some (Sum.inr (out,(a,(b,(c + dg a k,(k:Int)))))):=by
     rcases zd9 k a.length with hk | hk
     ·rw[decide_eq_true (by omega),Ao,za1 hk,<-Gg (za1 hk)];simp only[cond_true,za0];rw[Aj (by omega) (by omega)]
     ·rw[decide_eq_false (by omega),I7 hk];simp
    rw[s1];simp only[za0,za8];have s2:(bif decide ((k:Int)<((b.length:Nat):Int)) then (AQ b (k:Int)).bind fun x3=>some (Sum.inr (α:=(List Int×List Int×List Int×Int×Int) ⊕ List Int) (out,(a,(b,(IntKind.wrap .i64 (c + dg a k + x3),(k:Int)))))) else some (Sum.inr (out,(a,(b,(c + dg a k,(k:Int)))))))=some (Sum.inr (out,(a,(b,(dg a k + dg b k + c,(k:Int)))))):=by
     rcases zd9 k b.length with hk | hk
     ·rw[decide_eq_true (by omega),Ao,za1 hk,<-Gg (za1 hk)];simp only[cond_true,za0];rw[Aj (by omega) (by omega),show c + dg a k + dg b k=dg a k + dg b k + c by omega]
     ·rw[decide_eq_false (by omega),I7 hk,show dg a k + 0 + c=c + dg a k by omega];rfl
    rw[s2];simp only[za0,za8];rw[zc6 (by omega),zc7 (by omega),Aj (by omega) (by omega),AQ0 (by omega),AR (by omega)];rfl
   by_cases hgo:k<max a.length b.length\/c=1
   ·obtain ⟨c',e1,e2⟩:=go hgo
    clear go
    have hkk:k<=max a.length b.length:=by
     rcases hgo with h | h
     ·omega
     ·rcases zd9 (max a.length b.length) k with h6 | h6
      ·have:=h4' (by omega); omega
      ·exact h6
    refine .inl ⟨_,e1,⟨k + 1,_,c',rfl,by simp[h1],by omega,h3.append (LB.cons (by omega) LB.nil),by omega,?_,?_⟩,by simp; omega⟩
    ·intro hk;have:k=max a.length b.length:=by omega
     rw[I7 (by omega),I7 (by omega)] at e2;omega
    ·rw[MH,h1,A9,A9];have:B (k + 1)*c'=B k*(65536*c'):=by simp only[B]; rw[Int.mul_comm 65536 (B k),Int.mul_assoc]
     rw[this];have hq:(dg a k + dg b k + c)%65536 + 65536*c'=dg a k + dg b k + c:=by omega
     have:B k*((dg a k + dg b k + c)%65536) + B k*(65536*c')=B k*dg a k + B k*dg b k + B k*c:=by rw[<-ze0,hq,ze0,ze0]
     omega
   ·clear go
    have hc:c=0:=by omega
    have hk:max a.length b.length<=k:=by omega
    subst hc;refine .inr ⟨out,?_,h3,?_,by omega⟩
    ·unfold E7;rw[hM,decide_eq_false (by omega)];rfl
    ·rw[zc3 (by omega),zc3 (by omega)] at h5;omega) ([],(a,(b,(0,0)))) ⟨0,[],0,rfl,rfl,by omega,LB.nil,.inl rfl,by omega,by simp[val,B]⟩
 exact ⟨r,by rw[h1]; rfl,h2⟩
end
section
open Go
theorem X2 {v:Int} (h : -65536<=v/\v<65536) : 0<=(if v<0 then v + 65536 else v)/\(if v<0 then v + 65536 else v)<65536/\(if v<0 then v + 65536 else v)-65536*(if v<0 then 1 else 0)=v/\((if v<0 then 1 else 0:Int)=0\/(if v<0 then 1 else 0:Int)=1):=by
 split <;> omega
theorem Ag1 {k:Nat} {A Bv out d br br' v x y:Int} (h1:out-B k*br=A-Bv) (h2:d-65536*br'=v) (h3:v=x-y-br):out + B k*d-B (k + 1)*br'=A + B k*x-(Bv + B k*y):=by
 have e1:B (k + 1)*br'=B k*(65536*br'):=by simp only[B]; rw[Int.mul_comm 65536 (B k),Int.mul_assoc]
 have e2:B k*d-B k*(65536*br')=B k*x-B k*y-B k*br:=by rw[<-Int.mul_sub,h2,h3,Int.mul_sub,Int.mul_sub]
 rw[e1];omega
theorem Ui {a b:List Int} (ha:LB a) (hb:LB b) (hlen:b.length<=a.length) (na:a.length<=10000000) (hle:val b<=val a) :
  DM a b=some (lim (val a-val b).toNat):=by
 unfold DM;obtain ⟨r,h1,h2⟩:=Fq (f:=fun (s:((List Int)×((List Int)×((List Int)×(Int×(Int×Int))))))=>FN s.1 s.2.1 s.2.2.1 s.2.2.2.1 s.2.2.2.2.1 s.2.2.2.2.2)
  (I:=fun s=>∃ (k:Nat) (out:List Int) (c:Int),s=(out,(a,(b,(c,((a.length:Int),(k:Int))))))/\out.length=k/\k<=a.length/\LB out/\(c=0\/c=1)/\val out-B k*c=val (a.take k)-val (b.take k))
  (R:=fun r=>LB r/\val r=val a-val b/\r.length=a.length) (fun s=>a.length + 1-s.1.length) (by
   rintro s ⟨k,out,c,rfl,h1,h2,h3,h4,h5⟩;simp only;by_cases hk:k<a.length
   ·have da:=Bi ha k;have db:=Bi hb k;have hg:=za1 hk;have hx:a[k]=dg a k:=(Gg hg).symm;have hv:=X2 (v:=dg a k-dg b k-c) (by omega);refine .inl ⟨(out ++ [if dg a k-dg b k-c<0 then dg a k-dg b k-c + 65536 else dg a k-dg b k-c],(a,(b,((if dg a k-dg b k-c<0 then 1 else 0),((a.length:Int),((k + 1:Nat):Int)))))),?_,⟨k + 1,_,_,rfl,by simp[h1],by omega,h3.append (LB.cons (by omega) LB.nil),hv.2.2.2,?_⟩,by simp; omega⟩
    ·unfold FN;rw[decide_eq_true (by omega),Ao,hg];simp only[cond_true,za0,MJ,hx];rw[Aj (n:=dg a k-dg b k) (by omega) (by omega),Aj (n:=dg a k-dg b k-c) (by omega) (by omega),Aj (n:=dg a k-dg b k-c + 65536) (by omega) (by omega),AR (by omega)];by_cases hneg:dg a k-dg b k-c<0
     ·rw[decide_eq_true hneg,if_pos hneg,if_pos hneg];simp only[cond_true];rw[AQ0 (by omega)];rfl
     ·rw[decide_eq_false hneg,if_neg hneg,if_neg hneg];simp only[cond_false];rw[AQ0 (by omega)];rfl
    ·rw[MH,h1,A9,A9];exact Ag1 h5 hv.2.2.1 rfl
   ·have hk':k=a.length:=by omega
    refine .inr ⟨out,?_,h3,?_,by omega⟩
    ·unfold FN;rw[decide_eq_false (by omega)];rfl
    ·rw[zc3 (by omega),zc3 (by omega)] at h5;have b1:=Py h3;have b2:=AX h3;rw[h1] at b1;rcases h4 with h4 | h4
     ·subst h4; omega
     ·subst h4; omega) ([],(a,(b,(0,((a.length:Int),0))))) ⟨0,[],0,rfl,rfl,by omega,LB.nil,.inl rfl,by simp[val,B]⟩
 rw[h1];simp only[za0];rw[Hl (by unfold AH; omega)];simp only[za0];rw[Cy h2.1,h2.2.1]
theorem ZE {a b:List Int} (ha:LB a) (hb:LB b) (hlen:b.length<=a.length) (na:a.length<=10000000) (hle:val b<=val a) :
  FP a b=some (lim (val a-val b).toNat):=by
 unfold FP;rw[Av2 (by unfold AH; omega)];simp only[za0];obtain ⟨r,h1,h2⟩:=Fq (f:=fun (s:((List Int)×((List Int)×(Int×(Int×Int)))))=>Hr s.1 s.2.1 s.2.2.1 s.2.2.2.1 s.2.2.2.2)
  (I:=fun s=>∃ (k:Nat) (out:List Int) (c:Int),s=(out,(b,(c,((a.length:Int),(k:Int)))))/\out.length=a.length/\k<=a.length/\LB (out.take k)/\out.drop k=a.drop k/\(c=0\/c=1)/\val (out.take k)-B k*c=val (a.take k)-val (b.take k))
  (R:=fun r=>LB r/\val r=val a-val b/\r.length=a.length) (fun s=>(a.length + 1-s.2.2.2.2).toNat) (by
   rintro s ⟨k,out,c,rfl,h1,h2,h3,h3',h4,h5⟩;simp only;by_cases hk:k<a.length
   ·have da:=Bi ha k;have db:=Bi hb k;have hg:=za1 hk;have hx:a[k]=dg a k:=(Gg hg).symm;have hko:k<out.length:=by omega
    have hox:out[k]? = some (dg a k):=by
     have e1:out.drop k=out[k]::out.drop (k + 1):=zb0 hko;have e2:a.drop k=a[k]::a.drop (k + 1):=zb0 hk;rw[za1 hko];rw[e1,e2] at h3';rw[(List.cons.inj h3').1,hx]
    have hv:=X2 (v:=dg a k-dg b k-c) (by omega);have hset:∀ y:Int,(out.set k y)[k]? = some y:=fun y=>by rw[List.getElem?_set_self hko]
    have hdg:dg (out.set k (if dg a k-dg b k-c<0 then dg a k-dg b k-c + 65536 else dg a k-dg b k-c)) k=(if dg a k-dg b k-c<0 then dg a k-dg b k-c + 65536 else dg a k-dg b k-c):=Gg (hset _);have htk:(out.set k (if dg a k-dg b k-c<0 then dg a k-dg b k-c + 65536 else dg a k-dg b k-c)).take k=out.take k:=List.take_set_of_le (za7 _);refine .inl ⟨(out.set k (if dg a k-dg b k-c<0 then dg a k-dg b k-c + 65536 else dg a k-dg b k-c),(b,((if dg a k-dg b k-c<0 then 1 else 0),((a.length:Int),((k + 1:Nat):Int))))),?_,⟨k + 1,_,_,rfl,by simp[h1],by omega,?_,?_,hv.2.2.2,?_⟩,by simp; omega⟩
    ·unfold Hr A1;have i1:A8 (k:Int) out.length=some k:=A5 hko;have i2:∀ y:Int,A8 (k:Int) (out.set k y).length=some k:=fun y=>by rw[List.length_set]; exact i1
     rw[decide_eq_true (by omega)];simp only[cond_true,i1,za0,hox,i2,hset,Ao];have hw1:=AR (show k<4611686018427387904 by omega);rw[Aj (n:=dg a k-c) (by omega) (by omega)];have s1:(bif decide ((k:Int)<((b.length:Nat):Int)) then (b[k]?).bind fun x6=>some (Sum.inr (α:=(List Int×List Int×Int×Int×Int) ⊕ List Int) ((out.set k (dg a k-c)).set k (IntKind.wrap .i64 (dg a k-c-x6)),(b,((k:Int),((a.length:Int),(k:Int)))))) else some (Sum.inr (out.set k (dg a k-c),(b,((k:Int),((a.length:Int),(k:Int)))))))=some (Sum.inr (out.set k (dg a k-dg b k-c),(b,((k:Int),((a.length:Int),(k:Int)))))):=by
      rcases zd9 k b.length with hkb | hkb
      ·rw[decide_eq_true (by omega),za1 hkb,<-Gg (za1 hkb)];simp only[cond_true,za0,List.set_set];rw[Aj (by omega) (by omega),show dg a k-c-dg b k=dg a k-dg b k-c by omega]
      ·rw[decide_eq_false (by omega),I7 hkb,show dg a k-0-c=dg a k-c by omega];rfl
     rw[s1];simp only[za0,za8,i2,hset,List.set_set,hw1];by_cases hneg:dg a k-dg b k-c<0
     ·rw[decide_eq_true hneg,if_pos hneg,if_pos hneg,Aj (by omega) (by omega)];rfl
     ·rw[decide_eq_false hneg,if_neg hneg,if_neg hneg];rfl
    ·rw[List.take_add_one,htk,hset];exact h3.append (LB.cons (by omega) LB.nil)
    ·rw[List.drop_set_of_lt (by omega)];have:out.drop (k + 1)=(out.drop k).drop 1:=by rw[List.drop_drop]
     rw[this,h3',List.drop_drop]
    ·rw[A9 (out.set k _),A9 a,A9 b,htk,hdg];exact Ag1 h5 hv.2.2.1 rfl
   ·have hk':k=a.length:=by omega
    refine .inr ⟨out,?_,?_,?_,h1⟩
    ·unfold Hr;rw[decide_eq_false (by omega)];rfl
    ·rw[zc3 (by omega)] at h3; exact h3
    ·rw[zc3 (by omega)] at h3 h5;rw[zc3 (by omega),zc3 (by omega)] at h5;have b1:=Py h3;have b2:=AX h3;rw[h1,<-hk'] at b1;rcases h4 with h4 | h4
     ·subst h4; omega
     ·subst h4; omega) (a,(b,(0,((a.length:Int),0)))) ⟨0,a,0,rfl,rfl,by omega,by rw[List.take_zero]; exact LB.nil,rfl,.inl rfl,by simp[val,B]⟩
 rw[h1];simp only[za0];rw[Au2 (by unfold AH; omega)];simp only[za0];rw[Cy h2.1,h2.2.1]
end
section
open Go
theorem GQ {n k:Nat} (h:(n:Int)<B k) (hk:k<=1000000):(lim n).length<=1000000:=ze5 (Aw.2 h) hk
theorem At2 {x y:Int} {k:Nat} (hk:k<=1000000) (hx:(x.natAbs:Int)<B k) (hy:(y.natAbs:Int)<B k):Gw (big x) (big y)=some (big (x + y)):=by
 have lx:=GQ hx hk;have ly:=GQ hy hk;unfold Gw big;simp only;by_cases hs:decide (x<0)=decide (y<0)
 ·rw[hs,beq_self_eq_true];obtain ⟨r,e1,e2,e3,e4⟩:=A1U (AN x.natAbs) (AN y.natAbs) (by omega) (by omega);rw[AE,AE] at e3;simp only[cond_true,e1,za0];rw[Iw e2 (by unfold AH; omega)];simp only[za0];have hv:(val r).toNat=(x + y).natAbs:=by
   by_cases h1:x<0
   ·have:y<0:=by simpa[h1] using hs
    omega
   ·have:¬y<0:=by simpa[h1] using hs
    omega
  rw[hv]
  congr 2
  by_cases h2:y<0
  ·have h1:x<0:=by simpa[h2] using hs
   rw[decide_eq_true h2,decide_eq_true (show x + y<0 by omega),decide_eq_true (show (x + y).natAbs≠0 by omega)]; rfl
  ·have h1:¬x<0:=by simpa[h2] using hs
   rw[decide_eq_false h2,decide_eq_false (show ¬x + y<0 by omega)]; rfl
 ·have hb:(decide (x<0)==decide (y<0))=false:=by simpa using hs
  rw[hb];simp only[cond_false];rw[Hn (by unfold AH; omega) (by unfold AH; omega)];simp only[za0];have hxy:(x<0/\¬y<0)\/(¬x<0/\y<0):=by
   by_cases h1:x<0 <;> by_cases h2:y<0 <;> simp[h1,h2] at hs ⊢
  rcases zd9 x.natAbs y.natAbs with hlt | hge
  ·rw[Ea (by omega),decide_eq_false (by omega)];simp only[cond_false];have hl:(lim x.natAbs).length<=(lim y.natAbs).length:=Aw.2 (by have:=Aw.1 (za7 (lim y.natAbs).length); omega);rw[ZE (AN _) (AN _) hl (by omega) (by rw[AE,AE]; omega)];simp only[za0,AE];have e:((y.natAbs:Int)-(x.natAbs:Int)).toNat=(x + y).natAbs:=by omega
   rw[e,Iw (AN _) (by
    have:(lim (x + y).natAbs).length<=(lim y.natAbs).length:=Aw.2 (by have:=Aw.1 (za7 (lim y.natAbs).length); omega);unfold AH; omega)]
   simp only[za0,AE,zc4]
   congr 2
   by_cases h2:y<0
   ·rw[decide_eq_true h2,decide_eq_true (show x + y<0 by omega),decide_eq_true (show (x + y).natAbs≠0 by omega)]; rfl
   ·rw[decide_eq_false h2,decide_eq_false (show ¬x + y<0 by omega)]; rfl
  ·have hc:CZ (x.natAbs:Int) (y.natAbs:Int)>=0:=by unfold CZ; rw[if_neg (by omega)]; split <;> omega
   rw[decide_eq_true hc];simp only[cond_true];have hl:(lim y.natAbs).length<=(lim x.natAbs).length:=Aw.2 (by have:=Aw.1 (za7 (lim x.natAbs).length); omega);rw[ZE (AN _) (AN _) hl (by omega) (by rw[AE,AE]; omega)];simp only[za0,AE];have e:((x.natAbs:Int)-(y.natAbs:Int)).toNat=(x + y).natAbs:=by omega
   rw[e,Iw (AN _) (by
    have:(lim (x + y).natAbs).length<=(lim x.natAbs).length:=Aw.2 (by have:=Aw.1 (za7 (lim x.natAbs).length); omega);unfold AH; omega)]
   simp only[za0,AE,zc4]
   congr 2
   by_cases h2:x<0
   ·rw[decide_eq_true h2];by_cases h3:x + y<0
    ·rw[decide_eq_true h3,decide_eq_true (show (x + y).natAbs≠0 by omega)]; rfl
    ·rw[decide_eq_false h3,decide_eq_false (show ¬(x + y).natAbs≠0 by omega)]; rfl
   ·rw[decide_eq_false h2,decide_eq_false (show ¬x + y<0 by omega)]; rfl
theorem Sc {o x y c:Int} (ho : 0<=o/\o<65536) (hx : 0<=x/\x<65536) (hy : 0<=y/\y<65536) (hc : 0<=c/\c<65536) :
  (0<=x*y/\x*y<=4294836225)/\0<=(o + x*y + c)/65536/\(o + x*y + c)/65536<65536/\0<=(o + x*y + c)%65536/\(o + x*y + c)%65536<65536/\(o + x*y + c)%65536 + 65536*((o + x*y + c)/65536)=o + x*y + c:=by
 have h1 : 0<=x*y:=ze8 hx.1 hy.1;have h2:x*y<=65535*65535:=Int.le_trans (zb2 (show y<=65535 by omega) hx.1) (za9 (show x<=65535 by omega) (by omega));omega
theorem AQ4 {out:List Int} {p:Nat} {o d c c' t V:Int} (ho:out[p]? = some o) (hd:d + 65536*c'=o + t + c) (hV:val out + B p*c=V):val (out.set p d) + B (p + 1)*c'=V + B p*t:=by
 rw[Ga ho];have e1:B (p + 1)*c'=B p*(65536*c'):=by simp only[B]; rw[Int.mul_comm 65536 (B p),Int.mul_assoc]
 have e2:B p*d + B p*(65536*c')=B p*o + B p*t + B p*c:=by rw[<-ze0,hd,ze0,ze0]
 rw[e1,Int.mul_sub];omega
theorem As {l:List Int} {k:Nat} (h:k<l.length):l[k]? = some (dg l k):=by rw[za1 h,Gg (za1 h)]
theorem Ce {l:List Int} {k j:Nat} {x:Int} (h:k≠j):dg (l.set k x) j=dg l j:=by
 unfold dg;rw[zb6,zb6,List.getElem?_set_ne h]
structure Row (out0 out:List Int) (i k:Nat) (c x:Int) (b:List Int):Prop where
 len:out.length=out0.length
 lb:LB out
 hi:∀ j,i + k<=j->dg out j=dg out0 j
 c0 : 0<=c
 c1:c<65536
 v:val out + B (i + k)*c=val out0 + B i*(x*val (b.take k))
theorem Row.start {out0:List Int} (h:LB out0) (i:Nat) (x:Int) (b:List Int):Row out0 out0 i 0 0 x b:=⟨rfl,h,fun _ _=>rfl,by omega,by omega,by simp[val]⟩
theorem Row.next {out0 out:List Int} {i k:Nat} {c x:Int} {b:List Int} (h:Row out0 out i k c x b) (hb:LB b) (hx : 0<=x/\x<65536) (hk:i + k<out.length) :
  Row out0 (out.set (i + k) ((dg out (i + k) + x*dg b k + c)%65536)) i (k + 1) ((dg out (i + k) + x*dg b k + c)/65536) x b:=by
 have hs:=Sc (Bi h.lb (i + k)) hx (Bi hb k) ⟨h.c0,h.c1⟩;refine ⟨by rw[List.length_set]; exact h.len,h.lb.set ⟨hs.2.2.2.1,hs.2.2.2.2.1⟩,fun j hj=>by rw[Ce (by omega)]; exact h.hi j (by omega),hs.2.1,hs.2.2.1,?_⟩
 have:=AQ4 (As hk) hs.2.2.2.2.2 h.v;rw[show i + (k + 1)=i + k + 1 by omega,this,A9,ze0,ze0];have:B (i + k)*(x*dg b k)=B i*(x*(B k*dg b k)):=by rw[Tr]; grind
 omega
theorem A5r {a0 a1 a2:Bool×List Int} {out0:List Int} {i:Nat} {x:Int} (hx : 0<=x/\x<65536) (h0:LB out0) (hb:LB a1.2) (hlen:i + a1.2.length<=out0.length) (ho:out0.length<=10000000) (s7:List Int) (s8 s9:Int) :
  ∃ out c,Ah (fun (s:((Bool×(List Int))×((Bool×(List Int))×((Bool×(List Int))×((List Int)×(Int×(Int×(Int×((List Int)×(Int×(Int×((List Int)×(Int×Int)))))))))))))=>F2 s.1 s.2.1 s.2.2.1 s.2.2.2.1 s.2.2.2.2.1 s.2.2.2.2.2.1 s.2.2.2.2.2.2.1 s.2.2.2.2.2.2.2.1 s.2.2.2.2.2.2.2.2.1 s.2.2.2.2.2.2.2.2.2.1 s.2.2.2.2.2.2.2.2.2.2.1 s.2.2.2.2.2.2.2.2.2.2.2.1 s.2.2.2.2.2.2.2.2.2.2.2.2) ((a0.1,a0.2),((a1.1,a1.2),((a2.1,a2.2),(out0,((i:Int),(x,((0:Int),(s7,(s8,(s9,(a1.2,((((List.length a1.2):Nat):Int),(0:Int))))))))))))) =
   some ((a0.1,a0.2),((a1.1,a1.2),((a2.1,a2.2),(out,((i:Int),(c,(s7,(s8,s9))))))))/\Row out0 out i a1.2.length c x a1.2:=by
 obtain ⟨⟨out,c⟩,h1,h2⟩:=EM (body:=fun (s:((Bool×(List Int))×((Bool×(List Int))×((Bool×(List Int))×((List Int)×(Int×(Int×(Int×((List Int)×(Int×(Int×((List Int)×(Int×Int)))))))))))))=>F2 s.1 s.2.1 s.2.2.1 s.2.2.2.1 s.2.2.2.2.1 s.2.2.2.2.2.1 s.2.2.2.2.2.2.1 s.2.2.2.2.2.2.2.1 s.2.2.2.2.2.2.2.2.1 s.2.2.2.2.2.2.2.2.2.1 s.2.2.2.2.2.2.2.2.2.2.1 s.2.2.2.2.2.2.2.2.2.2.2.1 s.2.2.2.2.2.2.2.2.2.2.2.2)
  (st:=fun k (b:List Int×Int)=>((a0.1,a0.2),((a1.1,a1.2),((a2.1,a2.2),(b.1,((i:Int),(x,(b.2,(s7,(s8,(s9,(a1.2,((((List.length a1.2):Nat):Int),(k:Int))))))))))))))
  (fin:=fun b=>((a0.1,a0.2),((a1.1,a1.2),((a2.1,a2.2),(b.1,((i:Int),(b.2,(s7,(s8,s9)))))))))
  (I:=fun k b=>Row out0 b.1 i k b.2 x a1.2) (e:=a1.2.length)
  (by
   rintro k ⟨out,c⟩ hk hI;simp only at hI;have hl:=hI.len;have hp:i + k<out.length:=by omega
   have hs:=Sc (Bi hI.lb (i + k)) hx (Bi hb k) ⟨hI.c0,hI.c1⟩;have dl:=Bi hI.lb (i + k);have c0:=hI.c0;have c1:=hI.c1;refine ⟨(_,_),?_,hI.next hb hx hp⟩
   unfold F2 A1
   dsimp only
   have i1:A8 ((i:Int) + (k:Int)) out.length=some (i + k):=by rw[show (i:Int) + (k:Int)=((i + k:Nat):Int) by omega]; exact A5 hp
   rw[decide_eq_true (by omega),Aj (n:=(i:Int) + (k:Int)) (by omega) (by omega)];simp only[cond_true,Ao,As hk,za0,i1,As hp];rw[Aj (n:=x*dg a1.2 k) (by omega) (by omega),Aj (n:=dg out (i + k) + x*dg a1.2 k) (by omega) (by omega),Aj (n:=c + (dg out (i + k) + x*dg a1.2 k)) (by omega) (by omega),show c + (dg out (i + k) + x*dg a1.2 k)=dg out (i + k) + x*dg a1.2 k + c by omega,
    zc6 (by omega),zc7 (by omega),Aj (n:=(dg out (i + k) + x*dg a1.2 k + c)/65536) (by omega) (by omega),AR (by omega)])
  (by
   rintro ⟨out,c⟩ _;unfold F2
   dsimp only
   rw[decide_eq_false (by omega)];rfl) 0 (out0,0) (by omega) (Row.start h0 i x _)
 exact ⟨out,c,h1,h2⟩
theorem DW {x y:Int} {k:Nat} (hk:k<=100000) (hx:(x.natAbs:Int)<B k) (hy:(y.natAbs:Int)<B k):∃ r,BE (big x) (big y)=some r/\(r.2,r.1)=big (x*y):=by
 have lx:=ze5 (Aw.2 hx) hk;have ly:=ze5 (Aw.2 hy) hk;unfold BE;generalize ha:lim x.natAbs=a at lx;generalize hb':lim y.natAbs=b at ly;have la:LB a:=ha▸AN _;have lb:LB b:=hb'▸AN _;have e1:(big x).2=a:=ha;have e2:(big y).2=b:=hb';rw[e1,e2,Aj (by omega) (by omega),show ((a.length:Nat):Int) + ((b.length:Nat):Int)=((a.length + b.length:Nat):Int) by omega,IC (by unfold Ag; omega) (by unfold Ag; omega)];simp only[za0]
 obtain ⟨out,h1,h2⟩:=EM (body:=fun (s:((Bool×(List Int))×((Bool×(List Int))×((Bool×(List Int))×((List Int)×((List Int)×(Int×Int)))))))=>Il s.1 s.2.1 s.2.2.1 s.2.2.2.1 s.2.2.2.2.1 s.2.2.2.2.2.1 s.2.2.2.2.2.2)
  (st:=fun i (o:List Int)=>(((big x).1,a),(((big y).1,b),((false,([]:List Int)),(o,(a,(((a.length:Nat):Int),(i:Int))))))))
  (fin:=fun o=>(((big x).1,a),(((big y).1,b),((false,([]:List Int)),o))))
  (I:=fun i o=>o.length=a.length + b.length/\LB o/\(∀ j,i + b.length<=j->dg o j=0)/\val o=val (a.take i)*val b) (e:=a.length)
  (by
   rintro i o hi ⟨h1,h2,h3,h4⟩;have hd:=Bi la i;obtain ⟨o1,c,q1,q2⟩:=A5r (a0:=((big x).1,a)) (a1:=((big y).1,b)) (a2:=(false,[])) hd h2 lb (show i + b.length<=o.length by omega) (show o.length<=10000000 by omega) a ((a.length:Nat):Int) (i:Int);simp only at q1 q2;have hl1:=q2.len;have hp:i + b.length<o1.length:=by omega
   have hz:dg o1 (i + b.length)=0:=by rw[q2.hi _ (za7 _),h3 _ (by omega)]
   have c0:=q2.c0;have c1:=q2.c1;refine ⟨o1.set (i + b.length) c,?_,by rw[List.length_set]; omega,q2.lb.set ⟨c0,c1⟩,fun j hj=>?_,?_⟩
   ·unfold Il A1
    dsimp only
    rw[decide_eq_true (by omega),Ao,As hi];simp only[cond_true,za0];rw[q1];simp only[za0];have i1:A8 ((i:Int) + ((b.length:Nat):Int)) o1.length=some (i + b.length):=by rw[show (i:Int) + ((b.length:Nat):Int)=((i + b.length:Nat):Int) by omega]; exact A5 hp
    rw[Aj (n:=(i:Int) + ((b.length:Nat):Int)) (by omega) (by omega),i1];simp only[za0,As hp,hz];rw[Aj (n:=0 + c) (by omega) (by omega),AR (by omega),Int.zero_add]
   ·rw[Ce (by omega),q2.hi j (by omega),h3 j (by omega)]
   ·rw[Ga (As hp),hz,Int.sub_zero];have hv:=q2.v;rw[List.take_length] at hv;rw[A9,Int.add_mul,<-h4];have:B i*dg a i*val b=B i*(dg a i*val b):=Int.mul_assoc ..
    omega)
  (by
   rintro o _;unfold Il
   dsimp only
   rw[decide_eq_false (by omega)];rfl) 0 (List.replicate (a.length + b.length) 0) (by omega) ⟨by simp,LB.zeros _,fun j _=>by
    unfold dg; rw[zb6,List.getElem?_replicate]; split <;> rfl,by rw[FG]; simp[val]⟩
 rw[show ((0:Nat):Int)=0 from rfl] at h1;rw[h1];obtain ⟨g1,g2,g3,g4⟩:=h2;rw[List.take_length] at g4;simp only[za0];rw[Iw g2 (by unfold AH; omega)];simp only[za0];refine ⟨_,rfl,?_⟩
 have hv:(val out).toNat=(x*y).natAbs:=by rw[g4,<-ha,<-hb',AE,AE,Int.natAbs_mul]; omega
 rw[hv];unfold big
 congr 1
 by_cases hx0:x=0
 ·subst hx0; simp
 ·by_cases hy0:y=0
  ·subst hy0; simp
  ·have hne:(x*y).natAbs≠0:=by
    rw[Int.natAbs_mul];intro h;rcases Nat.mul_eq_zero.1 h with h | h <;> omega
   rw[decide_eq_true hne];by_cases h1:x<0
   ·by_cases h2:y<0
    ·have:=Int.mul_pos_of_neg_of_neg h1 h2;rw[decide_eq_true h1,decide_eq_true h2,decide_eq_false (by omega)]; rfl
    ·have:=Int.mul_neg_of_neg_of_pos h1 (show 0<y by omega);rw[decide_eq_true h1,decide_eq_false h2,decide_eq_true (by omega)]; rfl
   ·by_cases h2:y<0
    ·have:=Int.mul_neg_of_pos_of_neg (show 0<x by omega) h2;rw[decide_eq_false h1,decide_eq_true h2,decide_eq_true (by omega)]; rfl
    ·have:=Int.mul_pos (show 0<x by omega) (show 0<y by omega);rw[decide_eq_false h1,decide_eq_false h2,decide_eq_false (by omega)]; rfl
end
section
open Go
theorem A5L {out0 b:List Int} {i:Nat} {x:Int} (hx : 0<=x/\x<65536) (h0:LB out0) (hb:LB b) (hlen:i + b.length<out0.length) (hz:∀ j,i + b.length<=j->dg out0 j=0) (ho:out0.length<=10000000) (s6:List Int) (s7 s8:Int) :
  ∃ out,Ah (fun (s:((List Int)×((List Int)×(Int×(Int×(Int×(Int×((List Int)×(Int×Int)))))))))=>DK s.1 s.2.1 s.2.2.1 s.2.2.2.1 s.2.2.2.2.1 s.2.2.2.2.2.1 s.2.2.2.2.2.2.1 s.2.2.2.2.2.2.2.1 s.2.2.2.2.2.2.2.2) (out0,(b,((i:Int),(x,((0:Int),((0:Int),(s6,(s7,s8))))))))=some (out,(b,(s6,(s7,s8)))) /\
   out.length=out0.length/\LB out/\(∀ j,i + 1 + b.length<=j->dg out j=0)/\val out=val out0 + B i*(x*val b):=by
 obtain ⟨r,h1,out,rfl,h2⟩:=Fq (f:=fun (s:((List Int)×((List Int)×(Int×(Int×(Int×(Int×((List Int)×(Int×Int)))))))))=>DK s.1 s.2.1 s.2.2.1 s.2.2.2.1 s.2.2.2.2.1 s.2.2.2.2.2.1 s.2.2.2.2.2.2.1 s.2.2.2.2.2.2.2.1 s.2.2.2.2.2.2.2.2)
  (I:=fun s=>∃ (k:Nat) (out:List Int) (c:Int),s=(out,(b,((i:Int),(x,(c,((k:Int),(s6,(s7,s8))))))))/\k<=b.length + 1/\Row out0 out i k c x b/\(k=b.length + 1->c=0))
  (R:=fun r=>∃ out,r=(out,(b,(s6,(s7,s8))))/\out.length=out0.length/\LB out/\(∀ j,i + 1 + b.length<=j->dg out j=0)/\val out=val out0 + B i*(x*val b)) (fun s=>(b.length + 2-s.2.2.2.2.2.1).toNat) (by
   rintro s ⟨k,out,c,rfl,hk,hR,hc⟩;simp only;have hl:=hR.len;have c0:=hR.c0;have c1:=hR.c1;by_cases hgo:k<b.length\/c>0
   ·have hkb:k<=b.length:=by
     rcases hgo with h | h
     ·omega
     ·rcases zd9 b.length k with h6 | h6
      ·have:=hc (by omega); omega
      ·exact h6
    have hp:i + k<out.length:=by omega
    have hs:=Sc (Bi hR.lb (i + k)) hx (Bi hb k) ⟨c0,c1⟩;have dl:=Bi hR.lb (i + k);refine .inl ⟨(out.set (i + k) ((dg out (i + k) + x*dg b k + c)%65536),(b,((i:Int),(x,((dg out (i + k) + x*dg b k + c)/65536,(((k + 1:Nat):Int),(s6,(s7,s8)))))))),?_,⟨k + 1,_,_,rfl,by omega,hR.next hb hx hp,fun he=>?_⟩,by simp only; omega⟩
    ·unfold DK A1;have hcond:(bif decide ((k:Int)<((b.length:Nat):Int)) then some (Sum.inr (α:=(List Int×List Int×Int×Int×Int×Int×List Int×Int×Int) ⊕ (List Int×List Int×List Int×Int×Int)) (out,(b,((i:Int),(x,(c,((k:Int),(s6,(s7,s8))))))))) else bif decide (c>0) then some (Sum.inr (out,(b,((i:Int),(x,(c,((k:Int),(s6,(s7,s8))))))))) else some (Sum.inl (Sum.inr (out,(b,(s6,(s7,s8)))))))=some (Sum.inr (out,(b,((i:Int),(x,(c,((k:Int),(s6,(s7,s8))))))))):=by
      by_cases g1:(k:Int)<(b.length:Int)
      ·rw[decide_eq_true g1]; rfl
      ·have:c>0:=by rcases hgo with h | h <;> omega
       rw[decide_eq_false g1,decide_eq_true this]; rfl
     rw[hcond];have i1:A8 ((i:Int) + (k:Int)) out.length=some (i + k):=by rw[show (i:Int) + (k:Int)=((i + k:Nat):Int) by omega]; exact A5 hp
     simp only[za0,za8];rw[Aj (n:=(i:Int) + (k:Int)) (by omega) (by omega),i1];simp only[za0,As hp,MJ];rw[Aj (n:=x*dg b k) (by omega) (by omega),Aj (n:=dg out (i + k) + x*dg b k) (by omega) (by omega),Aj (n:=dg out (i + k) + x*dg b k + c) (by omega) (by omega),
      zc6 (by omega),zc7 (by omega),Aj (n:=(dg out (i + k) + x*dg b k + c)/65536) (by omega) (by omega),AR (by omega)]
    ·have hkb':k=b.length:=by omega
     have z1:dg b k=0:=I7 (by omega);have z2:dg out (i + k)=0:=by rw[hR.hi _ (za7 _),hz _ (by omega)]
     rw[z1,z2,Int.mul_zero];omega
   ·have hkb:b.length<=k:=by omega
    have hcz:c=0:=by omega
    subst hcz;refine .inr ⟨_,?_,out,rfl,hl,hR.lb,fun j hj=>?_,?_⟩
    ·unfold DK;rw[decide_eq_false (by omega),decide_eq_false (by omega)];rfl
    ·rw[hR.hi j (by omega),hz j (by omega)]
    ·have:=hR.v;rw[zc3 hkb] at this;omega) (out0,(b,((i:Int),(x,((0:Int),((0:Int),(s6,(s7,s8)))))))) ⟨0,out0,0,rfl,by omega,Row.start h0 i x b,by omega⟩
 exact ⟨out,h1,h2⟩
theorem AJ5 {a b:List Int} (ha:LB a) (hb:LB b) (na:a.length<=100000) (nb:b.length<=100000):Fu a b=some (lim (val a*val b).toNat):=by
 unfold Fu;rw[Aj (n:=((a.length:Nat):Int) + ((b.length:Nat):Int)) (by omega) (by omega),Aj (by omega) (by omega),show ((a.length:Nat):Int) + ((b.length:Nat):Int) + 1=((a.length + b.length + 1:Nat):Int) by omega,IC (by unfold Ag; omega) (by unfold Ag; omega)];simp only[za0];obtain ⟨out,h1,h2⟩:=EM (body:=fun (s:((List Int)×((List Int)×((List Int)×(Int×Int)))))=>FE s.1 s.2.1 s.2.2.1 s.2.2.2.1 s.2.2.2.2)
  (st:=fun i (o:List Int)=>(o,(b,(a,(((a.length:Nat):Int),(i:Int)))))) (fin:=fun o=>o)
  (I:=fun i o=>o.length=a.length + b.length + 1/\LB o/\(∀ j,i + b.length<=j->dg o j=0)/\val o=val (a.take i)*val b) (e:=a.length)
  (by
   rintro i o hi ⟨h1,h2,h3,h4⟩;have hd:=Bi ha i;obtain ⟨o1,q1,q2,q3,q4,q5⟩:=A5L hd h2 hb (show i + b.length<o.length by omega) h3 (by omega) a ((a.length:Nat):Int) (i:Int);refine ⟨o1,?_,by omega,q3,q4,?_⟩
   ·unfold FE
    dsimp only
    rw[decide_eq_true (by omega),Ao,As hi];simp only[cond_true,za0];rw[q1];simp only[za0];rw[AR (by omega)]
   ·rw[q5,h4,A9,Int.add_mul];have:B i*dg a i*val b=B i*(dg a i*val b):=Int.mul_assoc ..
    omega)
  (by
   rintro o _;unfold FE
   dsimp only
   rw[decide_eq_false (by omega)];rfl) 0 (List.replicate (a.length + b.length + 1) 0) (by omega) ⟨by simp,LB.zeros _,fun j _=>by
    unfold dg; rw[zb6,List.getElem?_replicate]; split <;> rfl,by rw[FG]; simp[val]⟩
 rw[show ((0:Nat):Int)=0 from rfl] at h1;rw[h1];obtain ⟨g1,g2,g3,g4⟩:=h2;rw[List.take_length] at g4;simp only[za0];rw[Hl (by unfold AH; omega)];simp only[za0];rw[Cy g2,g4]
theorem A76 {x y:Int} (h:(x*y).natAbs≠0):(!(decide (x<0)==decide (y<0)))=decide (x*y<0):=by
 have hx:x≠0:=by rintro rfl; simp at h
 have hy:y≠0:=by rintro rfl; simp at h
 by_cases h1:x<0
 ·by_cases h2:y<0
  ·have:=Int.mul_pos_of_neg_of_neg h1 h2;rw[decide_eq_true h1,decide_eq_true h2,decide_eq_false (by omega)]; rfl
  ·have:=Int.mul_neg_of_neg_of_pos h1 (show 0<y by omega);rw[decide_eq_true h1,decide_eq_false h2,decide_eq_true (by omega)]; rfl
 ·by_cases h2:y<0
  ·have:=Int.mul_neg_of_pos_of_neg (show 0<x by omega) h2;rw[decide_eq_false h1,decide_eq_true h2,decide_eq_true (by omega)]; rfl
  ·have:=Int.mul_pos (show 0<x by omega) (show 0<y by omega);rw[decide_eq_false h1,decide_eq_false h2,decide_eq_false (by omega)]; rfl
theorem Ao6 (x y:Int):((!(decide (x<0)==decide (y<0)))&&decide ((x*y).natAbs≠0),lim (x*y).natAbs)=big (x*y):=by
 unfold big
 congr 1
 by_cases h:(x*y).natAbs≠0
 ·rw[A76 h,decide_eq_true h,Bool.and_true]
 ·rw[decide_eq_false h,Bool.and_false,decide_eq_false (by omega)]
theorem Jo {x y:Int} {k:Nat} (hk:k<=100000) (hx:(x.natAbs:Int)<B k) (hy:(y.natAbs:Int)<B k):CY (big x) (big y)=some (big (x*y)):=by
 have lx:=ze5 (Aw.2 hx) hk;have ly:=ze5 (Aw.2 hy) hk;unfold CY;rw[show (big x).2=lim x.natAbs from rfl,show (big y).2=lim y.natAbs from rfl,AJ5 (AN _) (AN _) lx ly];have e:(val (lim x.natAbs)*val (lim y.natAbs)).toNat=(x*y).natAbs:=by rw[AE,AE,Int.natAbs_mul]; omega
 have hl:(lim (x*y).natAbs).length<=k + k:=by
  rw[Aw,Int.natAbs_mul,Tr];have h1:=GM k;have:((x.natAbs*y.natAbs:Nat):Int)=(x.natAbs:Int)*(y.natAbs:Int):=by simp
  rw[this];exact Int.lt_of_le_of_lt (za9 (ze3 hx) (by omega)) (Int.mul_lt_mul_of_pos_left hy h1)
 simp only[za0];rw[e,F5 (AN _) (by unfold AH; omega)];simp only[za0,AE,zc4];rw[<-Ao6];rfl
end
section
open Go
theorem Cd (l:List Int) (h:Nat):val l=val (l.take h) + B h*val (l.drop h):=by
 rcases Nat.le_or_ge h l.length with hc | hc
 ·exact Vf l h hc
 ·rw[zc3 hc,zd1 hc]; simp[val]
theorem Bm5 {x y:Nat} {p q:Nat} (h1:(x:Int)<B p) (h2:(y:Int)<B q):((x*y:Nat):Int)<B (p + q):=by
 rw[Tr,show ((x*y:Nat):Int)=(x:Int)*(y:Int) by simp];exact Int.lt_of_le_of_lt (za9 (ze3 h1) (by omega)) (Int.mul_lt_mul_of_pos_left h2 (GM p))
end
section
open Go
theorem Af5 {n:Nat} (h:n≠0):lim n=((n%65536:Nat):Int)::lim (n/65536):=by
 conv=>lhs; unfold lim
 rw[dif_neg h]
theorem U5 (s:Bool×List Int) (neg:Bool):∀ (f:Nat) (n:Nat) (acc:List Int),n<=f->n<18446744073709551616->acc.length + (lim n).length<=10000 ->
  Ah (fun (s:((Bool×(List Int))×((List Int)×(Bool×Int))))=>Ly s.1 s.2.1 s.2.2.1 s.2.2.2) (s,(acc,(neg,(n:Int))))=some (s,(acc++lim n,neg)):=by
 intro f
 induction f with
 | zero =>
  intro n acc hn _ _;have:n=0:=by omega
  subst this;rw[Cr,ze6];exact Aq rfl
 | succ f ih =>
  intro n acc hn h64 h2;by_cases h0:n=0
  ·subst h0;rw[Cr,ze6];exact Aq rfl
  ·rw[Af5 h0] at h2 ⊢
   simp only[zc0] at h2;have hstep:Ly s acc neg (n:Int)=some (.inl (s,(acc ++ [((n%65536:Nat):Int)],(neg,((n/65536:Nat):Int))))):=by
    unfold Ly;rw[decide_eq_true (by omega),zc6 (by omega),zc7 (by omega),Aj (by omega) (by omega),Ay4 (by omega) (by omega)];simp only[cond_true];rw[AQ0 (by omega)];simp only[za0];rw[show (n:Int)%65536=((n%65536:Nat):Int) by omega,show (n:Int)/65536=((n/65536:Nat):Int) by omega]
   have:=ih (n/65536) (acc ++ [((n%65536:Nat):Int)]) (by omega) (by omega) (by simp; omega);rw[AY hstep,this,List.append_assoc];rfl
theorem AP2 {n:Nat} (h:n<18446744073709551616):(lim n).length<=4:=Aw.2 (by have:B 4=18446744073709551616:=rfl; omega)
theorem Y3 {n:Int} (h1 : -9223372036854775808<=n) (h2:n<=9223372036854775807):Dj n=some (big n):=by
 unfold Dj;have hl:=AP2 (n:=n.natAbs) (by omega);by_cases h:n<0
 ·have e:IntKind.wrap .u64 (0-IntKind.wrap .u64 n)=(n.natAbs:Int):=by rw[IntKind.wrap_u64,IntKind.wrap_u64]; omega
  rw[decide_eq_true h];simp only[cond_true,za0,za8];rw[e,U5 (false,[]) true n.natAbs n.natAbs [] (za7 _) (by omega) (by simp; omega)];unfold big;rw[decide_eq_true h];rfl
 ·have e:IntKind.wrap .u64 n=(n.natAbs:Int):=by rw[IntKind.wrap_u64]; omega
  rw[decide_eq_false h];simp only[cond_false,za0,za8];rw[e,U5 (false,[]) false n.natAbs n.natAbs [] (za7 _) (by omega) (by simp; omega)];unfold big;rw[decide_eq_false h];rfl
theorem AM6 (s:Bool×List Int) (m:Int):∀ (f:Nat) (n:Int) (acc:List Int),n.natAbs<=f->-9223372036854775808<=n->n<=9223372036854775807->acc.length + (lim n.natAbs).length<=10000 ->
  Ah (fun (s:((Bool×(List Int))×((List Int)×(Int×Int))))=>LF s.1 s.2.1 s.2.2.1 s.2.2.2) (s,(acc,(m,n)))=some (s,(acc++lim n.natAbs,m)):=by
 intro f
 induction f with
 | zero =>
  intro n acc hn _ _ _;have:n=0:=by omega
  subst this;rw[show (0:Int).natAbs=0 from rfl,Cr,ze6];exact Aq rfl
 | succ f ih =>
  intro n acc hn h1 h2 h3;by_cases h0:n=0
  ·subst h0;rw[show (0:Int).natAbs=0 from rfl,Cr,ze6];exact Aq rfl
  ·rw[Af5 (show n.natAbs≠0 by omega)] at h3 ⊢
   simp only[zc0] at h3;have hq:(Int.tdiv n 65536).natAbs=n.natAbs/65536:=by rw[Int.natAbs_tdiv]; rfl
   have hq1 : -9223372036854775808<=Int.tdiv n 65536/\Int.tdiv n 65536<=9223372036854775807:=by omega
   have hr:((Int.tmod n 65536).natAbs:Int)=((n.natAbs%65536:Nat):Int):=by rw[Int.natAbs_tmod]; rfl
   have hstep:LF s acc m n=some (.inl (s,(acc ++ [((n.natAbs%65536:Nat):Int)],(m,Int.tdiv n 65536)))):=by
    unfold LF;have:(n != 0)=true:=by simpa using h0
    rw[this,Aj (n:=Int.tdiv n 65536) (by omega) (by omega)];simp only[cond_true];by_cases hneg:Int.tmod n 65536<0
    ·rw[decide_eq_true hneg,Aj (by omega) (by omega)];simp only[cond_true];rw[AQ0 (by omega),show (0:Int)-Int.tmod n 65536=((n.natAbs%65536:Nat):Int) by omega];rfl
    ·rw[decide_eq_false hneg];simp only[cond_false];rw[AQ0 (by omega),show Int.tmod n 65536=((n.natAbs%65536:Nat):Int) by omega];rfl
   have:=ih (Int.tdiv n 65536) (acc ++ [((n.natAbs%65536:Nat):Int)]) (by omega) hq1.1 hq1.2 (by rw[hq]; simp; omega);rw[AY hstep,this,List.append_assoc,hq];rfl
theorem US {n:Int} (h1 : -9223372036854775808<=n) (h2:n<=9223372036854775807):DN n=some (big n):=by
 unfold DN;have hl:=AP2 (n:=n.natAbs) (by omega);rw[AM6 (false,[]) n n.natAbs n [] (za7 _) h1 h2 (by simp; omega)];simp only[za0,List.nil_append];rw[F5 (AN _) (by unfold AH; omega)];simp only[za0,AE,zc4];unfold big;by_cases h:n<0
 ·rw[decide_eq_true h,decide_eq_true (show n.natAbs≠0 by omega)]; rfl
 ·rw[decide_eq_false h]; rfl
theorem AM2 (z:Int):BH (big z)=some (CZ z 0):=by
 unfold BH big;by_cases h0:z=0
 ·subst h0;rw[show (0:Int).natAbs=0 from rfl,Cr];rfl
 ·have:((((lim z.natAbs).length:Nat):Int)==0)=false:=beq_eq_false_iff_ne.2 (by
   intro h;have h2:lim z.natAbs = []:=zb7 (by omega);have:=Jt.1 h2;omega)
  rw[this];by_cases h:z<0
  ·rw[decide_eq_true h,Ea h]; rfl
  ·rw[decide_eq_false h,Gb (by omega)]; rfl
theorem UP {x y:Int} {k:Nat} (hk:k<=1000000) (hx:(x.natAbs:Int)<B k) (hy:(y.natAbs:Int)<B k):DY (big x) (big y)=some (CZ x y):=by
 have lx:=GQ hx hk;have ly:=GQ hy hk;unfold DY;have e1:BH ((big x).1,(big x).2)=some (CZ x 0):=AM2 x;have e2:BH ((big y).1,(big y).2)=some (CZ y 0):=AM2 y;simp only[e1,e2,za0,Vd];have e3:BG (big x).2 (big y).2=some (CZ (x.natAbs:Int) (y.natAbs:Int)):=Hn (by unfold AH; omega) (by unfold AH; omega);rw[e3];have cx:=B9 x 0;have cy:=B9 y 0;have c3:=B9 (x.natAbs:Int) (y.natAbs:Int);have cxy:=B9 x y;have cs:=B9 (CZ x 0) (CZ y 0);by_cases h:CZ x 0=CZ y 0
 ·rw[h,bne_self_eq_false];simp only[cond_false,za0];rcases cy with ⟨cy,_⟩ | ⟨cy,_⟩ | ⟨cy,_⟩ <;> rw[cy] at h⊢<;> rcases c3 with ⟨c3,_⟩ | ⟨c3,_⟩ | ⟨c3,_⟩ <;> rw[c3] <;> rw[Aj (by omega) (by omega)] <;> congr 1 <;> omega
 ·have hb:(CZ x 0 != CZ y 0)=true:=by simpa using h
  rw[hb];simp only[cond_true]
  congr 1
  omega
end
section
open Go
theorem Wh {a q r by_:Int} (h:q*by_ + r=a) (h0 : 0<=r) (h1:r<by_):q=a/by_/\r=a%by_:=by
 have:a=r + by_*q:=by rw[<-h,Int.mul_comm]; omega
 subst this;constructor
 ·rw[Int.add_mul_ediv_left _ _ (by omega),Int.ediv_eq_zero_of_lt h0 h1]; omega
 ·rw[Int.add_mul_emod_self_left,Int.emod_eq_of_lt h0 h1]
theorem Yu {a:List Int} {d:Int} (ha:LB a) (hd : 1<=d/\d<=65536) (na:a.length<=10000000) :
  ∃ q r,Ah (fun (s:((List Int)×((List Int)×(Int×(Int×Int)))))=>Fs s.1 s.2.1 s.2.2.1 s.2.2.2.1 s.2.2.2.2) (List.replicate a.length 0,(a,(d,(0,(a.length:Int)-1))))=some (q,r)/\LB q/\q.length=a.length/\0<=r/\r<d/\val q*d + r=val a:=by
 obtain ⟨⟨q,r⟩,h1,h2⟩:=MB (body:=fun (s:((List Int)×((List Int)×(Int×(Int×Int)))))=>Fs s.1 s.2.1 s.2.2.1 s.2.2.2.1 s.2.2.2.2)
  (st:=fun n (b:List Int×Int)=>(b.1,(a,(d,(b.2,(n:Int)-1))))) (fin:=fun b=>b)
  (I:=fun n b=>n<=a.length/\LB b.1/\b.1.length=a.length/\(∀ j,j<n->dg b.1 j=0)/\0<=b.2/\b.2<d/\val b.1*d + B n*b.2=B n*val (a.drop n))
  (by
   rintro n ⟨q,r⟩ ⟨h1,h2,h3,h4,h5,h6,h7⟩;simp only at h2 h3 h4 h5 h6 h7;have hn:n<a.length:=by omega
   have hg:=za1 hn;have dx:=Bi ha n;have hx:a[n]=dg a n:=(Gg hg).symm;have hq:q[n]? = some 0:=by rw[As (by omega),h4 n (by omega)]
   have ht0 : 0<=r*65536 + dg a n:=by omega
   have hdd:=Int.emod_add_mul_ediv (r*65536 + dg a n) d;have m0:=Int.emod_nonneg (r*65536 + dg a n) (show d≠0 by omega);have m1:=Int.emod_lt_of_pos (r*65536 + dg a n) (show 0<d by omega);have q0:=Int.ediv_nonneg ht0 (show 0<=d by omega);have q1:(r*65536 + dg a n)/d<65536:=by
    refine Int.ediv_lt_of_lt_mul (by omega) ?_
    have:r*65536 + dg a n<d*65536:=by omega
    rw[Int.mul_comm 65536 d];exact this
   refine ⟨(q.set n ((r*65536 + dg a n)/d),(r*65536 + dg a n)%d),?_,by omega,h2.set ⟨q0,q1⟩,by simp[h3],fun j hj=>by simp only; rw[Ce (by omega)]; exact h4 j (by omega),m0,m1,?_⟩
   ·unfold Fs A1
    dsimp only
    have hz:(d==0)=false:=beq_eq_false_iff_ne.2 (by omega);have hs:((n + 1:Nat):Int)-1=(n:Int):=by omega
    have i1:A8 (n:Int) q.length=some n:=A5 (by omega);rw[hs,decide_eq_true (by omega),Ao,hg];simp only[cond_true,za0,hz,cond_false,i1,hq,hx];rw[Aj (n:=r*65536) (by omega) (by omega),Aj (n:=r*65536 + dg a n) (by omega) (by omega),zc7 ht0,zc6 ht0,Aj (n:=(r*65536 + dg a n)/d) (by omega) (by omega),Aj (n:=(n:Int)-1) (by omega) (by omega)]
   ·simp only;rw[Ga hq,zb0 hn,hx];simp only[val,Int.sub_zero];have e1:B (n + 1)*r=B n*(r*65536):=by simp only[B]; grind
    have e2:B (n + 1)*val (a.drop (n + 1))=B n*(65536*val (a.drop (n + 1))):=by simp only[B]; grind
    rw[e1,e2] at h7;have e3:B n*((r*65536 + dg a n)/d)*d + B n*((r*65536 + dg a n)%d)=B n*(r*65536) + B n*dg a n:=by
     rw[Int.mul_assoc,<-ze0,<-ze0]
     congr 1
     rw[Int.mul_comm _ d];omega
    rw[Int.add_mul,ze0];omega)
  (by
   rintro ⟨q,r⟩ _;unfold Fs;rfl) a.length (List.replicate a.length 0,0) ⟨za7 _,LB.zeros _,by simp,fun j _=>by
    unfold dg; rw[zb6,List.getElem?_replicate]; split <;> rfl,by omega,by simp only; omega,by simp[FG,val]⟩
 obtain ⟨g1,g2,g3,g4,g5,g6,g7⟩:=h2;simp only[B,Int.one_mul,ze7] at g7;exact ⟨q,r,h1,g2,g3,g5,g6,g7⟩
theorem Y5 {a:List Int} {d:Int} (ha:LB a) (hd : 1<=d/\d<=65536) (na:a.length<=10000000) :
  ∃ q r,Ah (fun (s:((List Int)×((List Int)×(Int×(Int×Int)))))=>FZ s.1 s.2.1 s.2.2.1 s.2.2.2.1 s.2.2.2.2) (List.replicate a.length 0,(a,(d,(0,(a.length:Int)-1))))=some (q,r)/\LB q/\q.length=a.length/\0<=r/\r<d/\val q*d + r=val a:=by
 obtain ⟨⟨q,r⟩,h1,h2⟩:=MB (body:=fun (s:((List Int)×((List Int)×(Int×(Int×Int)))))=>FZ s.1 s.2.1 s.2.2.1 s.2.2.2.1 s.2.2.2.2)
  (st:=fun n (b:List Int×Int)=>(b.1,(a,(d,(b.2,(n:Int)-1))))) (fin:=fun b=>b)
  (I:=fun n b=>n<=a.length/\LB b.1/\b.1.length=a.length/\(∀ j,j<n->dg b.1 j=0)/\0<=b.2/\b.2<d/\val b.1*d + B n*b.2=B n*val (a.drop n))
  (by
   rintro n ⟨q,r⟩ ⟨h1,h2,h3,h4,h5,h6,h7⟩;simp only at h2 h3 h4 h5 h6 h7;have hn:n<a.length:=by omega
   have hg:=za1 hn;have dx:=Bi ha n;have hx:a[n]=dg a n:=(Gg hg).symm;have hq:q[n]? = some 0:=by rw[As (by omega),h4 n (by omega)]
   have ht0 : 0<=r*65536 + dg a n:=by omega
   have hdd:=Int.emod_add_mul_ediv (r*65536 + dg a n) d;have m0:=Int.emod_nonneg (r*65536 + dg a n) (show d≠0 by omega);have m1:=Int.emod_lt_of_pos (r*65536 + dg a n) (show 0<d by omega);have q0:=Int.ediv_nonneg ht0 (show 0<=d by omega);have q1:(r*65536 + dg a n)/d<65536:=by
    refine Int.ediv_lt_of_lt_mul (by omega) ?_
    have:r*65536 + dg a n<d*65536:=by omega
    rw[Int.mul_comm 65536 d];exact this
   refine ⟨(q.set n ((r*65536 + dg a n)/d),(r*65536 + dg a n)%d),?_,by omega,h2.set ⟨q0,q1⟩,by simp[h3],fun j hj=>by simp only; rw[Ce (by omega)]; exact h4 j (by omega),m0,m1,?_⟩
   ·unfold FZ A1
    dsimp only
    have hz:(d==0)=false:=beq_eq_false_iff_ne.2 (by omega);have hs:((n + 1:Nat):Int)-1=(n:Int):=by omega
    have i1:A8 (n:Int) q.length=some n:=A5 (by omega);rw[hs,decide_eq_true (by omega),Ao,hg];simp only[cond_true,za0,hz,cond_false,i1,hq,hx];rw[Aj (n:=r*65536) (by omega) (by omega),Aj (n:=r*65536 + dg a n) (by omega) (by omega),zc7 ht0,zc6 ht0,Aj (n:=(r*65536 + dg a n)/d) (by omega) (by omega),Aj (n:=(n:Int)-1) (by omega) (by omega)]
   ·simp only;rw[Ga hq,zb0 hn,hx];simp only[val,Int.sub_zero];have e1:B (n + 1)*r=B n*(r*65536):=by simp only[B]; grind
    have e2:B (n + 1)*val (a.drop (n + 1))=B n*(65536*val (a.drop (n + 1))):=by simp only[B]; grind
    rw[e1,e2] at h7;have e3:B n*((r*65536 + dg a n)/d)*d + B n*((r*65536 + dg a n)%d)=B n*(r*65536) + B n*dg a n:=by
     rw[Int.mul_assoc,<-ze0,<-ze0]
     congr 1
     rw[Int.mul_comm _ d];omega
    rw[Int.add_mul,ze0];omega)
  (by
   rintro ⟨q,r⟩ _;unfold FZ;rfl) a.length (List.replicate a.length 0,0) ⟨za7 _,LB.zeros _,by simp,fun j _=>by
    unfold dg; rw[zb6,List.getElem?_replicate]; split <;> rfl,by omega,by simp only; omega,by simp[FG,val]⟩
 obtain ⟨g1,g2,g3,g4,g5,g6,g7⟩:=h2;simp only[B,Int.one_mul,ze7] at g7;exact ⟨q,r,h1,g2,g3,g5,g6,g7⟩
theorem Ad4 {n:Nat} {d:Int} (hd : 1<=d/\d<=65536) (hn:(lim n).length<=10000000):FL (lim n) d=some (lim (n/d.toNat),((n%d.toNat:Nat):Int)):=by
 obtain ⟨q,r,h1,h2,h3,h4,h5,h6⟩:=Yu (AN n) hd hn;rw[AE] at h6;unfold FL;rw[IC (by unfold Ag; omega) (by unfold Ag; omega),Aj (by omega) (by omega)];simp only[za0,h1];rw[Au2 (by unfold AH; omega)];simp only[za0];rw[Cy h2];obtain ⟨e1,e2⟩:=Wh h6 h4 h5;have hdn:d=(d.toNat:Int):=by omega
 have hv:=AX h2;have q1:(val q).toNat=n/d.toNat:=by
  have:val q=((n/d.toNat:Nat):Int):=by rw[e1,hdn]; simp
  omega
 have q2:r=((n%d.toNat:Nat):Int):=by rw[e2,hdn]; simp
 rw[q1,q2]
theorem A4j {n:Nat} {d:Int} (hd : 1<=d/\d<=65535) (hn:(lim n).length<=10000000):IR (lim n) d=some (lim (n/d.toNat),lim (n%d.toNat)):=by
 obtain ⟨q,r,h1,h2,h3,h4,h5,h6⟩:=Y5 (AN n) (show 1<=d/\d<=65536 by omega) hn;rw[AE] at h6;unfold IR;rw[IC (by unfold Ag; omega) (by unfold Ag; omega),Aj (by omega) (by omega)];simp only[za0,h1];rw[Hl (by unfold AH; omega)];simp only[za0];rw[Hl (by unfold AH; simp)];simp only[za0];rw[Cy h2,Cy (LB.cons (by omega) LB.nil)];obtain ⟨e1,e2⟩:=Wh h6 h4 h5;have hdn:d=(d.toNat:Int):=by omega
 have hv:=AX h2;have q1:(val q).toNat=n/d.toNat:=by
  have:val q=((n/d.toNat:Nat):Int):=by rw[e1,hdn]; simp
  omega
 have q2:(val [r]).toNat=n%d.toNat:=by
  have:r=((n%d.toNat:Nat):Int):=by rw[e2,hdn]; simp
  simp only[val];omega
 rw[q1,q2]
end
section
open Go
section
variable {P v1 v2 vr top u2 ur q r v U:Int} (hP : 0<P) (hv1 : 1<=v1) (hv1':v1<65536) (hv2 : 0<=v2/\v2<65536) (hvr : 0<=vr/\vr<P) (hu2 : 0<=u2/\u2<65536) (hur : 0<=ur/\ur<P)
 (hv:v=(v1*65536 + v2)*P + vr) (hU:U=(top*65536 + u2)*P + ur) (hq:q*v1 + r=top) (hq0 : 0<=q)
include hP hv1 hv2 hvr hu2 hur hv hU hq hq0
theorem Aj7 (h:q*v2>r*65536 + u2):U<q*v:=by
 have h1:q*(v1*65536 + v2)=(q*v1)*65536 + q*v2:=by grind
 have h2:top*65536 + u2 + 1<=q*(v1*65536 + v2):=by omega
 have h3:=za9 h2 (ze3 hP);have h4 : 0<=q*vr:=ze8 hq0 hvr.1;have h5:q*v=q*(v1*65536 + v2)*P + q*vr:=by rw[hv]; grind
 rw[Int.add_mul] at h3;omega
theorem Aw6 (hq1:q<65536) (h:q*v2<=r*65536 + u2):q*v<U + v:=by
 have h1:q*(v1*65536 + v2)=(q*v1)*65536 + q*v2:=by grind
 have h2:q*(v1*65536 + v2)<=top*65536 + u2:=by omega
 have h3:=za9 h2 (ze3 hP);have h4:q*vr<=65535*P:=Int.le_trans (zb2 (ze3 hvr.2) hq0) (za9 (by omega) (ze3 hP));have h5:q*v=q*(v1*65536 + v2)*P + q*vr:=by rw[hv]; grind
 have h6 : 65536*P<=(v1*65536 + v2)*P:=za9 (by omega) (ze3 hP);omega
theorem ZF (hq1:q<65536) (h : 65536<=r):q*v<=U:=by
 have h1:q*(v1*65536 + v2)=(q*v1)*65536 + q*v2:=by grind
 have h7:q*v2<=q*65535:=zb2 (by omega) hq0;have h2:q*(v1*65536 + v2) + 65536<=top*65536 + u2:=by omega
 have h3:=za9 h2 (ze3 hP);have h4:q*vr<=65535*P:=Int.le_trans (zb2 (ze3 hvr.2) hq0) (za9 (by omega) (ze3 hP));have h5:q*v=q*(v1*65536 + v2)*P + q*vr:=by rw[hv]; grind
 rw[Int.add_mul] at h3;omega
end
theorem AO8 {P' v1 vt top ut v U Q:Int} (hP : 0<P') (hv1 : 1<=v1) (hvt : 0<=vt) (hut:ut<P') (hv:v=v1*P' + vt) (hU:U=top*P' + ut) (hQ:Q*v<=U) (hQ0 : 0<=Q):Q<=top/v1:=by
 rw[Int.le_ediv_iff_mul_le (by omega)];by_cases h:Q*v1<=top
 ·exact h
 ·exfalso
  have h1:top + 1<=Q*v1:=by omega
  have h2:=za9 h1 (ze3 hP);have h3 : 0<=Q*vt:=ze8 hQ0 hvt;have h4:Q*v=Q*v1*P' + Q*vt:=by rw[hv]; grind
  rw[Int.add_mul] at h2;omega
end
section
open Go
theorem A4e {x c:Int} (hx:x<65536) (hlo : -4294967296<=x) (hc:c=if x<0 then (-x + 65536-1)/65536 else 0) :
  0<=x + c*65536/\x + c*65536<65536/\0<=c/\c<=65536:=by
 subst hc
 split <;> omega
structure Off (u0 u:List Int) (j k:Nat) (c q:Int) (v:List Int):Prop where
 len:u.length=u0.length
 lb:LB u
 hi:∀ i,j + k<=i->dg u i=dg u0 i
 c0 : 0<=c
 c1:c<=65536
 v:val u-B (j + k)*c=val u0-B j*(q*val (v.take k))
theorem Off.start {u0:List Int} (h:LB u0) (j:Nat) (q:Int) (v:List Int):Off u0 u0 j 0 0 q v:=⟨rfl,h,fun _ _=>rfl,by omega,by omega,by simp[val]⟩
theorem Off.next {u0 u:List Int} {j k:Nat} {c q:Int} {v:List Int} (h:Off u0 u j k c q v) (hv:LB v) (hq : 0<=q/\q<65536) (hk:j + k<u.length) {c':Int} (hc:c'=if dg u (j + k)-q*dg v k-c<0 then (-(dg u (j + k)-q*dg v k-c) + 65536-1)/65536 else 0) :
  Off u0 (u.set (j + k) (dg u (j + k)-q*dg v k-c + c'*65536)) j (k + 1) c' q v:=by
 have du:=Bi h.lb (j + k);have dv:=Bi hv k;have m0 : 0<=q*dg v k:=ze8 hq.1 dv.1;have m1:q*dg v k<=65535*65535:=Int.le_trans (zb2 (show dg v k<=65535 by omega) hq.1) (za9 (show q<=65535 by omega) (by omega));have hc0:=h.c0;have hc1:=h.c1;obtain ⟨s1,s2,s3,s4⟩:=A4e (x:=dg u (j + k)-q*dg v k-c) (by omega) (by omega) hc;refine ⟨by rw[List.length_set]; exact h.len,h.lb.set ⟨s1,s2⟩,fun i hi=>by rw[Ce (by omega)]; exact h.hi i (by omega),s3,s4,?_⟩
 rw[Ga (As hk),A9,show j + (k + 1)=j + k + 1 by omega];have hv2:=h.v;have e1:B (j + k + 1)*c'=B (j + k)*(c'*65536):=by simp only[B]; grind
 have e2:B j*(q*(val (v.take k) + B k*dg v k))=B j*(q*val (v.take k)) + B (j + k)*(q*dg v k):=by rw[Tr]; grind
 have e3:B (j + k)*(dg u (j + k)-q*dg v k-c + c'*65536-dg u (j + k))=B (j + k)*(c'*65536)-B (j + k)*(q*dg v k)-B (j + k)*c:=by grind
 rw[e1,e2,e3];omega
theorem Ba8 {u0 v out:List Int} {n by_ q:Int} {j:Nat} (hu:LB u0) (hv:LB v) (hq : 0<=q/\q<65536) (hn:n=(v.length:Int)) (hlen:j + v.length<u0.length) (hl:u0.length<=1000000) :
  ∃ u c,Ah (fun (s:((List Int)×((List Int)×((List Int)×(Int×(Int×(Int×(Int×(Int×(Int×Int))))))))))=>EY s.1 s.2.1 s.2.2.1 s.2.2.2.1 s.2.2.2.2.1 s.2.2.2.2.2.1 s.2.2.2.2.2.2.1 s.2.2.2.2.2.2.2.1 s.2.2.2.2.2.2.2.2.1 s.2.2.2.2.2.2.2.2.2) (u0,(v,(out,(n,(by_,((j:Int),(q,(0,(n,0))))))))) =
   some (u,(v,(out,(n,(by_,((j:Int),(q,c)))))))/\Off u0 u j v.length c q v:=by
 subst hn;obtain ⟨⟨u,c⟩,h1,h2⟩:=EM (body:=fun (s:((List Int)×((List Int)×((List Int)×(Int×(Int×(Int×(Int×(Int×(Int×Int))))))))))=>EY s.1 s.2.1 s.2.2.1 s.2.2.2.1 s.2.2.2.2.1 s.2.2.2.2.2.1 s.2.2.2.2.2.2.1 s.2.2.2.2.2.2.2.1 s.2.2.2.2.2.2.2.2.1 s.2.2.2.2.2.2.2.2.2)
  (st:=fun k (b:List Int×Int)=>(b.1,(v,(out,((v.length:Int),(by_,((j:Int),(q,(b.2,((v.length:Int),(k:Int))))))))))) (fin:=fun b=>(b.1,(v,(out,((v.length:Int),(by_,((j:Int),(q,b.2)))))))) (I:=fun k b=>Off u0 b.1 j k b.2 q v) (e:=v.length)
  (by
   rintro k ⟨u,c⟩ hk hI;simp only at hI;have hul:=hI.len;have hp:j + k<u.length:=by omega
   have du:=Bi hI.lb (j + k);have dv:=Bi hv k;have c0:=hI.c0;have c1:=hI.c1;have m0 : 0<=q*dg v k:=ze8 hq.1 dv.1;have m1:q*dg v k<=65535*65535:=Int.le_trans (zb2 (show dg v k<=65535 by omega) hq.1) (za9 (show q<=65535 by omega) (by omega));refine ⟨(u.set (j + k) (dg u (j + k)-q*dg v k-c + (if dg u (j + k)-q*dg v k-c<0 then (-(dg u (j + k)-q*dg v k-c) + 65536-1)/65536 else 0)*65536),if dg u (j + k)-q*dg v k-c<0 then (-(dg u (j + k)-q*dg v k-c) + 65536-1)/65536 else 0),?_,hI.next hv hq hp rfl⟩
   unfold EY A1
   dsimp only
   have i1:A8 ((j:Int) + (k:Int)) u.length=some (j + k):=by rw[show (j:Int) + (k:Int)=((j + k:Nat):Int) by omega]; exact A5 hp
   have hw1:=AR (show k<4611686018427387904 by omega);have hjk:=Aj (n:=(j:Int) + (k:Int)) (by omega) (by omega);rw[decide_eq_true (by omega),hjk];simp only[cond_true,i1,A5 hk,za0,As hp,As hk];rw[Aj (n:=q*dg v k) (by omega) (by omega),Aj (n:=dg u (j + k)-q*dg v k) (by omega) (by omega),Aj (n:=dg u (j + k)-q*dg v k-c) (by omega) (by omega)];have hxb : -4294967296<=dg u (j + k)-q*dg v k-c/\dg u (j + k)-q*dg v k-c<65536:=by omega
   generalize dg u (j + k)-q*dg v k-c=x at *
   by_cases hx:x<0
   ·rw[decide_eq_true hx,if_pos hx,Aj (n:=0-x) (by omega) (by omega),Aj (n:=0-x + 65536) (by omega) (by omega),Aj (n:=0-x + 65536-1) (by omega) (by omega),zc7 (by omega),show 0-x + 65536-1 = -x + 65536-1 by omega];rw[Aj (n:=(-x + 65536-1)/65536) (by omega) (by omega),Aj (n:=(-x + 65536-1)/65536*65536) (by omega) (by omega),Aj (n:=x + (-x + 65536-1)/65536*65536) (by omega) (by omega)];simp only[cond_true,za0,za8,hjk,i1,As hp,hw1]
   ·rw[decide_eq_false hx,if_neg hx];simp only[cond_false,za0,za8,hjk,i1,As hp,hw1,Int.zero_mul,Int.add_zero])
  (by
   rintro ⟨u,c⟩ _;unfold EY
   dsimp only
   rw[decide_eq_false (Int.lt_irrefl _)];rfl) 0 (u0,0) (by omega) (Off.start hu j q v)
 exact ⟨u,c,h1,h2⟩
structure Back (u0 u:List Int) (j k:Nat) (c:Int) (v:List Int):Prop where
 len:u.length=u0.length
 lb:∀ i,i<j + v.length->0<=dg u i/\dg u i<65536
 hi:∀ i,j + k<=i->dg u i=dg u0 i
 c0 : 0<=c
 c1:c<65536
 v:val u + B (j + k)*c=val u0 + B j*val (v.take k)
theorem A2S {l:List Int} {k j:Nat} {x:Int} (hk:k<l.length):dg (l.set k x) j=if j=k then x else dg l j:=by
 split
 ·rename_i h; subst h; exact Gg (by rw[List.getElem?_set_self hk])
 ·rename_i h; exact Ce (fun hh=>h hh.symm)
theorem Back.next {u0 u:List Int} {j k:Nat} {c:Int} {v:List Int} (h:Back u0 u j k c v) (hv:LB v) (hkv:k<v.length) (hk:j + k<u.length) :
  Back u0 (u.set (j + k) ((dg u (j + k) + dg v k + c)%65536)) j (k + 1) ((dg u (j + k) + dg v k + c)/65536) v:=by
 have du:=h.lb (j + k) (by omega);have dv:=Bi hv k;have c0:=h.c0;have c1:=h.c1;refine ⟨by rw[List.length_set]; exact h.len,fun i hi=>?_,fun i hi=>by rw[Ce (by omega)]; exact h.hi i (by omega),by omega,by omega,?_⟩
 ·rw[A2S hk]
  split
  ·omega
  ·exact h.lb i hi
 ·have:=AQ4 (out:=u) (p:=j + k) (o:=dg u (j + k)) (d:=(dg u (j + k) + dg v k + c)%65536) (c:=c) (c':=(dg u (j + k) + dg v k + c)/65536) (t:=dg v k) (V:=val u0 + B j*val (v.take k)) (As hk) (by omega) h.v;rw[show j + (k + 1)=j + k + 1 by omega,this,A9,ze0];have:B (j + k)*dg v k=B j*(B k*dg v k):=by rw[Tr]; grind
  omega
theorem Be2 {u0 v out:List Int} {n by_ q:Int} {j:Nat} (hu:∀ i,i<j + v.length->0<=dg u0 i/\dg u0 i<65536) (hv:LB v) (hn:n=(v.length:Int)) (hlen:j + v.length<u0.length) (hl:u0.length<=1000000) :
  ∃ u c,Ah (fun (s:((List Int)×((List Int)×((List Int)×(Int×(Int×(Int×(Int×(Int×(Int×Int))))))))))=>Fh s.1 s.2.1 s.2.2.1 s.2.2.2.1 s.2.2.2.2.1 s.2.2.2.2.2.1 s.2.2.2.2.2.2.1 s.2.2.2.2.2.2.2.1 s.2.2.2.2.2.2.2.2.1 s.2.2.2.2.2.2.2.2.2) (u0,(v,(out,(n,(by_,((j:Int),(q,(0,(n,0))))))))) =
   some (u,(v,(out,(n,(by_,((j:Int),(q,c)))))))/\Back u0 u j v.length c v:=by
 subst hn;obtain ⟨⟨u,c⟩,h1,h2⟩:=EM (body:=fun (s:((List Int)×((List Int)×((List Int)×(Int×(Int×(Int×(Int×(Int×(Int×Int))))))))))=>Fh s.1 s.2.1 s.2.2.1 s.2.2.2.1 s.2.2.2.2.1 s.2.2.2.2.2.1 s.2.2.2.2.2.2.1 s.2.2.2.2.2.2.2.1 s.2.2.2.2.2.2.2.2.1 s.2.2.2.2.2.2.2.2.2)
  (st:=fun k (b:List Int×Int)=>(b.1,(v,(out,((v.length:Int),(by_,((j:Int),(q,(b.2,((v.length:Int),(k:Int))))))))))) (fin:=fun b=>(b.1,(v,(out,((v.length:Int),(by_,((j:Int),(q,b.2)))))))) (I:=fun k b=>Back u0 b.1 j k b.2 v) (e:=v.length)
  (by
   rintro k ⟨u,c⟩ hk hI;simp only at hI;have hul:=hI.len;have hp:j + k<u.length:=by omega
   have du:=hI.lb (j + k) (by omega);have dv:=Bi hv k;have c0:=hI.c0;have c1:=hI.c1;refine ⟨(u.set (j + k) ((dg u (j + k) + dg v k + c)%65536),(dg u (j + k) + dg v k + c)/65536),?_,hI.next hv hk hp⟩
   unfold Fh A1
   dsimp only
   have i1:A8 ((j:Int) + (k:Int)) u.length=some (j + k):=by rw[show (j:Int) + (k:Int)=((j + k:Nat):Int) by omega]; exact A5 hp
   have hw1:=AR (show k<4611686018427387904 by omega);have hjk:=Aj (n:=(j:Int) + (k:Int)) (by omega) (by omega);rw[decide_eq_true (by omega),hjk];simp only[cond_true,i1,A5 hk,za0,As hp,As hk];rw[Aj (n:=dg u (j + k) + dg v k) (by omega) (by omega),Aj (n:=c + (dg u (j + k) + dg v k)) (by omega) (by omega),show c + (dg u (j + k) + dg v k)=dg u (j + k) + dg v k + c by omega,zc6 (by omega),zc7 (by omega),Aj (n:=(dg u (j + k) + dg v k + c)/65536) (by omega) (by omega),hw1])
  (by
   rintro ⟨u,c⟩ _;unfold Fh
   dsimp only
   rw[decide_eq_false (Int.lt_irrefl _)];rfl) 0 (u0,0) (by omega) ⟨rfl,hu,fun _ _=>rfl,by simp only; omega,by simp only; omega,by simp[val]⟩
 exact ⟨u,c,h1,h2⟩
structure Guess (P v1 v2 vr top u2 ur V U Q:Int):Prop where
 hP : 0<P
 hv1 : 1<=v1
 hv1':v1<65536
 hv2 : 0<=v2/\v2<65536
 hvr : 0<=vr/\vr<P
 hu2 : 0<=u2/\u2<65536
 hur : 0<=ur/\ur<P
 hV:V=(v1*65536 + v2)*P + vr
 hU:U=(top*65536 + u2)*P + ur
 htop : 0<=top/\top<4294967296
 hQ:Q*V<=U
 hQ0 : 0<=Q
 hQ1:Q<65536
 hV0 : 0<V
theorem A9D {u v out:List Int} {n by_:Int} {j m:Nat} {P v1 v2 vr top u2 ur V U Q:Int} (G:Guess P v1 v2 vr top u2 ur V U Q) (hn:n=((m + 2:Nat):Int)) (hm:m<=1000000) (hj:j<=1000000)
  (hv:v.length=m + 2) (e1:dg v (m + 1)=v1) (e2:dg v m=v2) (hu:j + m<u.length) (e3:dg u (j + m)=u2) {q0 r0:Int} (h0:q0*v1 + r0=top) (hr0 : 0<=r0) (hq0:Q<=q0) (hq4:q0<4294967296) :
  ∃ q,Ah (fun (s:((List Int)×((List Int)×((List Int)×(Int×(Int×(Int×(Int×Int))))))))=>C8 s.1 s.2.1 s.2.2.1 s.2.2.2.1 s.2.2.2.2.1 s.2.2.2.2.2.1 s.2.2.2.2.2.2.1 s.2.2.2.2.2.2.2) (u,(v,(out,(n,(by_,((j:Int),(q0,r0)))))))=some (u,(v,(out,(n,(by_,((j:Int),q))))))/\Q<=q/\q<65536/\q*V<U + V:=by
 subst hn;obtain ⟨r,h1,q,rfl,h2⟩:=Fq (f:=fun (s:((List Int)×((List Int)×((List Int)×(Int×(Int×(Int×(Int×Int))))))))=>C8 s.1 s.2.1 s.2.2.1 s.2.2.2.1 s.2.2.2.2.1 s.2.2.2.2.2.1 s.2.2.2.2.2.2.1 s.2.2.2.2.2.2.2)
  (I:=fun s=>∃ q r:Int,s=(u,(v,(out,(((m + 2:Nat):Int),(by_,((j:Int),(q,r)))))))/\q*v1 + r=top/\0<=r/\Q<=q/\q<4294967296)
  (R:=fun s=>∃ q:Int,s=(u,(v,(out,(((m + 2:Nat):Int),(by_,((j:Int),q))))))/\Q<=q/\q<65536/\q*V<U + V) (fun s=>s.2.2.2.2.2.2.1.toNat) (by
   rintro s ⟨q,r,rfl,g1,g2,g3,g4⟩;simp only;have hQ0:=G.hQ0;have hQ1:=G.hQ1;have hv1:=G.hv1;have hv1':=G.hv1';have hv2:=G.hv2;have hu2:=G.hu2;have htop:=G.htop;have hqv : 0<=q*v1:=ze8 (by omega) (by omega);have hqv2 : 0<=q*v2:=ze8 (by omega) hv2.1;have hqv2':q*v2<=4294967296*65536:=Int.le_trans (zb2 (show v2<=65536 by omega) (by omega)) (za9 (show q<=4294967296 by omega) (by omega));have iv1:A8 (((m + 2:Nat):Int)-1) v.length=some (m + 1):=by rw[show ((m + 2:Nat):Int)-1=((m + 1:Nat):Int) by omega]; exact A5 (by omega)
   have iv2:A8 (((m + 2:Nat):Int)-2) v.length=some m:=by rw[show ((m + 2:Nat):Int)-2=((m:Nat):Int) by omega]; exact A5 (by omega)
   have iu:A8 ((j:Int) + ((m + 2:Nat):Int)-2) u.length=some (j + m):=by rw[show (j:Int) + ((m + 2:Nat):Int)-2=((j + m:Nat):Int) by omega]; exact A5 (by omega)
   have w1:=Aj (n:=((m + 2:Nat):Int)-1) (by omega) (by omega);have w2:=Aj (n:=((m + 2:Nat):Int)-2) (by omega) (by omega);have w3:=Aj (n:=(j:Int) + ((m + 2:Nat):Int)) (by omega) (by omega);have w4:=Aj (n:=(j:Int) + ((m + 2:Nat):Int)-2) (by omega) (by omega);have w5:=Aj (n:=q*v2) (by omega) (by omega);have w6:=Aj (n:=r*65536) (by omega) (by omega);have w7:=Aj (n:=r*65536 + u2) (by omega) (by omega);have w8:=Aj (n:=q-1) (by omega) (by omega);have w9:=Aj (n:=r + v1) (by omega) (by omega)
   have less:∀ (hgo:Q<=q-1),∃ q' r':Int,(u,(v,(out,(((m + 2:Nat):Int),(by_,((j:Int),(q-1,r + v1)))))))=(u,(v,(out,(((m + 2:Nat):Int),(by_,((j:Int),(q',r')))))))/\q'*v1 + r'=top/\0<=r'/\Q<=q'/\q'<4294967296:=by
    intro hgo;exact ⟨q-1,r + v1,rfl,by rw[Int.sub_mul]; omega,by omega,hgo,by omega⟩
   by_cases c1:q>=65536
   ·refine .inl ⟨(u,(v,(out,(((m + 2:Nat):Int),(by_,((j:Int),(q-1,r + v1))))))),?_,less (by omega),by simp only; omega⟩
    unfold C8 A1;rw[decide_eq_true c1];simp only[cond_true,za0,za8,w1,iv1,As (show m + 1<v.length by omega),e1,w8,w9]
   ·by_cases c2:r<65536
    ·by_cases c3:q*v2>r*65536 + u2
     ·have hlt:=Aj7 G.hP G.hv1 G.hv2 G.hvr G.hu2 G.hur G.hV G.hU g1 (by omega) c3;have hne:Q<=q-1:=by
       rcases Int.lt_or_le (q-1) Q with h | h
       ·have:q=Q:=by omega
        subst this;have:=G.hQ;omega
       ·exact h
      refine .inl ⟨(u,(v,(out,(((m + 2:Nat):Int),(by_,((j:Int),(q-1,r + v1))))))),?_,less hne,by simp only; omega⟩
      unfold C8 A1;rw[decide_eq_false c1,decide_eq_true c2];simp only[cond_true,cond_false,za0,w2,iv2,As (show m<v.length by omega),e2,w3,w4,iu,As hu,e3,w5,w6,w7,decide_eq_true c3,za8,w1,iv1,As (show m + 1<v.length by omega),e1,w8,w9]
     ·refine .inr ⟨_,?_,q,rfl,g3,by omega,Aw6 G.hP G.hv1 G.hv2 G.hvr G.hu2 G.hur G.hV G.hU g1 (by omega) (by omega) (by omega)⟩
      unfold C8 A1;rw[decide_eq_false c1,decide_eq_true c2];simp only[cond_true,cond_false,za0,w2,iv2,As (show m<v.length by omega),e2,w3,w4,iu,As hu,e3,w5,w6,w7,decide_eq_false c3,Sum.elim_inl]
    ·have hle:=ZF G.hP G.hv1 G.hv2 G.hvr G.hu2 G.hur G.hV G.hU g1 (by omega) (by omega) (by omega);have hV0:=G.hV0;refine .inr ⟨_,?_,q,rfl,g3,by omega,by omega⟩
     unfold C8 A1;rw[decide_eq_false c1,decide_eq_false c2];rfl) (u,(v,(out,(((m + 2:Nat):Int),(by_,((j:Int),(q0,r0))))))) ⟨q0,r0,rfl,h0,hr0,hq0,hq4⟩
 exact ⟨q,h1,h2⟩
end
section
open Go
theorem Sa {j:Nat} {a b X Y:Int} (ha : 0<=a/\a<B j) (hb : 0<=b/\b<B j) (h:a + B j*X=b + B j*Y):X=Y:=by
 rcases Int.lt_trichotomy X Y with g | g | g
 ·exfalso
  have:=zb2 (show X + 1<=Y by omega) (ze3 (GM j));rw[ze0] at this;omega
 ·exact g
 ·exfalso
  have:=zb2 (show Y + 1<=X by omega) (ze3 (GM j));rw[ze0] at this;omega
theorem YV (l:List Int) (n k:Nat):dg (l.drop n) k=dg l (n + k):=by unfold dg; simp[zb6,zd2]
theorem CK (l:List Int) (k:Nat):val (l.drop k)=dg l k + 65536*val (l.drop (k + 1)):=by
 rcases zd9 k l.length with h | h
 ·rw[zb0 h,Gg (za1 h)]; rfl
 ·rw[zd1 h,zd1 (by omega),I7 h]; simp[val]
theorem Ae7 {l:List Int} (h:∀ i,i<l.length->0<=dg l i/\dg l i<65536):LB l:=fun x hx=>by
 obtain ⟨i,hi,rfl⟩:=List.getElem_of_mem hx;have:=h i hi
 rwa [Gg (za1 hi)] at this
theorem A8S {l:List Int} {k i:Nat} (h:i<k):dg (l.take k) i=dg l i:=by unfold dg; simp[zb6,zb9,h]
theorem A3f {l:List Int} {k:Nat} (h:∀ i,i<k->0<=dg l i/\dg l i<65536):LB (l.take k):=Ae7 fun i hi=>by
 rw[List.length_take] at hi;rw[A8S (by omega)];exact h i (by omega)
theorem Qu:∀ {l:List Int},(∀ i,dg l i=0)->val l=0
 | [],_=>rfl
 | x::l,h=>by
  have h0:=h 0;have h1:val l=0:=Qu fun i=>h (i + 1)
  simp only[val,h1];unfold dg at h0;simp at h0;omega
theorem CW {l:List Int} (h:LB l) (k:Nat) : 0<=val (l.take k)/\val (l.take k)<B k:=by
 refine ⟨AX (h.take k),?_⟩
 have:=Py (h.take k);have:=Kf (show (l.take k).length<=k by rw[List.length_take]; omega);omega
theorem A3c {l:List Int} (h:LB l) {n k:Nat} (hv:val l<B n) (hk:n<=k):dg l k=0/\val (l.drop k)=0:=by
 have h1:=Cd l k;have h2:=AX (h.take k);have h3:=AX (h.drop k);have h4:=Kf hk;have h5:val (l.drop k)=0:=by
  rcases Int.lt_or_le 0 (val (l.drop k)) with g | g
  ·have:=zb2 (show 1<=val (l.drop k) by omega) (ze3 (GM k));omega
  ·omega
 have h6:=CK l k;have h7:=Bi h k;have h8:=AX (h.drop (k + 1));exact ⟨by omega,h5⟩
structure Place (u v:List Int) (j m:Nat):Prop where
 lu:LB u
 lv:LB v
 hv:v.length=m + 2
 top : 1<=dg v (m + 1)
 len:j + m + 2<u.length
 less:val (u.drop (j + 1))<val v
section
variable {u v:List Int} {j m:Nat} (H:Place u v j m)
include H
theorem Place.pos : 0<val v:=by
 have h1:=Cd v (m + 1);have h2:=AX (H.lv.take (m + 1));have h3:=CK v (m + 1);have h4:=AX (H.lv.drop (m + 1 + 1));have h5:=H.top;have h6:=zb2 (show 1<=val (v.drop (m + 1)) by omega) (ze3 (GM (m + 1)));have h7:=GM (m + 1);omega
theorem Place.lt:val v<B (m + 2):=by have:=Py H.lv; rwa [H.hv] at this
theorem Place.high {k:Nat} (hk:j + m + 3<=k):dg u k=0/\val (u.drop k)=0:=by
 have h1:=A3c (H.lu.drop (j + 1)) (n:=m + 2) (k:=k-(j + 1)) (by have:=H.less; have:=H.lt; omega) (by omega);rw[YV,List.drop_drop,show j + 1 + (k-(j + 1))=k by omega] at h1;exact h1
theorem Place.rest : 0<=val (u.drop j)/\val (u.drop j)<65536*val v:=by
 refine ⟨AX (H.lu.drop j),?_⟩
 have h1:=CK u j;have h2:=Bi H.lu j;have h3:=H.less;omega
theorem Place.quot : 0<=val (u.drop j)/val v/\val (u.drop j)/val v<65536:=by
 obtain ⟨h1,h2⟩:=H.rest;have h3:=H.pos;exact ⟨Int.ediv_nonneg h1 (by omega),Int.ediv_lt_of_lt_mul h3 h2⟩
theorem Place.mod : 0<=val (u.drop j)-val (u.drop j)/val v*val v/\val (u.drop j)-val (u.drop j)/val v*val v<val v:=by
 have h1:=Int.emod_add_mul_ediv (val (u.drop j)) (val v);have h2:=Int.emod_nonneg (val (u.drop j)) (show val v≠0 by have:=H.pos; omega);have h3:=Int.emod_lt_of_pos (val (u.drop j)) H.pos;rw[Int.mul_comm] at h1;omega
theorem Place.guess:Guess (B m) (dg v (m + 1)) (dg v m) (val (v.take m)) (dg u (j + m + 2)*65536 + dg u (j + m + 1)) (dg u (j + m)) (val ((u.drop j).take m)) (val v) (val (u.drop j)) (val (u.drop j)/val v):=by
 have d1:=Bi H.lu (j + m + 1);have d2:=Bi H.lu (j + m + 2);have hm:=H.mod;have hq:=H.quot;refine ⟨GM m,H.top,(Bi H.lv _).2,Bi H.lv _,CW H.lv m,Bi H.lu _,CW (H.lu.drop j) m,?_,?_,by omega,by omega,hq.1,hq.2,H.pos⟩
 ·rw[Cd v m,CK v m,CK v (m + 1),zd1 (show v.length<=m + 1 + 1 by rw[H.hv]; omega)];simp only[val]
  grind
 ·rw[Cd (u.drop j) m,List.drop_drop,CK u (j + m),CK u (j + m + 1),CK u (j + m + 1 + 1),(H.high (k:=j + m + 1 + 1 + 1) (by omega)).2,show j + m + 1 + 1=j + m + 2 by omega]
  grind
theorem Place.after {u4:List Int} (hl:u4.length=u.length) (hg:∀ i,i<j + m + 2->0<=dg u4 i/\dg u4 i<65536) (hh:∀ i,j + m + 2<i->dg u4 i=dg u i) {x:Int} (hv:val u4=val u-B j*(x*val v)) :
  val (u4.drop j)=val (u.drop j)-x*val v/\∃ X,0<=X/\X<B (m + 2)/\val (u.drop j)-x*val v=X + B (m + 2)*dg u4 (j + m + 2):=by
 have e1:val (u4.drop j)=val (u.drop j)-x*val v:=by
  have h1:=Cd u4 j;have h2:=Cd u j;have h3:=CW H.lu j;have h4:LB (u4.take j):=A3f fun i hi=>hg i (by omega)
  have h5:=CW h4 j;rw[List.take_take,Nat.min_self] at h5;refine Sa (j:=j) h5 h3 ?_
  rw[Int.mul_sub];omega
 refine ⟨e1,val ((u4.drop j).take (m + 2)),?_⟩
 have h4:LB ((u4.drop j).take (m + 2)):=A3f fun i hi=>by rw[YV]; exact hg _ (by omega)
 have h5:=CW h4 (m + 2);rw[List.take_take,Nat.min_self] at h5;refine ⟨h5.1,h5.2,?_⟩
 rw[<-e1,Cd (u4.drop j) (m + 2),List.drop_drop,CK u4 (j + (m + 2)),Qu (l:=u4.drop (j + (m + 2) + 1)) fun i=>by rw[YV,hh _ (by omega)]; exact (H.high (by omega)).1];rw[show j + (m + 2)=j + m + 2 by omega,Int.mul_zero,Int.add_zero]
theorem Place.done {u4:List Int} (hl:u4.length=u.length) (hg:∀ i,i<j + m + 2->0<=dg u4 i/\dg u4 i<65536) (hh:∀ i,j + m + 2<i->dg u4 i=dg u i) {x:Int} (hv:val u4=val u-B j*(x*val v))
  (hx : 0<=val (u.drop j)-x*val v/\val (u.drop j)-x*val v<val v):dg u4 (j + m + 2)=0/\LB u4/\val (u4.drop j)<val v:=by
 obtain ⟨h1,X,h2,h3,h4⟩:=H.after hl hg hh hv;have h0:dg u4 (j + m + 2)=0:=by
  have:=H.lt;exact (Sa (j:=m + 2) (a:=val (u.drop j)-x*val v) (b:=X) (X:=0) (by omega) (by omega) (by rw[h4]; simp)).symm
 refine ⟨h0,Ae7 fun i hi=>?_,by omega⟩
 rcases Nat.lt_trichotomy i (j + m + 2) with g | g | g
 ·exact hg i g
 ·rw[g,h0]; omega
 ·rw[hh i g]; exact Bi H.lu i
theorem Place.one {q:Int} (h1:val (u.drop j)/val v<=q) (h2:q*val v<val (u.drop j) + val v):q=val (u.drop j)/val v\/q=val (u.drop j)/val v + 1:=by
 have hm:=H.mod;have hp:=H.pos;rcases Int.lt_or_le (val (u.drop j)/val v + 1) q with g | g
 ·exfalso
  have:=za9 (show val (u.drop j)/val v + 2<=q by omega) (ze3 hp);rw[Int.add_mul] at this;omega
 ·omega
end
end
section
open Go
theorem Place.start {u v:List Int} {j m:Nat} (H:Place u v j m):val (u.drop j)/val v<=(dg u (j + m + 2)*65536 + dg u (j + m + 1))/dg v (m + 1):=by
 have G:=H.guess;have hu2:=G.hu2;have hur:=G.hur;have hP:=G.hP;have hv2:=G.hv2;have hvr:=G.hvr;have h1:dg u (j + m)*B m<=65535*B m:=za9 (by omega) (by omega);have h2 : 0<=dg v m*B m:=ze8 hv2.1 (by omega);exact AO8 (P':=65536*B m) (vt:=dg v m*B m + val (v.take m)) (ut:=dg u (j + m)*B m + val ((u.drop j).take m)) (v:=val v) (U:=val (u.drop j)) (by omega) G.hv1 (by omega) (by omega) (by rw[G.hV]; grind) (by rw[G.hU]; grind) G.hQ G.hQ0
set_option maxHeartbeats 1000000 in
theorem A9i {u v out:List Int} {by_:Int} {j m:Nat} (H:Place u v j m) (hl:u.length<=1000000) (hj:j<out.length) :
  ∃ u',C7 u v out ((m + 2:Nat):Int) by_ (j:Int)=some (.inl (u',(v,(out.set j (val (u.drop j)/val v),(((m + 2:Nat):Int),(by_,(j:Int)-1)))))) /\
   u'.length=u.length/\LB u'/\val u'=val u-B j*(val (u.drop j)/val v*val v)/\val (u'.drop j)<val v:=by
 have hlen:=H.len;have hvl:=H.hv;have d1:=Bi H.lu (j + m + 1);have d2:=Bi H.lu (j + m + 2);have dv:=Bi H.lv (m + 1);have htop:=H.top;have G:=H.guess;have hQ:=H.quot;have hmod:=H.mod;have hst:=H.start;have hk:∀ l:List Int,l.length=u.length->A8 (IntKind.wrap .i64 ((j:Int) + ((m + 2:Nat):Int))) l.length=some (j + m + 2):=fun l h=>by
  rw[h,Aj (by omega) (by omega),show (j:Int) + ((m + 2:Nat):Int)=((j + m + 2:Nat):Int) by omega];exact A5 (by omega)
 have hk1:A8 (IntKind.wrap .i64 (IntKind.wrap .i64 ((j:Int) + ((m + 2:Nat):Int))-1)) u.length=some (j + m + 1):=by
  rw[Aj (n:=(j:Int) + ((m + 2:Nat):Int)) (by omega) (by omega),Aj (by omega) (by omega),show (j:Int) + ((m + 2:Nat):Int)-1=((j + m + 1:Nat):Int) by omega];exact A5 (by omega)
 have hk2:A8 (IntKind.wrap .i64 (((m + 2:Nat):Int)-1)) v.length=some (m + 1):=by
  rw[Aj (by omega) (by omega),show ((m + 2:Nat):Int)-1=((m + 1:Nat):Int) by omega];exact A5 (by omega)
 have hj0:∀ l:List Int,l.length=out.length->A8 (j:Int) l.length=some j:=fun l h=>by rw[h]; exact A5 hj
 have hge:decide ((j:Int)>=0)=true:=decide_eq_true (by omega);have hz:(dg v (m + 1)==0)=false:=beq_eq_false_iff_ne.2 (by omega);have w1:=Aj (n:=dg u (j + m + 2)*65536) (by omega) (by omega);have w2:=Aj (n:=dg u (j + m + 2)*65536 + dg u (j + m + 1)) (by omega) (by omega);have htop0 : 0<=dg u (j + m + 2)*65536 + dg u (j + m + 1):=by omega
 have e1:=Int.emod_add_mul_ediv (dg u (j + m + 2)*65536 + dg u (j + m + 1)) (dg v (m + 1));have e2:=Int.emod_nonneg (dg u (j + m + 2)*65536 + dg u (j + m + 1)) (show dg v (m + 1)≠0 by omega);have e3:(dg u (j + m + 2)*65536 + dg u (j + m + 1))/dg v (m + 1)<=dg u (j + m + 2)*65536 + dg u (j + m + 1):=Int.ediv_le_self _ htop0;have w3:=Aj (n:=(dg u (j + m + 2)*65536 + dg u (j + m + 1))/dg v (m + 1)) (by omega) (by omega)
 obtain ⟨q,hg1,hg2,hg3,hg4⟩:=A9D (out:=out) (by_:=by_) (u:=u) (v:=v) (j:=j) (m:=m) G rfl (by omega) (by omega) hvl rfl rfl (by omega) rfl (q0:=(dg u (j + m + 2)*65536 + dg u (j + m + 1))/dg v (m + 1)) (r0:=(dg u (j + m + 2)*65536 + dg u (j + m + 1))%dg v (m + 1)) (by rw[Int.mul_comm]; omega) e2 hst (by omega);obtain ⟨u1,c,ht1,O⟩:=Ba8 (out:=out) (by_:=by_) (n:=((m + 2:Nat):Int)) (j:=j) H.lu H.lv (q:=q) ⟨by omega,hg3⟩ (by rw[hvl]) (by omega) hl;have ol:=O.len;have oc0:=O.c0;have oc1:=O.c1;have ohi:dg u1 (j + m + 2)=dg u (j + m + 2):=O.hi _ (by omega);have ov:=O.v
 rw[zc3 (za7 _),hvl,show j + (m + 2)=j + m + 2 by omega] at ov;have gu1:A1 u1 (j + m + 2)=some (dg u (j + m + 2)):=by unfold A1; rw[As (by omega),ohi]
 have w4:=Aj (n:=dg u (j + m + 2)-c) (by omega) (by omega);have w5:=Aj (n:=(j:Int)-1) (by omega) (by omega);have hset:val (u1.set (j + m + 2) (dg u (j + m + 2)-c))=val u-B j*(q*val v):=by
  rw[Ga (As (show j + m + 2<u1.length by omega)),ohi,show dg u (j + m + 2)-c-dg u (j + m + 2) = -c by omega,Int.mul_neg];omega
 have hsl:(u1.set (j + m + 2) (dg u (j + m + 2)-c)).length=u.length:=by rw[List.length_set]; exact ol
 have hsg:∀ i,i<j + m + 2->0<=dg (u1.set (j + m + 2) (dg u (j + m + 2)-c)) i/\dg (u1.set (j + m + 2) (dg u (j + m + 2)-c)) i<65536:=fun i hi=>by rw[Ce (by omega)]; exact Bi O.lb i
 have hsh:∀ i,j + m + 2<i->dg (u1.set (j + m + 2) (dg u (j + m + 2)-c)) i=dg u i:=fun i hi=>by rw[Ce (by omega)]; exact O.hi i (by omega)
 have hsd:dg (u1.set (j + m + 2) (dg u (j + m + 2)-c)) (j + m + 2)=dg u (j + m + 2)-c:=by rw[A2S (by omega),if_pos rfl]
 have gs:A1 (u1.set (j + m + 2) (dg u (j + m + 2)-c)) (j + m + 2)=some (dg u (j + m + 2)-c):=by unfold A1; rw[As (by omega),hsd]
 have gout:A1 out j=some (dg out j):=As hj;have gu0:A1 u (j + m + 2)=some (dg u (j + m + 2)):=As (by omega);have gu00:A1 u (j + m + 1)=some (dg u (j + m + 1)):=As (by omega);have gv0:A1 v (m + 1)=some (dg v (m + 1)):=As (by omega);rcases H.one hg2 hg4 with hq | hq
 ·obtain ⟨f1,f2,f3⟩:=H.done hsl hsg hsh hset (by rw[hq]; exact hmod);rw[hsd] at f1;rw[f1] at hset hsl hsg hsh hsd gs w4 f2 f3;refine ⟨_,?_,hsl,f2,by rw[hset,hq],f3⟩
  unfold C7;rw[hge];simp only[cond_true,cond_false,za0,hk u rfl,gu0,hk1,gu00,hk2,gv0,hz,w1,w2,zc7 htop0,zc6 htop0,w3];rw[hg1];simp only[za0];rw[ht1];simp only[za0,hk u1 ol,gu1,f1,w4,hk _ hsl,gs,show decide ((0:Int)<0)=false from rfl,cond_false,hj0 out rfl,gout,w5,hq]
 ·obtain ⟨f1,X,f2,f3,f4⟩:=H.after hsl hsg hsh hset;rw[hsd] at f4;have hneg:dg u (j + m + 2)-c = -1:=by
   have hlt:=H.lt;have hqv:q*val v=val (u.drop j)/val v*val v + val v:=by rw[hq,Int.add_mul,Int.one_mul]
   have:=Sa (j:=m + 2) (a:=val (u.drop j)-q*val v + B (m + 2)) (b:=X) (X:=-1) (Y:=dg u (j + m + 2)-c) (by omega) (by omega) (by rw[f4,Int.mul_neg,Int.mul_one]; omega);exact this.symm
  rw[hneg] at hset hsl hsg hsh hsd gs w4;obtain ⟨u3,c3,hb1,K⟩:=Be2 (out:=out) (by_:=by_) (n:=((m + 2:Nat):Int)) (q:=val (u.drop j)/val v) (u0:=u1.set (j + m + 2) (-1)) (v:=v) (j:=j) (by rw[hvl]; exact hsg) H.lv (by rw[hvl]) (by omega) (by omega);have kl:u3.length=u.length:=K.len.trans hsl;have kc0:=K.c0;have kc1:=K.c1;have khi:dg u3 (j + m + 2) = -1:=by rw[K.hi _ (by omega),hsd]
  have kv:=K.v;rw[zc3 (za7 _),hvl,show j + (m + 2)=j + m + 2 by omega,hset] at kv;have hset':val (u3.set (j + m + 2) (-1 + c3))=val u-B j*(val (u.drop j)/val v*val v):=by
   rw[Ga (As (show j + m + 2<u3.length by omega)),khi,show -1 + c3 - -1=c3 by omega];have:B j*(q*val v)=B j*(val (u.drop j)/val v*val v) + B j*val v:=by rw[hq,Int.add_mul,Int.one_mul,ze0]
   omega
  obtain ⟨f1,f2,f3⟩:=H.done (u4:=u3.set (j + m + 2) (-1 + c3)) (by rw[List.length_set]; exact kl) (fun i hi=>by rw[Ce (by omega)]; exact K.lb i (by omega)) (fun i hi=>by rw[Ce (by omega),K.hi i (by omega)]; exact hsh i hi) hset' hmod;refine ⟨_,?_,by rw[List.length_set]; exact kl,f2,hset',f3⟩
  have gu3:A1 u3 (j + m + 2)=some (-1):=by unfold A1; rw[As (by omega),khi]
  have w6:=Aj (n:=-1 + c3) (by omega) (by omega);have w7:IntKind.wrap .i64 (q-1)=val (u.drop j)/val v:=by rw[Aj (by omega) (by omega)]; omega
  unfold C7;rw[hge];simp only[cond_true,cond_false,za0,hk u rfl,gu0,hk1,gu00,hk2,gv0,hz,w1,w2,zc7 htop0,zc6 htop0,w3];rw[hg1];simp only[za0];rw[ht1];simp only[za0,hk u1 ol,gu1,hneg,w4,hk _ hsl,gs,show decide ((-1:Int)<0)=true from rfl,cond_true,w7];rw[hb1];simp only[za0,hk u3 kl,gu3,hj0 out rfl,gout,w5,w6]
end
section
open Go
structure Places (u0 v:List Int) (m n:Nat) (u out:List Int):Prop where
 len:u.length=u0.length
 lu:LB u
 le:n + (m + 2)<=u0.length
 less:val (u.drop n)<val v
 lo:LB out
 olen:out.length + (m + 2)=u0.length
 zero:∀ i,i<n->dg out i=0
 v:val u + val v*val out=val u0
theorem Places.place {u0 v u out:List Int} {m n:Nat} (h:Places u0 v m (n + 1) u out) (hv:LB v) (hvl:v.length=m + 2) (ht : 1<=dg v (m + 1)):Place u v n m :=
 ⟨h.lu,hv,hvl,ht,by have:=h.le; have:=h.len; omega,h.less⟩
theorem Places.next {u0 v u out u':List Int} {m n:Nat} (h:Places u0 v m (n + 1) u out) (H:Place u v n m) (h1:u'.length=u.length) (h2:LB u') (h3:val u'=val u-B n*(val (u.drop n)/val v*val v)) (h4:val (u'.drop n)<val v) :
  Places u0 v m n u' (out.set n (val (u.drop n)/val v)):=by
 have hle:=h.le;have hol:=h.olen;refine ⟨h1.trans h.len,h2,by omega,h4,h.lo.set H.quot,by rw[List.length_set]; exact hol,fun i hi=>by rw[Ce (by omega)]; exact h.zero i (by omega),?_⟩
 have hz:=h.zero n (by omega);rw[Ga (As (show n<out.length by omega)),hz,h3,Int.sub_zero,ze0];have:=h.v;have e:val v*(B n*(val (u.drop n)/val v))=B n*(val (u.drop n)/val v*val v):=by grind
 omega
theorem A6b {u0 v:List Int} {m:Nat} {by_:Int} (hv:LB v) (hvl:v.length=m + 2) (ht : 1<=dg v (m + 1)) (hl:u0.length<=1000000) {n:Nat} {out:List Int} (h:Places u0 v m n u0 out) :
  ∃ u out',Ah (fun (s:((List Int)×((List Int)×((List Int)×(Int×(Int×Int))))))=>C7 s.1 s.2.1 s.2.2.1 s.2.2.2.1 s.2.2.2.2.1 s.2.2.2.2.2) (u0,(v,(out,(((m + 2:Nat):Int),(by_,(n:Int)-1)))))=some (u,(out',(((m + 2:Nat):Int),by_)))/\Places u0 v m 0 u out':=by
 obtain ⟨⟨u,out'⟩,h1,h2⟩:=MB (body:=fun (s:((List Int)×((List Int)×((List Int)×(Int×(Int×Int))))))=>C7 s.1 s.2.1 s.2.2.1 s.2.2.2.1 s.2.2.2.2.1 s.2.2.2.2.2)
  (st:=fun n (b:List Int×List Int)=>(b.1,(v,(b.2,(((m + 2:Nat):Int),(by_,(n:Int)-1)))))) (fin:=fun b=>(b.1,(b.2,(((m + 2:Nat):Int),by_)))) (I:=fun n b=>Places u0 v m n b.1 b.2)
  (by
   rintro n ⟨u,out⟩ hI;simp only at hI;have H:=hI.place hv hvl ht;have hle:=hI.le;have hol:=hI.olen;have hul:=hI.len;obtain ⟨u',g1,g2,g3,g4,g5⟩:=A9i (out:=out) (by_:=by_) H (by omega) (by omega);refine ⟨(u',out.set n (val (u.drop n)/val v)),?_,hI.next H g2 g3 g4 g5⟩
   simp only;rw[show ((n + 1:Nat):Int)-1=(n:Int) by omega,g1])
  (by
   rintro ⟨u,out⟩ _;unfold C7
   dsimp only
   rw[decide_eq_false (by omega)];rfl) n (u0,out) h
 exact ⟨u,out',h1,h2⟩
theorem Places.start {u0 v:List Int} {m n:Nat} (hu:LB u0) (hv:LB v) (hvl:v.length=m + 2) (ht : 1<=dg v (m + 1)) (hn:u0.length=n + (m + 2)) (h0:dg u0 (n + (m + 1))=0):Places u0 v m n u0 (List.replicate n 0):=by
 refine ⟨rfl,hu,by omega,?_,LB.zeros n,by simp; omega,fun i hi=>by unfold dg; rw[zb6,List.getElem?_replicate]; split <;> rfl,by rw[FG]; omega⟩
 have h1:=Cd (u0.drop n) (m + 1);have h2:=CW (hu.drop n) (m + 1);rw[List.drop_drop,CK u0 (n + (m + 1)),h0,zd1 (show u0.length<=n + (m + 1) + 1 by omega)] at h1;simp only[val] at h1;have h3:=Cd v (m + 1);have h4:=AX (hv.take (m + 1));have h5:=CK v (m + 1);have h6:=AX (hv.drop (m + 1 + 1));have h7:=zb2 (show 1<=val (v.drop (m + 1)) by omega) (ze3 (GM (m + 1)));omega
theorem Places.end {u0 v u out:List Int} {m:Nat} (h:Places u0 v m 0 u out) (hv:LB v):val out=val u0/val v/\val u=val u0%val v:=by
 have h1:=h.less;rw[ze7] at h1;exact Wh (by rw[Int.mul_comm]; have:=h.v; omega) (AX h.lu) h1
theorem YY {n:Nat} (h:n≠0) : 1<=dg (lim n) ((lim n).length-1)/\dg (lim n) ((lim n).length-1)<65536/\B ((lim n).length-1)*dg (lim n) ((lim n).length-1)<=n/\(n:Int)<B ((lim n).length-1)*(dg (lim n) ((lim n).length-1) + 1):=by
 have hne:(lim n).length≠0:=fun hh=>h (Jt.1 (zb7 hh))
 have h1:=Cd (lim n) ((lim n).length-1);have h2:=CW (AN n) ((lim n).length-1);rw[CK,zd1 (show (lim n).length<=(lim n).length-1 + 1 by omega),AE] at h1;simp only[val,Int.mul_zero,Int.add_zero] at h1;have h3:=Bi (AN n) ((lim n).length-1);refine ⟨?_,h3.2,by omega,by rw[ze0]; omega⟩
 rcases Int.lt_or_le 0 (dg (lim n) ((lim n).length-1)) with g | g
 ·omega
 ·exfalso
  have g0:dg (lim n) ((lim n).length-1)=0:=by omega
  refine Vl n _ (List.getLast?_eq_getElem? .. ▸ As (show (lim n).length-1<(lim n).length by omega)) g0
end
section
open Go
theorem M0 {l:List Int} {n:Int} {i:Nat} (hn:n=(i:Int)) (h:i<l.length):AQ l n=some (dg l i):=by rw[hn,Ao]; exact As h
theorem A4I {n m:Int} {a b k:Nat} (hn:n=(a:Int)) (hm:m=(b:Int)) (h1:a<=b) (h2:b<=k):LL n m k=some (a,b):=by
 subst hn hm; unfold LL; simp[h1,h2]
theorem A3y {b:Nat} (h:(lim b).length=1):(lim b) = [(b:Int)]/\b<65536/\b≠0:=by
 match hl:lim b with
 | []=>rw[hl] at h; simp at h
 | [x] =>
  have hv:=AE b;have hb:=AN b;rw[hl] at hv hb;have h0:=hb.head;simp only[val] at hv;have:b≠0:=fun h0=>by rw[h0,Cr] at hl; simp at hl
  exact ⟨by congr 1; omega,by omega,this⟩
 | x::y::l=>rw[hl] at h; simp at h
theorem ZT {a b c:Nat} (hc : 0<c):a*c/(b*c)=a/b/\a*c%(b*c)=a%b*c:=⟨Nat.mul_div_mul_right _ _ hc,Nat.mul_mod_mul_right _ _ _⟩
theorem Bg3 {t by_:Int} (h1 : 1<=t) (h2:t<65536) (hb:by_=65536/(t + 1)) : 1<=by_/\by_<=32768/\by_*(t + 1)<=65536:=by
 have e1:=Int.emod_add_mul_ediv 65536 (t + 1);have e2:=Int.emod_nonneg 65536 (show t + 1≠0 by omega);have e3:=Int.emod_lt_of_pos 65536 (show 0<t + 1 by omega);rw[<-hb] at e1;have e4 : 1<=by_:=by
  rw[hb];exact (Int.le_ediv_iff_mul_le (by omega)).2 (by omega)
 have e5:by_*2<=by_*(t + 1):=zb2 (by omega) (by omega);rw[Int.mul_comm] at e1;exact ⟨e4,by omega,by omega⟩
set_option maxHeartbeats 1000000 in
theorem Ac7 {a b:Nat} (hb0:b≠0) (ha:(lim a).length<=90000) (hb:(lim b).length<=90000):FH (lim a) (lim b)=some (lim (a/b),lim (a%b)):=by
 unfold FH;rw[Hn (by unfold AH; omega) (by unfold AH; omega)];simp only[za0];by_cases hab:a<b
 ·rw[Ea (by omega)];simp only[show decide ((-1:Int)<0)=true from rfl,cond_true];rw[Nat.div_eq_of_lt hab,Nat.mod_eq_of_lt hab,Cr]
 have hc:decide (CZ (a:Int) b<0)=false:=by
  rcases B9 (a:Int) b with ⟨h,g⟩ | ⟨h,_⟩ | ⟨h,_⟩
  ·omega
  ·rw[h]; rfl
  ·rw[h]; rfl
 simp only[hc,cond_false];have hbl:(lim b).length≠0:=fun h=>hb0 (Jt.1 (zb7 h))
 by_cases h1:(lim b).length=1
 ·obtain ⟨e1,e2,e3⟩:=A3y h1;rw[e1];simp only[List.length_singleton,show (((1:Nat):Int)==1)=true from rfl,cond_true];rw[show AQ [(b:Int)] 0=some (b:Int) from rfl];simp only[za0];rw[Ad4 (by omega) (by omega)];simp only[za0,zc4];rw[Au2 (by unfold AH; simp)];have hm:=Nat.mod_lt a (show b>0 by omega);simp only[za0,Cy (LB.cons (show (0:Int)<=((a%b:Nat):Int)/\((a%b:Nat):Int)<65536 by omega) LB.nil),val]
  congr 3
 have hn1:((((lim b).length:Nat):Int)==1)=false:=beq_eq_false_iff_ne.2 (by omega);obtain ⟨m,hm⟩:∃ m,(lim b).length=m + 2:=⟨(lim b).length-2,by omega⟩;obtain ⟨t1,t2,t3,t4⟩:=YY hb0;rw[hm,show m + 2-1=m + 1 by omega] at t1 t2 t3 t4;have hg:=M0 (l:=lim b) (n:=IntKind.wrap .i64 (((lim b).length:Int)-1)) (i:=m + 1) (by rw[Aj (by omega) (by omega)]; omega) (by omega);generalize ht:dg (lim b) (m + 1)=t at *
 have wt:IntKind.wrap .i64 (t + 1)=t + 1:=Aj (by omega) (by omega);have hz:(t + 1==0)=false:=beq_eq_false_iff_ne.2 (by omega);obtain ⟨s1,s2,s3⟩:=Bg3 t1 t2 rfl;have hby:IntKind.wrap .i64 (Int.tdiv 65536 (t + 1))=65536/(t + 1):=by rw[zc7 (by omega)]; exact Aj (by omega) (by omega)
 generalize hby2 : 65536/(t + 1)=by_ at *
 obtain ⟨c,rfl⟩:∃ c:Nat,by_=(c:Int):=⟨by_.toNat,by omega⟩;have hb40:(lim a).length<=90000:=ha;have hBa:(a:Int)<B (lim a).length:=Aw.1 (za7 _);have hBb:(b:Int)<B (lim b).length:=Aw.1 (za7 _);have hB1:B 1=65536:=rfl;have fitc:∀ k,1<=k->(((c:Int)).natAbs:Int)<B k:=fun k hk=>by
  have:=Kf hk;omega
 have hk1 : 1<=(lim a).length:=by
  rcases Nat.eq_zero_or_pos (lim a).length with h | h
  ·have:=Jt.1 (zb7 h); omega
  ·exact h
 obtain ⟨ra,hra,era⟩:=DW (x:=(a:Int)) (y:=(c:Int)) (k:=(lim a).length) (by omega) (by rw[Int.natAbs_natCast]; exact hBa) (fitc _ hk1);obtain ⟨rb,hrb,erb⟩:=DW (x:=(b:Int)) (y:=(c:Int)) (k:=(lim b).length) (by omega) (by rw[Int.natAbs_natCast]; exact hBb) (fitc _ (by omega));have bn:∀ n:Nat,big (n:Int)=(false,lim n):=fun n=>by unfold big; rw[decide_eq_false (by omega),Int.natAbs_natCast]
 have ra1:ra.1=lim (a*c):=by rw[show (a:Int)*c=((a*c:Nat):Int) by simp,bn] at era; exact (Prod.ext_iff.1 era).2
 have rb1:rb.1=lim (b*c):=by rw[show (b:Int)*c=((b*c:Nat):Int) by simp,bn] at erb; exact (Prod.ext_iff.1 erb).2
 rw[bn,bn] at hra hrb;have mkb:∀ n:Nat,(lim n).length<=90000->Bj false (lim n)=some (lim n,false):=fun n hn=>by
  rw[Iw (AN n) (by unfold AH; omega),AE]; simp
 simp only[hn1,cond_false,hg,za0,wt,hz,hby,mkb a ha,mkb b hb,Y3 (n:=(c:Int)) (by omega) (by omega),bn,hra,hrb,ra1,rb1];have hc0 : 0<c:=by omega
 have la:(lim a).length<=(lim (a*c)).length:=by
  rw[Aw];have h1:((a*c:Nat):Int)<B (lim (a*c)).length:=Aw.1 (za7 _);have:a*1<=a*c:=Nat.mul_le_mul_left _ (by omega);omega
 have la2:(lim (a*c)).length<=(lim a).length + 1:=by
  rw[Aw];rw[show ((a*c:Nat):Int)=(a:Int)*c by simp];have e1:(a:Int)*c<=a*65536:=zb2 (by omega) (by omega);simp only[B];omega
 have lb:(lim (b*c)).length=m + 2:=by
  apply Nat.le_antisymm
  ·rw[Aw];rw[show ((b*c:Nat):Int)=(b:Int)*c by simp];have e1:(b:Int)*c<B (m + 1)*(t + 1)*c:=Int.mul_lt_mul_of_pos_right t4 (by omega);have e2:B (m + 1)*((c:Int)*(t + 1))<=B (m + 1)*65536:=zb2 s3 (ze3 (GM _));have e3:B (m + 1)*(t + 1)*c=B (m + 1)*((c:Int)*(t + 1)):=by rw[Int.mul_assoc,Int.mul_comm (t + 1)]
   have e4:B (m + 2)=B (m + 1)*65536:=by simp only[B]; omega
   omega
  ·rw[<-hm,Aw];have h1:((b*c:Nat):Int)<B (lim (b*c)).length:=Aw.1 (za7 _);have:b*1<=b*c:=Nat.mul_le_mul_left _ (by omega);omega
 have happ:De 8 1 (lim (a*c)) [0]=some (lim (a*c) ++ [0]):=AQ0 (by omega);have hle:(lim b).length<=(lim a).length:=by
  rw[Aw]; omega
 simp only[happ,za0];rw[Aq (r:=(lim (a*c) ++ [0],(lim (b*c),(((lim b).length:Int),(c:Int))))) (by
  unfold OF
  dsimp only
  rw[Aj (by omega) (by omega),decide_eq_false (by simp; omega)];rfl)]
 simp only[za0];have hlu:(lim (a*c) ++ [(0:Int)]).length=((lim (a*c)).length-(m + 1)) + (m + 2):=by simp; omega
 have wl:IntKind.wrap .i64 (((lim (a*c) ++ [(0:Int)]).length:Int)-((lim b).length:Int))=(((lim (a*c)).length-(m + 1):Nat):Int):=by
  rw[Aj (by omega) (by omega)]; omega
 generalize hn:(lim (a*c)).length-(m + 1)=n at *
 rw[wl,IC (by unfold Ag; omega) (by unfold Ag; omega)];simp only[za0];have hval0:val (lim (a*c) ++ [(0:Int)])=((a*c:Nat):Int):=by rw[MH,AE]; omega
 have hlb0:LB (lim (a*c) ++ [(0:Int)]):=(AN _).append (LB.cons (by omega) LB.nil);have hbc0:b*c≠0:=Nat.mul_ne_zero hb0 (by omega);have htop:=(YY hbc0).1;rw[lb,show m + 2-1=m + 1 by omega] at htop;obtain ⟨u,out,hp,P⟩:=A6b (by_:=(c:Int)) (AN (b*c)) lb htop (by omega) (Places.start hlb0 (AN _) lb htop hlu (by
  unfold dg;rw[zb6,List.getElem?_append_right (by omega),show n + (m + 1)-(lim (a*c)).length=0 by omega];rfl))
 rw[show ((lim b).length:Int)=((m + 2:Nat):Int) by omega,Aj (by omega) (by omega),hp];simp only[za0];obtain ⟨p1,p2⟩:=P.end (AN _);rw[hval0,AE] at p1 p2;obtain ⟨q1,q2⟩:=ZT (a:=a) (b:=b) hc0;have p1':val out=((a/b:Nat):Int):=by rw[p1,<-q1]; simp
 have p2':val u=((a%b*c:Nat):Int):=by rw[p2,<-q2]; simp
 have hul:=P.len;have hol:=P.olen;rw[A4I (a:=0) (b:=m + 2) (by rfl) rfl (by omega) (by omega)];simp only[za0,ze7,Nat.sub_zero,ze4];have hless:=P.less;rw[ze7,AE] at hless;have hbc:((b*c:Nat):Int)<B (m + 2):=by rw[<-lb]; exact Aw.1 (za7 _)
 have hvt:val (u.take (m + 2))=val u:=by
  have h1:=Cd u (m + 2);have h2:=(A3c P.lu (n:=m + 2) (k:=m + 2) (by omega) (za7 _)).2;rw[h2] at h1;omega
 rw[Au2 (by unfold AH; rw[List.length_take]; omega)];simp only[za0];rw[Cy (P.lu.take _),hvt,p2',zc4,Ad4 (by omega) (by
  have:(lim (a%b*c)).length<=m + 2:=by
   rw[Aw];have:=Nat.mul_lt_mul_of_pos_right (Nat.mod_lt a (show b>0 by omega)) hc0;omega
  omega)]
 simp only[za0];rw[Au2 (by unfold AH; omega)];simp only[za0];rw[Cy P.lo,p1',zc4,zc4,Nat.mul_div_cancel _ hc0]
end
section
open Go
theorem AO9 (v:List Int) (k:Nat):dg (v ++ [0]) k=dg v k:=by
 unfold dg;simp only[zb6];rcases zd9 k v.length with h | h
 ·rw[List.getElem?_append_left h]
 ·rw[List.getElem?_append_right h,ze1 h];rcases Nat.eq_zero_or_pos (k-v.length) with g | g
  ·rw[g]; rfl
  ·rw[ze1 (by simp; omega)]
theorem AA8 (v:List Int):val (v ++ [0])=val v:=by rw[MH]; omega
theorem AX1 {v:List Int} (h:LB v):LB (v ++ [0]):=h.append (LB.cons (by omega) LB.nil)
theorem Bf1 {u0 v:List Int} {q:Int} {j:Nat} (hu:LB u0) (hv:LB v) (hq : 0<=q/\q<65536) (hlen:j + v.length<u0.length) (hl:u0.length<=1000000) :
  ∃ u c,J6 u0 v (j:Int) q=some (u,c)/\Off u0 u j (v.length + 1) c q (v ++ [0]):=by
 obtain ⟨⟨u,c⟩,h1,h2⟩:=EM (body:=fun (s:((List Int)×((List Int)×(Int×(Int×(Int×Int))))))=>Jk s.1 s.2.1 s.2.2.1 s.2.2.2.1 s.2.2.2.2.1 s.2.2.2.2.2)
  (st:=fun k (b:List Int×Int)=>(b.1,(v,((j:Int),(q,(b.2,(k:Int))))))) (fin:=fun b=>(b.1,b.2)) (I:=fun k b=>Off u0 b.1 j k b.2 q (v ++ [0])) (e:=v.length + 1)
  (by
   rintro k ⟨u,c⟩ hk hI;simp only at hI;have hul:=hI.len;have hp:j + k<u.length:=by omega
   have du:=Bi hI.lb (j + k);have dv:=Bi hv k;have c0:=hI.c0;have c1:=hI.c1;have m0 : 0<=q*dg v k:=ze8 hq.1 dv.1;have m1:q*dg v k<=65535*65535:=Int.le_trans (zb2 (show dg v k<=65535 by omega) hq.1) (za9 (show q<=65535 by omega) (by omega));have hnx:=hI.next (AX1 hv) hq hp rfl;rw[AO9] at hnx;refine ⟨(u.set (j + k) (dg u (j + k)-q*dg v k-c + (if dg u (j + k)-q*dg v k-c<0 then (-(dg u (j + k)-q*dg v k-c) + 65536-1)/65536 else 0)*65536),if dg u (j + k)-q*dg v k-c<0 then (-(dg u (j + k)-q*dg v k-c) + 65536-1)/65536 else 0),?_,hnx⟩
   unfold Jk A1
   dsimp only
   have i1:A8 ((j:Int) + (k:Int)) u.length=some (j + k):=by rw[show (j:Int) + (k:Int)=((j + k:Nat):Int) by omega]; exact A5 hp
   have hw1:=AR (show k<4611686018427387904 by omega);have hjk:=Aj (n:=(j:Int) + (k:Int)) (by omega) (by omega);rw[decide_eq_true (by omega),hjk];simp only[cond_true,i1,za0,As hp,MJ];rw[Aj (n:=q*dg v k) (by omega) (by omega),Aj (n:=dg u (j + k)-q*dg v k) (by omega) (by omega),Aj (n:=dg u (j + k)-q*dg v k-c) (by omega) (by omega)];have hxb : -4294967296<=dg u (j + k)-q*dg v k-c/\dg u (j + k)-q*dg v k-c<65536:=by omega
   generalize dg u (j + k)-q*dg v k-c=x at *
   by_cases hx:x<0
   ·rw[decide_eq_true hx,if_pos hx,Aj (n:=0-x) (by omega) (by omega),Aj (n:=0-x + 65536) (by omega) (by omega),Aj (n:=0-x + 65536-1) (by omega) (by omega),zc7 (by omega),show 0-x + 65536-1 = -x + 65536-1 by omega];rw[Aj (n:=(-x + 65536-1)/65536) (by omega) (by omega),Aj (n:=(-x + 65536-1)/65536*65536) (by omega) (by omega),Aj (n:=x + (-x + 65536-1)/65536*65536) (by omega) (by omega)];simp only[cond_true,za0,za8,hjk,i1,As hp,hw1]
   ·rw[decide_eq_false hx,if_neg hx];simp only[cond_false,za0,za8,hjk,i1,As hp,hw1,Int.zero_mul,Int.add_zero])
  (by
   rintro ⟨u,c⟩ _;unfold Jk
   dsimp only
   rw[decide_eq_false (by omega)];rfl) 0 (u0,0) (by omega) (Off.start hu j q (v ++ [0]))
 refine ⟨u,c,?_,h2⟩
 unfold J6
 dsimp only at h1
 rw[show ((0:Nat):Int)=0 from rfl] at h1;rw[h1];rfl
theorem Bc8 {u0 v:List Int} {j:Nat} (hu:LB u0) (hv:LB v) (hlen:j + v.length<u0.length) (hl:u0.length<=1000000) :
  ∃ u c,J0 u0 v (j:Int)=some u/\Back u0 u j (v.length + 1) c (v ++ [0]):=by
 obtain ⟨⟨u,c⟩,h1,h2⟩:=EM (body:=fun (s:((List Int)×((List Int)×(Int×(Int×Int)))))=>Ju s.1 s.2.1 s.2.2.1 s.2.2.2.1 s.2.2.2.2)
  (st:=fun k (b:List Int×Int)=>(b.1,(v,((j:Int),(b.2,(k:Int)))))) (fin:=fun b=>b.1) (I:=fun k b=>Back u0 b.1 j k b.2 (v ++ [0])) (e:=v.length + 1)
  (by
   rintro k ⟨u,c⟩ hk hI;simp only at hI;have hul:=hI.len;have hp:j + k<u.length:=by omega
   have du:=hI.lb (j + k) (by simp; omega);have dv:=Bi hv k;have c0:=hI.c0;have c1:=hI.c1;have hnx:=hI.next (AX1 hv) (by simp; omega) hp;rw[AO9] at hnx;refine ⟨⟨_,_⟩,?_,hnx⟩
   unfold Ju A1
   dsimp only
   have i1:A8 ((j:Int) + (k:Int)) u.length=some (j + k):=by rw[show (j:Int) + (k:Int)=((j + k:Nat):Int) by omega]; exact A5 hp
   have hw1:=AR (show k<4611686018427387904 by omega);have hjk:=Aj (n:=(j:Int) + (k:Int)) (by omega) (by omega);rw[decide_eq_true (by omega),hjk];simp only[cond_true,i1,za0,As hp,MJ];rw[Aj (n:=dg u (j + k) + dg v k) (by omega) (by omega),Aj (n:=dg u (j + k) + dg v k + c) (by omega) (by omega),zc6 (by omega),zc7 (by omega),Aj (n:=(dg u (j + k) + dg v k + c)/65536) (by omega) (by omega),hw1])
  (by
   rintro ⟨u,c⟩ _;unfold Ju
   dsimp only
   rw[decide_eq_false (by omega)];rfl) 0 (u0,0) (by omega) ⟨rfl,fun i _=>Bi hu i,fun _ _=>rfl,by simp only; omega,by simp only; omega,by simp[val]⟩
 refine ⟨u,c,?_,h2⟩
 unfold J0
 dsimp only at h1
 rw[show ((0:Nat):Int)=0 from rfl] at h1;rw[h1];rfl
theorem A8C {u v:List Int} {j m:Nat} (H:Place u v j m) (hl:u.length<=1000000) :
  ∃ q,IU u v (j:Int)=some q/\val (u.drop j)/val v<=q/\q<65536/\q*val v<val (u.drop j) + val v:=by
 have G:=H.guess;have hv:=H.hv;have hlen:=H.len;have hrest:=H.rest;have hst:=H.start;have d1:=Bi H.lu (j + m + 1);have d2:=Bi H.lu (j + m + 2);have hu:j + m<u.length:=by omega
 have htop65:dg u (j + m + 2)*65536 + dg u (j + m + 1)<65536*(dg v (m + 1) + 1):=by
  have hP:=G.hP;have hU:=G.hU;have hV:=G.hV;have hv2:=G.hv2;have hvr:=G.hvr;have hu2:=G.hu2;have hur:=G.hur;rcases Int.lt_or_le (dg u (j + m + 2)*65536 + dg u (j + m + 1)) (65536*(dg v (m + 1) + 1)) with h | h
  ·exact h
  ·exfalso
   generalize dg u (j + m + 2)*65536 + dg u (j + m + 1)=top at *
   generalize dg v (m + 1)=v1 at *
   generalize dg v m=v2 at *
   generalize dg u (j + m)=u2 at *
   generalize val (v.take m)=vr at *
   generalize val ((u.drop j).take m)=ur at *
   have e1:=za9 (show 65536*(v1 + 1)*65536<=top*65536 + u2 by omega) (ze3 hP);have e2:=za9 (show v1*65536 + v2 + 1<=(v1 + 1)*65536 by omega) (ze3 hP);rw[Int.add_mul,Int.one_mul] at e2;have e3 : 65536*(v1 + 1)*65536*B m=65536*((v1 + 1)*65536*B m):=by grind
   omega
 have hv1:=G.hv1;have hv1':=G.hv1';have htop0 : 0<=dg u (j + m + 2)*65536 + dg u (j + m + 1):=by omega
 have e1:=Int.emod_add_mul_ediv (dg u (j + m + 2)*65536 + dg u (j + m + 1)) (dg v (m + 1));have e2:=Int.emod_nonneg (dg u (j + m + 2)*65536 + dg u (j + m + 1)) (show dg v (m + 1)≠0 by omega);have e3:(dg u (j + m + 2)*65536 + dg u (j + m + 1))/dg v (m + 1)<=dg u (j + m + 2)*65536 + dg u (j + m + 1):=Int.ediv_le_self _ htop0;have e4:=Int.ediv_nonneg htop0 (show 0<=dg v (m + 1) by omega);have w1:=Aj (n:=dg u (j + m + 2)*65536) (by omega) (by omega);have w2:=Aj (n:=dg u (j + m + 2)*65536 + dg u (j + m + 1)) (by omega) (by omega)
 have w3:=Aj (n:=(dg u (j + m + 2)*65536 + dg u (j + m + 1))/dg v (m + 1)) (by omega) (by omega);have g1:AQ u (IntKind.wrap .i64 ((j:Int) + (v.length:Int)))=some (dg u (j + m + 2)):=M0 (by rw[Aj (by omega) (by omega)]; omega) (by omega);have g2:AQ u (IntKind.wrap .i64 (IntKind.wrap .i64 ((j:Int) + (v.length:Int))-1))=some (dg u (j + m + 1)):=M0 (by rw[Aj (n:=(j:Int) + (v.length:Int)) (by omega) (by omega),Aj (by omega) (by omega)]; omega) (by omega);have g3:AQ v (IntKind.wrap .i64 ((v.length:Int)-1))=some (dg v (m + 1)):=M0 (by rw[Aj (by omega) (by omega)]; omega) (by omega)
 have g4:AQ v (IntKind.wrap .i64 ((v.length:Int)-2))=some (dg v m):=M0 (by rw[Aj (by omega) (by omega)]; omega) (by omega);have g5:AQ u (IntKind.wrap .i64 (IntKind.wrap .i64 ((j:Int) + (v.length:Int))-2))=some (dg u (j + m)):=M0 (by rw[Aj (n:=(j:Int) + (v.length:Int)) (by omega) (by omega),Aj (by omega) (by omega)]; omega) (by omega);have hz:(dg v (m + 1)==0)=false:=beq_eq_false_iff_ne.2 (by omega);obtain ⟨r,h1,h2⟩:=Fq (f:=fun (s:((List Int)×((List Int)×(Int×(Int×(Int×Int))))))=>Ez s.1 s.2.1 s.2.2.1 s.2.2.2.1 s.2.2.2.2.1 s.2.2.2.2.2)
  (I:=fun s=>∃ q r:Int,s=(u,(v,((j:Int),((v.length:Int),(q,r)))))/\q*dg v (m + 1) + r=dg u (j + m + 2)*65536 + dg u (j + m + 1)/\0<=r/\val (u.drop j)/val v<=q/\q<4294967296)
  (R:=fun q=>val (u.drop j)/val v<=q/\q<65536/\q*val v<val (u.drop j) + val v) (fun s=>s.2.2.2.2.1.toNat) (by
   rintro s ⟨q,r,rfl,f1,f2,f3,f4⟩;simp only;have hQ0:=G.hQ0;have hQ1:=G.hQ1;have hv2:=G.hv2;have hu2:=G.hu2;have htop:=G.htop;have hqv : 0<=q*dg v (m + 1):=ze8 (by omega) (by omega);have hqv2 : 0<=q*dg v m:=ze8 (by omega) hv2.1;have hqv2':q*dg v m<=4294967296*65536:=Int.le_trans (zb2 (show dg v m<=65536 by omega) (by omega)) (za9 (show q<=4294967296 by omega) (by omega));have w5:=Aj (n:=q*dg v m) (by omega) (by omega);have w6:=Aj (n:=r*65536) (by omega) (by omega);have w7:=Aj (n:=r*65536 + dg u (j + m)) (by omega) (by omega);have w8:=Aj (n:=q-1) (by omega) (by omega)
   have w9:=Aj (n:=r + dg v (m + 1)) (by omega) (by omega);have less:∀ (hgo:val (u.drop j)/val v<=q-1),∃ q' r':Int,(u,(v,((j:Int),((v.length:Int),(q-1,r + dg v (m + 1))))))=(u,(v,((j:Int),((v.length:Int),(q',r')))))/\q'*dg v (m + 1) + r'=dg u (j + m + 2)*65536 + dg u (j + m + 1)/\0<=r'/\val (u.drop j)/val v<=q'/\q'<4294967296:=by
    intro hgo;exact ⟨q-1,r + dg v (m + 1),rfl,by rw[Int.sub_mul]; omega,by omega,hgo,by omega⟩
   by_cases c2:r<65536
   ·by_cases c1:q>=65536
    ·refine .inl ⟨(u,(v,((j:Int),((v.length:Int),(q-1,r + dg v (m + 1)))))),?_,less (by omega),by simp only; omega⟩
     unfold Ez;rw[decide_eq_true c2,decide_eq_true c1];simp only[cond_true,za0,Sum.elim_inl,za8,g3,w8,w9]
    ·by_cases c3:q*dg v m>r*65536 + dg u (j + m)
     ·have hlt:=Aj7 G.hP G.hv1 G.hv2 G.hvr G.hu2 G.hur G.hV G.hU f1 (by omega) c3;have hne:val (u.drop j)/val v<=q-1:=by
       rcases Int.lt_or_le (q-1) (val (u.drop j)/val v) with h | h
       ·have:q=val (u.drop j)/val v:=by omega
        have:=G.hQ;subst q;omega
       ·exact h
      refine .inl ⟨(u,(v,((j:Int),((v.length:Int),(q-1,r + dg v (m + 1)))))),?_,less hne,by simp only; omega⟩
      unfold Ez;rw[decide_eq_true c2,decide_eq_false c1];simp only[cond_true,cond_false,za0,g4,g5,w5,w6,w7,decide_eq_true c3,za8,g3,w8,w9]
     ·refine .inr ⟨q,?_,f3,by omega,Aw6 G.hP G.hv1 G.hv2 G.hvr G.hu2 G.hur G.hV G.hU f1 (by omega) (by omega) (by omega)⟩
      unfold Ez;rw[decide_eq_true c2,decide_eq_false c1];simp only[cond_true,cond_false,za0,g4,g5,w5,w6,w7,decide_eq_false c3,Sum.elim_inl]
   ·have hq65:q<65536:=by
     rcases Int.lt_or_le q 65536 with h | h
     ·exact h
     ·exfalso
      have:=za9 h (show 0<=dg v (m + 1) by omega);omega
    have hle:=ZF G.hP G.hv1 G.hv2 G.hvr G.hu2 G.hur G.hV G.hU f1 (by omega) hq65 (by omega);have hV0:=G.hV0;refine .inr ⟨q,?_,f3,hq65,by omega⟩
    unfold Ez;rw[decide_eq_false c2];rfl) (u,(v,((j:Int),((v.length:Int),((dg u (j + m + 2)*65536 + dg u (j + m + 1))/dg v (m + 1),(dg u (j + m + 2)*65536 + dg u (j + m + 1))%dg v (m + 1)))))) ⟨_,_,rfl,by rw[Int.mul_comm]; omega,e2,hst,by omega⟩
 refine ⟨r,?_,h2⟩
 unfold IU;simp only[g1,g2,g3,za0,hz,cond_false,w1,w2,zc7 htop0,zc6 htop0,w3];rw[h1];rfl
theorem Place.part {u v u':List Int} {j m:Nat} (H:Place u v j m) (h1:u'.length=u.length) (h2:LB u') (h3:∀ i,j + m + 3<=i->dg u' i=dg u i) {W e:Int} (h4:val u'=val u-B j*W + B (j + m + 3)*e) :
  val (u'.drop j)=val (u.drop j)-W + B (m + 3)*e/\0<=val (u'.drop j)/\val (u'.drop j)<B (m + 3):=by
 have hz:val (u'.drop (j + (m + 3)))=0:=Qu fun i=>by rw[YV,h3 _ (by omega)]; exact (H.high (by omega)).1
 have p1:=Cd (u'.drop j) (m + 3);rw[List.drop_drop,hz] at p1;have p2:=CW (h2.drop j) (m + 3);have p3:=Cd u' j;have p4:=Cd u j;have p5:=CW h2 j;have p6:=CW H.lu j;refine ⟨?_,by omega,by omega⟩
 refine Sa p5 p6 ?_
 have e1:B (j + m + 3)*e=B j*(B (m + 3)*e):=by rw[show j + m + 3=j + (m + 3) by omega,Tr]; grind
 rw[ze0,Int.mul_sub];omega
set_option maxHeartbeats 1000000 in
theorem A8X {u v out:List Int} {bits:Int} {j m:Nat} (H:Place u v j m) (hl:u.length<=1000000) (hj:j<out.length) :
  ∃ u',Cu u v out bits (j:Int)=some (.inl (u',(v,(out.set j (val (u.drop j)/val v),(bits,(j:Int)-1))))) /\
   u'.length=u.length/\LB u'/\val u'=val u-B j*(val (u.drop j)/val v*val v)/\val (u'.drop j)<val v:=by
 have hlen:=H.len;have hvl:=H.hv;have hQ:=H.quot;have hmod:=H.mod;have hlt:=H.lt;have hpos:=H.pos;have hB3:B (m + 3)=65536*B (m + 2):=rfl;obtain ⟨q,hg1,hg2,hg3,hg4⟩:=A8C H hl;obtain ⟨u1,c,ht1,O⟩:=Bf1 (j:=j) (q:=q) H.lu H.lv ⟨by omega,hg3⟩ (by omega) hl;have ov:=O.v;have ol:=O.len;have oc0:=O.c0;rw[zc3 (by simp),AA8,hvl,show j + (m + 2 + 1)=j + m + 3 by omega] at ov;have oh:=O.hi;rw[hvl,show j + (m + 2 + 1)=j + m + 3 by omega] at oh;obtain ⟨p1,p2,p3⟩:=H.part ol O.lb oh (W:=q*val v) (e:=c) (by omega);have hge:decide ((j:Int)>=0)=true:=decide_eq_true (by omega)
 have w5:=Aj (n:=(j:Int)-1) (by omega) (by omega);have hj0:A8 (j:Int) out.length=some j:=A5 hj;have gout:A1 out j=some (dg out j):=As hj;have hBp:=GM (m + 3);rcases H.one hg2 hg4 with hq | hq
 ·have hc:c=0:=by
   rw[hq] at p1;have:=Sa (j:=m + 3) (a:=val (u1.drop j)) (b:=val (u.drop j)-val (u.drop j)/val v*val v) (X:=0) (Y:=c) ⟨p2,p3⟩ (by omega) (by omega);exact this.symm
  subst hc;refine ⟨u1,?_,ol,O.lb,by rw[hq] at ov; omega,by rw[hq] at p1; omega⟩
  unfold Cu;simp only[hge,cond_true,hg1,ht1,za0,ol,decide_true,show decide ((0:Int)>0)=false from rfl,cond_false,hj0,gout,w5];rw[hq]
 ·have hqv:q*val v=val (u.drop j)/val v*val v + val v:=by rw[hq,Int.add_mul,Int.one_mul]
  have hc:c=1:=by
   have:=Sa (j:=m + 3) (a:=val (u1.drop j)) (b:=val (u.drop j)-q*val v + B (m + 3)) (X:=1) (Y:=c) ⟨p2,p3⟩ (by omega) (by omega);exact this.symm
  subst hc;obtain ⟨u2,c2,hb1,K⟩:=Bc8 (u0:=u1) (v:=v) (j:=j) O.lb H.lv (by omega) (by omega);have kl:=K.len;have kh:=K.hi;have kv:=K.v;rw[zc3 (by simp),AA8,hvl,show j + (m + 2 + 1)=j + m + 3 by omega] at kv;rw[hvl,show j + (m + 2 + 1)=j + m + 3 by omega] at kh;have klb:LB u2:=Ae7 fun i hi=>by
   rcases zd9 i (j + m + 3) with g | g
   ·exact K.lb i (by simp; omega)
   ·rw[kh i g]; exact Bi O.lb i
  have e1:B j*(q*val v)=B j*(val (u.drop j)/val v*val v) + B j*val v:=by rw[hqv,ze0]
  have hall:val u2=val u-B j*(val (u.drop j)/val v*val v) + B (j + m + 3)*(1-c2):=by
   rw[Int.mul_sub]; omega
  obtain ⟨k1,k2,k3⟩:=H.part (kl.trans ol) klb (fun i hi=>(kh i hi).trans (oh i hi)) hall;have hc2:c2=1:=by
   have:=Sa (j:=m + 3) (a:=val (u2.drop j)) (b:=val (u.drop j)-val (u.drop j)/val v*val v) (X:=0) (Y:=1-c2) ⟨k2,k3⟩ (by omega) (by omega);omega
  subst hc2;refine ⟨u2,?_,kl.trans ol,klb,by omega,by omega⟩
  have w7:IntKind.wrap .i64 (q-1)=val (u.drop j)/val v:=by rw[Aj (by omega) (by omega)]; omega
  unfold Cu;simp only[hge,cond_true,hg1,ht1,za0,ol,decide_true,show decide ((1:Int)>0)=true from rfl,hb1,kl,hj0,gout,w5,w7]
end
section
open Go
theorem A3L {s o t:Nat} (ho:o<2 ^ s) (h : 2 ^ s*t + o<4611686018427387904):orI .i64 (o:Int) ((2 ^ s*t:Nat):Int)=((o + 2 ^ s*t:Nat):Int):=by
 unfold orI;rw[BitVec.ofInt_natCast,BitVec.ofInt_natCast,BitVec.toNat_or,BitVec.toNat_ofNat,BitVec.toNat_ofNat];have h64:IntKind.bits .i64=64:=rfl;rw[h64,Nat.mod_eq_of_lt (by omega),Nat.mod_eq_of_lt (by omega),Nat.or_comm,<-Nat.two_pow_add_eq_or_of_lt ho,Aj (by omega) (by omega)];omega
theorem Zi {x:Int} {s:Nat} (hs:s<=63) (h0 : -9223372036854775808<=x*2 ^ s) (h1:x*2 ^ s<=9223372036854775807):WD .i64 x (IntKind.wrap .u64 (s:Int))=x*2 ^ s:=by
 unfold WD;rw[Ay4 (by omega) (by omega),show min ((s:Int).toNat) (IntKind.bits .i64)=s by simp[IntKind.bits]; omega,Aj h0 h1]
theorem A8j {x:Int} {s:Nat} (hs:s<=63):A6Q .i64 x (IntKind.wrap .u64 (s:Int))=x/2 ^ s:=by
 unfold A6Q;rw[Ay4 (by omega) (by omega),show min ((s:Int).toNat) (IntKind.bits .i64)=s by simp[IntKind.bits]; omega];exact Int.fdiv_eq_ediv_of_nonneg _ (ze3 (Int.pow_pos (by decide)))
theorem QY {s:Nat} (hs:s<=16):∃ S T:Nat,S=2 ^ s/\T=2 ^ (16-s)/\S*T=65536/\1<=S/\1<=T/\S<=65536:=by
 refine ⟨2 ^ s,2 ^ (16-s),rfl,rfl,?_,Nat.one_le_two_pow,Nat.one_le_two_pow,?_⟩
 ·rw[<-Nat.pow_add,show s + (16-s)=16 by omega]
 ·exact Nat.pow_le_pow_right (by decide) hs
theorem Ae3 {S T x:Int} (hST:S*T=65536) (hS : 1<=S) (hT : 1<=T) (hx : 0<=x/\x<65536) :
  x*S%65536=S*(x%T)/\x*S/65536=x/T/\0<=x/T/\x/T<S/\0<=x%T/\x%T<T/\S*(x%T) + 65536*(x/T)=x*S/\S*(x%T) + S<=65536:=by
 have e1:=Int.emod_add_mul_ediv x T;have e2:=Int.emod_nonneg x (show T≠0 by omega);have e3:=Int.emod_lt_of_pos x (show 0<T by omega);have e4:=Int.ediv_nonneg hx.1 (show 0<=T by omega);have e5:x/T<S:=Int.ediv_lt_of_lt_mul (by omega) (by rw[hST]; exact hx.2);have e6:x*S=S*(x%T) + 65536*(x/T):=by
  have h2:S*(x%T + T*(x/T))=S*(x%T) + (S*T)*(x/T):=by rw[ze0,Int.mul_assoc]
  rw[e1,hST] at h2;rw[<-h2,Int.mul_comm]
 have e7:S*(x%T) + S<=65536:=by
  have h2:=zb2 (show x%T + 1<=T by omega) (show 0<=S by omega);rw[ze0,hST] at h2;omega
 have e8 : 0<=S*(x%T):=ze8 (by omega) e2;rw[e6];refine ⟨?_,?_,e4,e5,e2,e3,rfl,e7⟩ <;> omega
theorem A2L {S T x y R:Int} (hST:S*T=65536) (hS : 1<=S) (hT : 1<=T) (hx : 0<=x/\x<65536):(x + 65536*(y + 65536*R))/S=(x + 65536*y)/S%65536 + 65536*((y + 65536*R)/S):=by
 have e1:x + 65536*(y + 65536*R)=(x + 65536*y) + S*(T*65536*R):=by
  have:S*(T*65536*R)=(S*T)*(65536*R):=by grind
  rw[this,hST]; omega
 have e2:(x + 65536*(y + 65536*R))/S=(x + 65536*y)/S + T*65536*R:=by rw[e1,Int.add_mul_ediv_left _ _ (by omega)]
 have e3:(x + 65536*(y + 65536*R))/S%65536=(x + 65536*y)/S%65536:=by
  rw[e2,show T*65536*R=65536*(T*R) by grind,Int.add_mul_emod_self_left]
 have e4:(x + 65536*(y + 65536*R))/S/65536=(y + 65536*R)/S:=by
  rw[Int.ediv_ediv_of_nonneg (by omega),Int.mul_comm S,<-Int.ediv_ediv_of_nonneg (by decide)]
  congr 1
  omega
 have e5:=Int.emod_add_mul_ediv ((x + 65536*(y + 65536*R))/S) 65536;rw[e3,e4] at e5;omega
structure Up (l out:List Int) (s i:Nat):Prop where
 lb:LB out
 len:out.length=l.length + 1
 c:dg out i<2 ^ s
 z:∀ k,i<k->dg out k=0
 v:val out=val (l.take i)*2 ^ s
theorem Up.next {l out:List Int} {s i:Nat} (h:Up l out s i) (hl:LB l) (hs:s<=15) (hi:i<l.length) :
  Up l ((out.set i (dg out i + dg l i*2 ^ s%65536)).set (i + 1) (dg l i*2 ^ s/65536)) s (i + 1):=by
 obtain ⟨S,T,eS,eT,hST,hS,hT,hS2⟩:=QY (show s<=16 by omega);have hSi:((S:Nat):Int)=2 ^ s:=by rw[eS]; simp
 have hc:=h.c;rw[<-hSi] at hc ⊢
 have hx:=Bi hl i;obtain ⟨d1,d2,d3,d4,d5,d6,d7,d8⟩:=Ae3 (S:=(S:Int)) (T:=(T:Int)) (by rw[<-Int.natCast_mul,hST]; rfl) (by omega) (by omega) hx;have ho:=Bi h.lb i;have hol:=h.len;have hv:=h.v;rw[<-hSi] at hv;have m0 : 0<=(S:Int)*(dg l i%T):=ze8 (by omega) d5;rw[d1,d2];have hz:=h.z (i + 1) (by omega);refine ⟨?_,by simp[hol],?_,fun k hk=>?_,?_⟩
 ·refine (h.lb.set ⟨by omega,by omega⟩).set ⟨d3,by omega⟩
 ·rw[A2S (by simp; omega),if_pos rfl,<-hSi]; exact d4
 ·rw[Ce (by omega),Ce (by omega)]; exact h.z k (by omega)
 ·rw[Ga (As (by simp; omega)),Ce (by omega),hz,Ga (As (show i<out.length by omega)),hv,A9,<-hSi];have e1:B (i + 1)*(dg l i/T-0)=B i*(65536*(dg l i/T)):=by simp only[B]; grind
  have e2:(val (l.take i) + B i*dg l i)*S=val (l.take i)*S + B i*(dg l i*S):=by grind
  rw[e1,e2,<-d7,ze0];have e3:B i*(dg out i + S*(dg l i%T)-dg out i)=B i*(S*(dg l i%T)):=by congr 1; omega
  omega
theorem A8o {l:List Int} {s:Nat} (hl:LB l) (hs:s<=15) (hn:l.length<=1000000):∃ out,Mp l (s:Int)=some out/\LB out/\out.length=l.length + 1/\val out=val l*2 ^ s:=by
 obtain ⟨out,h1,h2⟩:=EM (body:=fun (s:((List Int)×(Int×((List Int)×(Int×Int)))))=>NO s.1 s.2.1 s.2.2.1 s.2.2.2.1 s.2.2.2.2)
  (st:=fun k (b:List Int)=>(b,((s:Int),(l,((l.length:Int),(k:Int)))))) (fin:=fun b=>b) (I:=fun k b=>Up l b s k) (e:=l.length)
  (by
   rintro k out hk hI;refine ⟨_,?_,hI.next hl hs hk⟩
   obtain ⟨S,T,eS,eT,hST,hS,hT,hS2⟩:=QY (show s<=16 by omega);have hSi:((S:Nat):Int)=2 ^ s:=by rw[eS]; simp
   have hx:=Bi hl k;have ho:=Bi hI.lb k;have hol:=hI.len;have hc:=hI.c;rw[<-hSi] at hc ⊢
   obtain ⟨d1,d2,d3,d4,d5,d6,d7,d8⟩:=Ae3 (S:=(S:Int)) (T:=(T:Int)) (by rw[<-Int.natCast_mul,hST]; rfl) (by omega) (by omega) hx;have hxS : 0<=dg l k*(S:Int)/\dg l k*(S:Int)<=65536*65536:=⟨ze8 hx.1 (by omega),Int.le_trans (zb2 (show (S:Int)<=65536 by omega) hx.1) (za9 (by omega) (by decide))⟩;have hsh:WD .i64 (dg l k) (IntKind.wrap .u64 (s:Int))=dg l k*S:=by rw[hSi]; exact Zi (by omega) (by rw[<-hSi]; omega) (by rw[<-hSi]; omega)
   have hor:orI .i64 (dg out k) (dg l k*S%65536)=dg out k + dg l k*S%65536:=by
    obtain ⟨o,eo⟩:∃ o:Nat,dg out k=(o:Int):=⟨(dg out k).toNat,by omega⟩;obtain ⟨t,et⟩:∃ t:Nat,dg l k%T=(t:Int):=⟨(dg l k%T).toNat,by omega⟩;rw[d1,et,eo,<-Int.natCast_mul,eS,A3L (by rw[<-eS]; omega) (by
     rw[<-eS];have:((S*t:Nat):Int)<=65536:=by rw[Int.natCast_mul,<-et]; omega
     omega)]
    simp
   have hu:IntKind.wrap .u64 (s:Int)=(s:Int):=Ay4 (by omega) (by omega);unfold NO A1
   dsimp only
   rw[decide_eq_true (by omega),AR (by omega)];have i1:A8 (k:Int) out.length=some k:=A5 (by omega);have hd:decide (IntKind.wrap .u64 (s:Int)<0)=false:=by rw[hu]; exact decide_eq_false (by omega)
   simp only[cond_true,Ao,As hk,za0,hd,cond_false,i1,As (show k<out.length by omega),hsh,zc6 hxS.1,zc7 hxS.1,hor,List.length_set];rw[A5 (by omega)];simp only[za0];rw[As (by simp; omega)];simp only[za0];rw[Aj (n:=dg l k*S/65536) (by omega) (by omega)])
  (by
   rintro out _;unfold NO
   dsimp only
   rw[decide_eq_false (Int.lt_irrefl _)];rfl) 0 (List.replicate (l.length + 1) 0) (by omega) ⟨LB.zeros _,by simp,by
    rw[show dg (List.replicate (l.length + 1) (0:Int)) 0=0 from rfl];exact Int.pow_pos (by decide),fun k _=>by unfold dg; rw[zb6,List.getElem?_replicate]; split <;> rfl,by simp[FG,val]⟩
 have hv:=h2.v;rw[List.take_length] at hv;refine ⟨out,?_,h2.lb,h2.len,hv⟩
 unfold Mp;rw[AR (by omega),IC (by unfold Ag; omega) (by unfold Ag; omega)];simp only[za0];rw[show ((0:Nat):Int)=0 from rfl] at h1;rw[h1];rfl
theorem A8f {l:List Int} {s:Nat} (hl:LB l) (hs:s<=15) (hn:l.length<=1000000):JS l (s:Int)=some (lim (val l/2 ^ s).toNat):=by
 obtain ⟨S,T,eS,eT,hST,hS,hT,hS2⟩:=QY (show s<=16 by omega);have hSi:((S:Nat):Int)=2 ^ s:=by rw[eS]; simp
 have hSTi:(S:Int)*T=65536:=by rw[<-Int.natCast_mul,hST]; rfl
 obtain ⟨out,h1,h2⟩:=EM (body:=fun (s:((List Int)×((List Int)×(Int×(Int×Int)))))=>Jv s.1 s.2.1 s.2.2.1 s.2.2.2.1 s.2.2.2.2)
  (st:=fun k (b:List Int)=>(b,(l,((s:Int),((l.length:Int),(k:Int)))))) (fin:=fun b=>b)
  (I:=fun k b=>LB b/\b.length=l.length/\(∀ i,k<=i->dg b i=0)/\val b + B k*(val (l.drop k)/S)=val l/S) (e:=l.length)
  (by
   rintro k out hk ⟨g1,g2,g3,g4⟩;have hx:=Bi hl k;have hy:=Bi hl (k + 1);have hm0 : 0<=(dg l k + 65536*dg l (k + 1))/(S:Int)%65536/\(dg l k + 65536*dg l (k + 1))/(S:Int)%65536<65536:=by omega
   refine ⟨out.set k ((dg l k + 65536*dg l (k + 1))/(S:Int)%65536),?_,g1.set hm0,by simp[g2],fun i hi=>by rw[Ce (by omega)]; exact g3 i (by omega),?_⟩
   ·have hor:orI .i64 (dg l k) (WD .i64 (dg l (k + 1)) 16)=dg l k + 65536*dg l (k + 1):=by
     obtain ⟨o,eo⟩:∃ o:Nat,dg l k=(o:Int):=⟨(dg l k).toNat,by omega⟩;obtain ⟨t,et⟩:∃ t:Nat,dg l (k + 1)=(t:Int):=⟨(dg l (k + 1)).toNat,by omega⟩;have h16:WD .i64 (dg l (k + 1)) 16=((2 ^ 16*t:Nat):Int):=by
      have:=Zi (x:=dg l (k + 1)) (s:=16) (by omega) (by omega) (by omega);rw[show IntKind.wrap .u64 ((16:Nat):Int)=16 by decide] at this;rw[this,et]; omega
     rw[h16,eo,A3L (by omega) (by omega),et];omega
    have hu:IntKind.wrap .u64 (s:Int)=(s:Int):=Ay4 (by omega) (by omega);unfold Jv A1
    dsimp only
    rw[decide_eq_true (by omega),AR (by omega)];have i1:A8 (k:Int) out.length=some k:=A5 (by omega);have hd:decide (IntKind.wrap .u64 (s:Int)<0)=false:=by rw[hu]; exact decide_eq_false (by omega)
    have hsr:A6Q .i64 (dg l k + 65536*dg l (k + 1)) (IntKind.wrap .u64 (s:Int))=(dg l k + 65536*dg l (k + 1))/(S:Int):=by rw[A8j (by omega),hSi]
    have hq0 : 0<=(dg l k + 65536*dg l (k + 1))/(S:Int):=Int.ediv_nonneg (by omega) (by omega);simp only[cond_true,Ao,As hk,za0,MJ,hd,cond_false,i1,As (show k<out.length by omega),hor,hsr,zc6 hq0]
   ·rw[Ga (As (show k<out.length by omega)),g3 k (za7 _),Int.sub_zero];rw[CK l k,CK l (k + 1),A2L hSTi (by omega) (by omega) hx,<-CK l (k + 1),ze0] at g4;have e:B (k + 1)*(val (l.drop (k + 1))/S)=B k*(65536*(val (l.drop (k + 1))/S)):=by simp only[B]; grind
    omega)
  (by
   rintro out _;unfold Jv
   dsimp only
   rw[decide_eq_false (Int.lt_irrefl _)];rfl) 0 (List.replicate l.length 0) (by omega) ⟨LB.zeros _,by simp,fun i _=>by unfold dg; rw[zb6,List.getElem?_replicate]; split <;> rfl,by rw[FG,ze7]; simp[B]⟩
 obtain ⟨g1,g2,g3,g4⟩:=h2;rw[List.drop_length,show val []=0 from rfl,Int.zero_ediv,Int.mul_zero,Int.add_zero] at g4;unfold JS;rw[IC (by unfold Ag; omega) (by unfold Ag; omega)];simp only[za0];rw[show ((0:Nat):Int)=0 from rfl] at h1;rw[h1];simp only[za0];rw[Hl (by unfold AH; omega)];simp only[za0];rw[Cy g1,g4,hSi]
theorem Bg0 {a b:List Int} {t:Int} {m:Nat} (hm:b.length=m + 1) (hml:m<=1000000) (ht:dg b m=t) (h1 : 1<=t) (h2:t<65536) :
  ∃ s:Nat,s<=15/\t*2 ^ s<65536/\Ah (fun (s:((List Int)×((List Int)×Int)))=>D1 s.1 s.2.1 s.2.2) (a,(b,0))=some (a,(b,(s:Int))):=by
 have bound:∀ s:Nat,t*2 ^ s<65536->s<=15:=fun s h=>by
  have h3:(2:Int) ^ s<2 ^ 16:=by
   have h4:(1:Int)*2 ^ s<=t*2 ^ s:=za9 h1 (ze3 (Int.pow_pos (by decide)));have h5:(2:Int) ^ 16=65536:=by decide
   omega
  have h5:((2 ^ s:Nat):Int)<((2 ^ 16:Nat):Int):=by simpa using h3
  have h6 : 2 ^ s<2 ^ 16:=by omega
  have:=(Nat.pow_lt_pow_iff_right (show 1<2 by decide)).1 h6;omega
 obtain ⟨r,g1,s,rfl,g2⟩:=Fq (f:=fun (s:((List Int)×((List Int)×Int)))=>D1 s.1 s.2.1 s.2.2)
  (I:=fun x=>∃ s:Nat,x=(a,(b,(s:Int)))/\t*2 ^ s<65536) (R:=fun x=>∃ s:Nat,x=(a,(b,(s:Int)))/\t*2 ^ s<65536) (fun x=>100-x.2.2.toNat) (by
   rintro x ⟨s,rfl,hs⟩;have hb:=bound s hs;have p0:(0:Int)<2 ^ s:=Int.pow_pos (by decide);have p1 : 0<=t*2 ^ s:=ze8 (by omega) (by omega);have hsh:WD .i64 t (IntKind.wrap .u64 (s:Int))=t*2 ^ s:=Zi (by omega) (by omega) (by omega);have hu:IntKind.wrap .u64 (s:Int)=(s:Int):=Ay4 (by omega) (by omega);have hd:decide (IntKind.wrap .u64 (s:Int)<0)=false:=by rw[hu]; exact decide_eq_false (by omega)
   have hg:AQ b (IntKind.wrap .i64 ((b.length:Int)-1))=some t:=by rw[<-ht]; exact M0 (by rw[Aj (by omega) (by omega)]; omega) (by omega)
   simp only;by_cases hc:t*2 ^ s<32768
   ·refine .inl ⟨(a,(b,((s + 1:Nat):Int))),?_,⟨s + 1,rfl,by rw[Int.pow_succ,<-Int.mul_assoc]; omega⟩,by simp only; omega⟩
    unfold D1;simp only[hg,za0,hd,cond_false,hsh,decide_eq_true hc,cond_true];rw[AR (by omega)]
   ·refine .inr ⟨(a,(b,(s:Int))),?_,s,rfl,hs⟩
    unfold D1;simp only[hg,za0,hd,cond_false,hsh,decide_eq_false hc]) (a,(b,0)) ⟨0,rfl,by simp; omega⟩
 exact ⟨s,bound s g2,g2,g1⟩
theorem A6n {u0 v:List Int} {m:Nat} {bits:Int} (hv:LB v) (hvl:v.length=m + 2) (ht : 1<=dg v (m + 1)) (hl:u0.length<=1000000) {n:Nat} {out:List Int} (h:Places u0 v m n u0 out) :
  ∃ u out',Ah (fun (s:((List Int)×((List Int)×((List Int)×(Int×Int)))))=>Cu s.1 s.2.1 s.2.2.1 s.2.2.2.1 s.2.2.2.2) (u0,(v,(out,(bits,(n:Int)-1))))=some (u,(out',bits))/\Places u0 v m 0 u out':=by
 obtain ⟨⟨u,out'⟩,h1,h2⟩:=MB (body:=fun (s:((List Int)×((List Int)×((List Int)×(Int×Int)))))=>Cu s.1 s.2.1 s.2.2.1 s.2.2.2.1 s.2.2.2.2)
  (st:=fun n (b:List Int×List Int)=>(b.1,(v,(b.2,(bits,(n:Int)-1))))) (fin:=fun b=>(b.1,(b.2,bits))) (I:=fun n b=>Places u0 v m n b.1 b.2)
  (by
   rintro n ⟨u,out⟩ hI;simp only at hI;have H:=hI.place hv hvl ht;have hle:=hI.le;have hol:=hI.olen;have hul:=hI.len;obtain ⟨u',g1,g2,g3,g4,g5⟩:=A8X (out:=out) (bits:=bits) H (by omega) (by omega);refine ⟨(u',out.set n (val (u.drop n)/val v)),?_,hI.next H g2 g3 g4 g5⟩
   simp only;rw[show ((n + 1:Nat):Int)-1=(n:Int) by omega,g1])
  (by
   rintro ⟨u,out⟩ _;unfold Cu
   dsimp only
   rw[decide_eq_false (by omega)];rfl) n (u0,out) h
 exact ⟨u,out',h1,h2⟩
theorem Places.start2 {u0 v:List Int} {m n:Nat} (hu:LB u0) (hn:u0.length=n + (m + 2)) (h0:val (u0.drop n)<val v):Places u0 v m n u0 (List.replicate n 0) :=
 ⟨rfl,hu,by omega,h0,LB.zeros n,by simp; omega,fun i hi=>by unfold dg; rw[zb6,List.getElem?_replicate]; split <;> rfl,by rw[FG]; omega⟩
set_option maxHeartbeats 1000000 in
theorem Um {a b:Nat} (hb0:b≠0) (ha:(lim a).length<=90000) (hb:(lim b).length<=90000):DT (lim a) (lim b)=some (lim (a/b),lim (a%b)):=by
 unfold DT;rw[Hl (by unfold AH; omega)];simp only[za0];rw[OI (Vl a),Q9 (by unfold AH; omega) (by unfold AH; omega)];simp only[za0];by_cases hab:a<b
 ·rw[Ea (by omega)];simp only[show decide ((-1:Int)<0)=true from rfl,cond_true];rw[Nat.div_eq_of_lt hab,Nat.mod_eq_of_lt hab,Cr]
 have hc:decide (CZ (a:Int) b<0)=false:=by
  rcases B9 (a:Int) b with ⟨h,g⟩ | ⟨h,_⟩ | ⟨h,_⟩
  ·omega
  ·rw[h]; rfl
  ·rw[h]; rfl
 simp only[hc,cond_false];have hbl:(lim b).length≠0:=fun h=>hb0 (Jt.1 (zb7 h))
 by_cases h1:(lim b).length=1
 ·obtain ⟨e1,e2,e3⟩:=A3y h1;rw[e1];simp only[List.length_singleton,show (((1:Nat):Int)==1)=true from rfl,cond_true];rw[show AQ [(b:Int)] 0=some (b:Int) from rfl];simp only[za0];rw[A4j (by omega) (by omega)];simp only[za0,zc4]
 have hn1:((((lim b).length:Nat):Int)==1)=false:=beq_eq_false_iff_ne.2 (by omega);obtain ⟨m,hm⟩:∃ m,(lim b).length=m + 2:=⟨(lim b).length-2,by omega⟩;obtain ⟨t1,t2,t3,t4⟩:=YY hb0;rw[hm,show m + 2-1=m + 1 by omega] at t1 t2 t3 t4;generalize ht:dg (lim b) (m + 1)=t at *
 obtain ⟨s,hs1,hs2,hs3⟩:=Bg0 (a:=lim a) (b:=lim b) (m:=m + 1) (by omega) (by omega) ht t1 t2;obtain ⟨S,T,eS,eT,hST,hS,hT,hS2⟩:=QY (show s<=16 by omega);have hSi:((S:Nat):Int)=2 ^ s:=by rw[eS]; simp
 obtain ⟨u,hu1,hu2,hu3,hu4⟩:=A8o (AN a) hs1 (by omega);obtain ⟨v,hv1,hv2,hv3,hv4⟩:=A8o (AN b) hs1 (by omega);rw[AE,<-hSi,<-Int.natCast_mul] at hu4 hv4;simp only[hn1,cond_false,hs3,za0,hu1,hv1];rw[Hl (by unfold AH; omega)];simp only[za0];rw[Cy hv2,hv4,zc4];have hBa:(a:Int)<B (lim a).length:=Aw.1 (za7 _);have lb:(lim (b*S)).length=m + 2:=by
  apply Nat.le_antisymm
  ·rw[Aw];rw[show ((b*S:Nat):Int)=(b:Int)*S by simp];rw[<-hSi] at hs2;have e1:(b:Int)*S<B (m + 1)*(t + 1)*S:=Int.mul_lt_mul_of_pos_right t4 (by omega);have hts:(t + 1)*(S:Int)<=65536:=by
    obtain ⟨d1,d2,d3,d4,d5,d6,d7,d8⟩:=Ae3 (S:=(S:Int)) (T:=(T:Int)) (by rw[<-Int.natCast_mul,hST]; rfl) (by omega) (by omega) (show 0<=t/\t<65536 by omega);have d9:t*S%65536=t*S:=Int.emod_eq_of_lt (ze8 (by omega) (by omega)) hs2;rw[Int.add_mul,Int.one_mul,<-d9,d1];exact d8
   have e2:B (m + 1)*((t + 1)*(S:Int))<=B (m + 1)*65536:=zb2 hts (ze3 (GM _));have e3:B (m + 1)*(t + 1)*S=B (m + 1)*((t + 1)*(S:Int)):=Int.mul_assoc ..
   have e4:B (m + 2)=B (m + 1)*65536:=by simp only[B]; omega
   omega
  ·rw[<-hm,Aw];have h1:((b*S:Nat):Int)<B (lim (b*S)).length:=Aw.1 (za7 _);have:b*1<=b*S:=Nat.mul_le_mul_left _ (by omega);omega
 have hle:(lim b).length<=(lim a).length:=by rw[Aw]; omega
 have hbS0:b*S≠0:=Nat.mul_ne_zero hb0 (by omega);have htop:=(YY hbS0).1;rw[lb,show m + 2-1=m + 1 by omega] at htop;generalize hn:(lim a).length-(lim b).length + 1=n at *
 have w0:IntKind.wrap .i64 (((lim a).length:Int)-((lim b).length:Int))=(n:Int)-1:=by rw[Aj (by omega) (by omega)]; omega
 rw[w0,Aj (n:=(n:Int)-1 + 1) (by omega) (by omega),show (n:Int)-1 + 1=(n:Int) by omega,IC (by unfold Ag; omega) (by unfold Ag; omega)];simp only[za0];have hless:val (u.drop n)<val (lim (b*S)):=by
  rw[AE];have h1:=Cd u n;have h2:=AX (hu2.take n);rw[hu4] at h1;have h3:B n*val (u.drop n)<=((a*S:Nat):Int):=by omega
  have h4:((a*S:Nat):Int)<B (lim a).length*S:=by rw[Int.natCast_mul]; exact Int.mul_lt_mul_of_pos_right hBa (by omega)
  have h5:(lim a).length=n + (m + 1):=by omega
  rw[h5,Tr] at h4;have h6:B (m + 1)*S<=((b*S:Nat):Int):=by
   rw[Int.natCast_mul];have:B (m + 1)*1<=B (m + 1)*t:=zb2 t1 (ze3 (GM _));exact za9 (by omega) (by omega)
  have h7:B n*(val (u.drop n))<B n*(B (m + 1)*S):=by rw[<-Int.mul_assoc]; omega
  have h8:=Int.lt_of_mul_lt_mul_left h7 (ze3 (GM n));omega
 obtain ⟨u',out,hp,P⟩:=A6n (bits:=(s:Int)) (AN (b*S)) lb htop (by omega) (Places.start2 (n:=n) hu2 (by omega) hless);rw[hp];simp only[za0];obtain ⟨p1,p2⟩:=P.end (AN _);rw[hu4,AE] at p1 p2;obtain ⟨q1,q2⟩:=ZT (a:=a) (b:=b) (c:=S) (by omega);have p1':val out=((a/b:Nat):Int):=by rw[p1,<-q1]; simp
 have p2':val u'=((a%b*S:Nat):Int):=by rw[p2,<-q2]; simp
 have hul:=P.len;have hol:=P.olen;rw[Hl (by unfold AH; omega)];simp only[za0];rw[Hl (by unfold AH; omega)];simp only[za0];rw[Cy P.lo,Cy P.lu,p1',p2',zc4,zc4,A8f (AN _) hs1 (by
  have:(lim (a%b*S)).length<=m + 2:=by
   rw[<-lb,Aw];have h1:((b*S:Nat):Int)<B (lim (b*S)).length:=Aw.1 (za7 _);have:=Nat.mul_lt_mul_of_pos_right (Nat.mod_lt a (show b>0 by omega)) (show S>0 by omega);omega
  omega),AE]
 simp only[za0];rw[<-hSi,Int.natCast_mul,Int.mul_ediv_cancel _ (by omega),zc4]
end
section
open Go
theorem GZ (n:Nat):big (n:Int)=(false,lim n):=by unfold big; rw[decide_eq_false (by omega),Int.natAbs_natCast]
theorem AL3 (n:Nat):big (-(n:Int))=(decide (n≠0),lim n):=by unfold big; congr 1; exact decide_eq_decide.2 (by omega); congr 1; omega
theorem AR3 (x y:Int):((!(decide (x<0)==decide (y<0)))&&decide (x.natAbs/y.natAbs≠0),lim (x.natAbs/y.natAbs))=big (x.tdiv y):=by
 rcases Int.lt_or_le x 0 with hx | hx
 ·obtain ⟨a,rfl⟩:∃ a:Nat,x = -(a:Int):=⟨x.natAbs,by omega⟩;rcases Int.lt_or_le y 0 with hy | hy
  ·obtain ⟨b,rfl⟩:∃ b:Nat,y = -(b:Int):=⟨y.natAbs,by omega⟩;rw[Int.neg_tdiv,Int.tdiv_neg,Int.neg_neg,<-Int.ofNat_tdiv,GZ,decide_eq_true hx,decide_eq_true hy,Int.natAbs_neg,Int.natAbs_neg]; rfl
  ·obtain ⟨b,rfl⟩:∃ b:Nat,y=(b:Int):=⟨y.natAbs,by omega⟩;rw[Int.neg_tdiv,<-Int.ofNat_tdiv,AL3,decide_eq_true hx,decide_eq_false (show ¬(b:Int)<0 by omega),Int.natAbs_neg]; rfl
 ·obtain ⟨a,rfl⟩:∃ a:Nat,x=(a:Int):=⟨x.natAbs,by omega⟩;rcases Int.lt_or_le y 0 with hy | hy
  ·obtain ⟨b,rfl⟩:∃ b:Nat,y = -(b:Int):=⟨y.natAbs,by omega⟩;rw[Int.tdiv_neg,<-Int.ofNat_tdiv,AL3,decide_eq_false (show ¬(a:Int)<0 by omega),decide_eq_true hy,Int.natAbs_neg]; rfl
  ·obtain ⟨b,rfl⟩:∃ b:Nat,y=(b:Int):=⟨y.natAbs,by omega⟩;rw[<-Int.ofNat_tdiv,GZ,decide_eq_false (show ¬(a:Int)<0 by omega),decide_eq_false (show ¬(b:Int)<0 by omega)]; rfl
theorem AR4 (x y:Int):(decide (x<0)&&decide (x.natAbs%y.natAbs≠0),lim (x.natAbs%y.natAbs))=big (x.tmod y):=by
 have hy:x.tmod y=x.tmod (y.natAbs:Int):=by
  rcases Int.natAbs_eq y with h | h
  ·rw[<-h]
  ·rw[h,Int.tmod_neg,Int.natAbs_neg,Int.natAbs_natCast]
 rw[hy];rcases Int.lt_or_le x 0 with hx | hx
 ·obtain ⟨a,rfl⟩:∃ a:Nat,x = -(a:Int):=⟨x.natAbs,by omega⟩;rw[Int.neg_tmod,<-Int.ofNat_tmod,AL3,decide_eq_true hx,Int.natAbs_neg]; rfl
 ·obtain ⟨a,rfl⟩:∃ a:Nat,x=(a:Int):=⟨x.natAbs,by omega⟩;rw[<-Int.ofNat_tmod,GZ,decide_eq_false (show ¬(a:Int)<0 by omega)]; rfl
theorem KR {a b:Nat} (h:a<=b):(lim a).length<=(lim b).length:=Aw.2 (Int.lt_of_le_of_lt (by omega) (Aw.1 (za7 (lim b).length)))
section
variable {x y:Int} {k:Nat}
theorem Mu (hk:k<=90000) (hx:(x.natAbs:Int)<B k) (hy:(y.natAbs:Int)<B k) (h0:y≠0):E5 (big x) (big y)=some (big (x.tdiv y),big (x.tmod y)):=by
 have lx:=ze5 (Aw.2 hx) hk;have ly:=ze5 (Aw.2 hy) hk;have l1:=KR (Nat.div_le_self x.natAbs y.natAbs);have l2:=KR (Nat.mod_le x.natAbs y.natAbs);unfold E5;rw[show (big x).2=lim x.natAbs from rfl,show (big y).2=lim y.natAbs from rfl,Ac7 (by omega) lx ly];simp only[za0];rw[Iw (AN _) (by unfold AH; omega),Iw (AN _) (by unfold AH; omega),AE,AE,zc4,zc4];simp only[za0];rw[show (big x).1=decide (x<0) from rfl,show (big y).1=decide (y<0) from rfl,AR3,AR4]
theorem AI3 (hk:k<=90000) (hx:(x.natAbs:Int)<B k) (hy:(y.natAbs:Int)<B k) (h0:y≠0):HZ (big x) (big y)=some (big (x.tdiv y),big (x.tmod y)):=by
 have lx:=ze5 (Aw.2 hx) hk;have ly:=ze5 (Aw.2 hy) hk;have l1:=KR (Nat.div_le_self x.natAbs y.natAbs);have l2:=KR (Nat.mod_le x.natAbs y.natAbs);unfold HZ;rw[show (big x).2=lim x.natAbs from rfl,show (big y).2=lim y.natAbs from rfl,Um (by omega) lx ly];simp only[za0];rw[F5 (AN _) (by unfold AH; omega),F5 (AN _) (by unfold AH; omega),AE,AE,zc4,zc4];simp only[za0];rw[show (big x).1=decide (x<0) from rfl,show (big y).1=decide (y<0) from rfl,AR3,AR4]
end
theorem W3 {b:Nat} (h:b≠0):decide ((((lim b).length:Nat):Int)>0)=true:=by rw[Pj,Ms]; simp[h]
theorem A09 (s:Bool×List Int):∀ (n a b:Nat),b<n->(lim a).length<=90000->(lim b).length<=90000 ->
  Ah (fun (s:((Bool×(List Int))×((List Int)×(List Int))))=>Im s.1 s.2.1 s.2.2) (s,(lim a,lim b))=some (s,lim (Nat.gcd a b)):=by
 intro n
 induction n with
 | zero=>intro a b h; omega
 | succ n ih =>
  intro a b h ha hb;by_cases h0:b=0
  ·subst h0;rw[Nat.gcd_zero_right];refine Aq ?_
   unfold Im;rw[Cr];rfl
  ·have hm:=Nat.mod_lt a (show b>0 by omega);rw[AY (s':=(s,(lim b,lim (a%b))))]
   ·rw[ih b (a%b) (by omega) hb (ze5 (KR (Nat.mod_le _ _)) ha),Nat.gcd_comm b,<-Nat.gcd_rec,Nat.gcd_comm b]
   ·unfold Im
    dsimp only
    rw[W3 h0,Ac7 h0 ha hb];rfl
theorem A2A:∀ (n a b:Nat),b<n->(lim a).length<=90000->(lim b).length<=90000 ->
  Ah (fun (s:((List Int)×(List Int)))=>Lr s.1 s.2) (lim a,lim b)=some (lim (Nat.gcd a b)):=by
 intro n
 induction n with
 | zero=>intro a b h; omega
 | succ n ih =>
  intro a b h ha hb;by_cases h0:b=0
  ·subst h0;rw[Nat.gcd_zero_right];refine Aq ?_
   unfold Lr;rw[Cr];rfl
  ·have hm:=Nat.mod_lt a (show b>0 by omega);rw[AY (s':=(lim b,lim (a%b)))]
   ·rw[ih b (a%b) (by omega) hb (ze5 (KR (Nat.mod_le _ _)) ha),Nat.gcd_comm b,<-Nat.gcd_rec,Nat.gcd_comm b]
   ·unfold Lr
    dsimp only
    rw[W3 h0,Um h0 ha hb];rfl
theorem A21 {a b:Nat} (ha:(lim a).length<=90000) (hb:(lim b).length<=90000):(lim (Nat.gcd a b)).length<=90000:=by
 by_cases h:a=0
 ·subst h; rw[Nat.gcd_zero_left]; exact hb
 ·exact ze5 (KR (Nat.gcd_le_left b (by omega))) ha
section
variable {x y:Int} {k:Nat}
theorem AB2 (hk:k<=90000) (hx:(x.natAbs:Int)<B k) (hy:(y.natAbs:Int)<B k):GO (big x) (big y)=some (big (Int.gcd x y:Nat)):=by
 have lx:=ze5 (Aw.2 hx) hk;have ly:=ze5 (Aw.2 hy) hk;have lg:=A21 lx ly;unfold GO;rw[show (big x).2=lim x.natAbs from rfl,show (big y).2=lim y.natAbs from rfl,A09 _ _ _ _ (Nat.lt_succ_self _) lx ly];simp only[za0];rw[Iw (AN _) (by unfold AH; omega),AE,zc4,GZ];rfl
theorem A3I (hk:k<=90000) (hx:(x.natAbs:Int)<B k) (hy:(y.natAbs:Int)<B k):JE (big x).2 (big y).2=some (lim (Int.gcd x y)):=by
 have lx:=ze5 (Aw.2 hx) hk;have ly:=ze5 (Aw.2 hy) hk;have lg:=A21 lx ly;unfold JE;rw[show (big x).2=lim x.natAbs from rfl,show (big y).2=lim y.natAbs from rfl,A2A _ _ _ (Nat.lt_succ_self _) lx ly];simp only[za0];rw[Hl (by unfold AH; omega)];simp only[za0];rw[OI (Vl _)];rfl
end
theorem Ur {l:List Int} (neg:Bool) (hl:LB l) (hv:val l<=4611686018427387904) (hn:l.length<=1000) :
  Ah (fun (s:((Bool×(List Int))×(Int×Int)))=>Fn s.1 s.2.1 s.2.2) ((neg,l),(0,(l.length:Int)-1))=some ((neg,l),val l):=by
 obtain ⟨n,h1,h2⟩:=MB (body:=fun (s:((Bool×(List Int))×(Int×Int)))=>Fn s.1 s.2.1 s.2.2)
  (st:=fun k (b:Int)=>((neg,l),(b,(k:Int)-1))) (fin:=fun b=>((neg,l),b)) (I:=fun k b=>k<=l.length/\b=val (l.drop k))
  (by
   rintro k b ⟨hk,rfl⟩;have hkl:k<l.length:=by omega
   have hx:=Bi hl k;have e1:=CK l k;have e2:=AX (hl.drop (k + 1));have e3:=Cd l k;have e4:=AX (hl.take k);have e5:val (l.drop k)<=B k*val (l.drop k):=by
    have:=za9 (show 1<=B k by have:=GM k; omega) (AX (hl.drop k));omega
   refine ⟨val (l.drop k),?_,by omega,rfl⟩
   unfold Fn
   dsimp only
   rw[decide_eq_true (by omega),show ((k + 1:Nat):Int)-1=(k:Int) by omega,Ao,As hkl];simp only[cond_true,za0];rw[Aj (n:=val (l.drop (k + 1))*65536) (by omega) (by omega),Aj (n:=val (l.drop (k + 1))*65536 + dg l k) (by omega) (by omega),Aj (n:=(k:Int)-1) (by omega) (by omega),e1,show val (l.drop (k + 1))*65536 + dg l k=dg l k + 65536*val (l.drop (k + 1)) by omega])
  (by
   rintro b _;unfold Fn;rfl) l.length 0 ⟨za7 _,by rw[List.drop_length]; rfl⟩
 rw[ze7] at h2;rw[<-h2.2];exact h1
theorem AD5 {l:List Int} (neg:Bool) (hl:LB l) (hv:val l<=4611686018427387904) (hn:l.length<=1000) :
  Ah (fun (s:((Bool×(List Int))×(Int×Int)))=>Lu s.1 s.2.1 s.2.2) ((neg,l),(0,(l.length:Int)-1))=some ((neg,l),val l):=by
 have:(fun (s:((Bool×(List Int))×(Int×Int)))=>Lu s.1 s.2.1 s.2.2)=fun (s:((Bool×(List Int))×(Int×Int)))=>Fn s.1 s.2.1 s.2.2:=by
  funext s; unfold Lu Fn; rfl
 rw[this];exact Ur neg hl hv hn
def SO (z:Int):Int×Bool:=if z.natAbs<=4611686018427387904 then (z,true) else (0,false)
theorem A3w (T:Nat):(big (T:Int)).2=lim T:=by rw[GZ]
theorem AV9 {z:Int} {T:Nat} (hT:T=4611686018427387904):SO z=if z.natAbs<=T then (z,true) else (0,false):=by rw[hT]; rfl
theorem A8y {z:Int} {T:Nat} (hT:T=4611686018427387904) (hz:(z.natAbs:Int)<B 40):HT (big z)=some (SO z):=by
 have lz:=Aw.2 hz;have hB4:B 4=18446744073709551616:=rfl;rw[AV9 hT];unfold HT;rw[show (4611686018427387904:Int)=(T:Int) by omega];rw[VF (by unfold big AH; dsimp only; omega),JP hz,Y3 (by omega) (by omega)];simp only[za0,Bool.not_true,cond_false];rw[show (big z).2=lim z.natAbs from rfl,A3w,Hn (by unfold AH; omega) (by unfold AH; have:=@AP2 T (by omega); omega)];simp only[za0];by_cases h:z.natAbs<=T
 ·have hc:decide (CZ (z.natAbs:Int) (T:Int)>0)=false:=by
   rcases B9 (z.natAbs:Int) (T:Int) with ⟨g,_⟩ | ⟨g,_⟩ | ⟨g,_⟩
   ·rw[g]; rfl
   ·omega
   ·rw[g]; rfl
  rw[hc,if_pos h,Aj (by omega) (by omega),show big z=(decide (z<0),lim z.natAbs) from rfl];simp only[cond_false];rw[Ur _ (AN _) (by rw[AE]; omega) (by omega),AE];simp only[za0];by_cases hn:z<0
  ·rw[decide_eq_true hn,Aj (by omega) (by omega)];simp only[cond_true];rw[show (0:Int)-(z.natAbs:Int)=z by omega]
  ·rw[decide_eq_false hn];simp only[cond_false];rw[show (z.natAbs:Int)=z by omega]
 ·have hc:decide (CZ (z.natAbs:Int) (T:Int)>0)=true:=by rw[Gb (by omega)]; rfl
  rw[hc,if_neg h];rfl
theorem A7T {z:Int} {T:Nat} (hT:T=4611686018427387904) (hz:(z.natAbs:Int)<B 40):JG (big z)=some (SO z):=by
 have lz:=Aw.2 hz;have hB4:B 4=18446744073709551616:=rfl;rw[AV9 hT];unfold JG;rw[show (4611686018427387904:Int)=(T:Int) by omega];rw[VC (by unfold big AH; dsimp only; omega),JP hz,US (by omega) (by omega)];simp only[za0,Bool.not_true,cond_false];rw[show (big z).2=lim z.natAbs from rfl,A3w];by_cases h4:(lim z.natAbs).length>4
 ·rw[decide_eq_true (by omega)];have:¬z.natAbs<=T:=fun h=>by
   have:=@AP2 z.natAbs (by omega);omega
  rw[if_neg this];rfl
 rw[decide_eq_false (by omega),Q9 (by unfold AH; omega) (by unfold AH; have:=@AP2 T (by omega); omega)];simp only[za0,cond_false];by_cases h:z.natAbs<=T
 ·have hc:decide (CZ (z.natAbs:Int) (T:Int)>0)=false:=by
   rcases B9 (z.natAbs:Int) (T:Int) with ⟨g,_⟩ | ⟨g,_⟩ | ⟨g,_⟩
   ·rw[g]; rfl
   ·omega
   ·rw[g]; rfl
  rw[hc,if_pos h,Aj (by omega) (by omega),show big z=(decide (z<0),lim z.natAbs) from rfl];simp only[cond_false];rw[AD5 _ (AN _) (by rw[AE]; omega) (by omega),AE];simp only[za0];by_cases hn:z<0
  ·rw[decide_eq_true hn,Aj (by omega) (by omega)];simp only[cond_true];rw[show (0:Int)-(z.natAbs:Int)=z by omega]
  ·rw[decide_eq_false hn];simp only[cond_false];rw[show (z.natAbs:Int)=z by omega]
 ·have hc:decide (CZ (z.natAbs:Int) (T:Int)>0)=true:=by rw[Gb (by omega)]; rfl
  rw[hc,if_neg h];rfl
theorem A9e {z:Int} (hz:(z.natAbs:Int)<B 40):HT (big z)=some (SO z):=A8y rfl hz
theorem A8Q {z:Int} (hz:(z.natAbs:Int)<B 40):JG (big z)=some (SO z):=A7T rfl hz
end
section
open Go
section
variable {x y:Int} (hx:(x.natAbs:Int)<B 40) (hy:(y.natAbs:Int)<B 40)
include hx hy
end
section
variable {a b:Bool×List Int} (ha:AH a.2) (hb:AH b.2) (h:(GT a&&GT b)=false)
include ha hb h
end
end
section
open Go
end
section
open Go
def rq (q:Rat):(Bool×List Int)×(Bool×List Int):=(big q.num,big (q.den:Int))
theorem A7N {p q:Rat} (h:rq p=rq q):p=q:=by
 have h1:=A3j (congrArg Prod.fst h);have h2:=A3j (congrArg Prod.snd h);exact Rat.ext h1 (by exact_mod_cast h2)
theorem Nj {x y:Int} (hy:y≠0):x.tdiv (if y<0 then -((Int.gcd x y:Nat):Int) else (Int.gcd x y:Nat))=(Rat.divInt x y).num/\y.tdiv (if y<0 then -((Int.gcd x y:Nat):Int) else (Int.gcd x y:Nat))=((Rat.divInt x y).den:Int):=by
 have d1:((Int.gcd x y:Nat):Int)∣x:=Int.gcd_dvd_left ..
 have d2:((Int.gcd x y:Nat):Int)∣y:=Int.gcd_dvd_right ..
 rw[Rat.num_divInt,Rat.den_divInt,if_neg hy,Int.gcd_comm y x];generalize Int.gcd x y=n at *
 obtain ⟨a,rfl⟩:=d1;obtain ⟨b,rfl⟩:=d2;have hn:n≠0:=by rintro rfl; simp at hy
 have hn':(n:Int)≠0:=by omega
 have hb:b≠0:=by rintro rfl; simp at hy
 have hsg:((n:Int)*b<0)↔b<0:=by
  constructor
  ·intro h;rcases Int.lt_or_le b 0 with g | g
   ·exact g
   ·exact absurd (ze8 (show (0:Int)<=(n:Int) by omega) g) (by omega)
  ·intro h; exact Int.mul_neg_of_pos_of_neg (by omega) h
 rw[Int.natAbs_mul,Int.natAbs_natCast,Nat.mul_div_cancel_left _ (by omega)];by_cases h:b<0
 ·rw[if_pos (hsg.2 h),Int.sign_eq_neg_one_of_neg (hsg.2 h),Int.tdiv_neg,Int.tdiv_neg,Int.mul_tdiv_cancel_left _ hn',Int.mul_tdiv_cancel_left _ hn',
   show (-1:Int)*((n:Int)*a)=(n:Int)*(-a) by rw[Int.mul_neg,Int.neg_mul,Int.one_mul],Int.mul_ediv_cancel_left _ hn']
  exact ⟨rfl,by omega⟩
 ·have h':¬(n:Int)*b<0:=fun g=>h (hsg.1 g)
  have hp : 0<(n:Int)*b:=by omega
  rw[if_neg h',Int.sign_eq_one_of_pos hp,Int.mul_tdiv_cancel_left _ hn',Int.mul_tdiv_cancel_left _ hn',Int.one_mul,Int.mul_ediv_cancel_left _ hn'];exact ⟨rfl,by omega⟩
def Sz (k:Nat) (q:Rat):Prop:=(q.num.natAbs:Int)<B k/\(q.den:Int)<B k
instance (k:Nat) (q:Rat):Decidable (Sz k q):=by unfold Sz; infer_instance
theorem Sz.mono {k m:Nat} {q:Rat} (h:Sz k q) (hkm:k<=m):Sz m q:=by
 have:=Kf hkm;unfold Sz at *
 omega
theorem QC (x g:Int):(x.tdiv g).natAbs<=x.natAbs:=by rw[Int.natAbs_tdiv]; exact Nat.div_le_self _ _
theorem Vk {x y:Int} {k:Nat} (hx:(x.natAbs:Int)<B k) (hy:(y.natAbs:Int)<B k) (h0:y≠0):Sz k (Rat.divInt x y):=by
 obtain ⟨h1,h2⟩:=Nj (x:=x) h0;have a1:=QC x (if y<0 then -((Int.gcd x y:Nat):Int) else (Int.gcd x y:Nat));have a2:=QC y (if y<0 then -((Int.gcd x y:Nat):Int) else (Int.gcd x y:Nat));rw[h1] at a1;rw[h2] at a2;unfold Sz;omega
theorem A6L (p q:Rat):p + q=Rat.divInt (p.num*q.den + q.num*p.den) ((p.den:Int)*(q.den:Int)):=by
 rw[Rat.add_def',<-Rat.divInt_ofNat,Int.natCast_mul]
theorem A8x (p q:Rat):p*q=Rat.divInt (p.num*q.num) ((p.den:Int)*(q.den:Int)):=by
 rw[Rat.mul_def',<-Rat.divInt_ofNat,Int.natCast_mul]
theorem A6S (p q:Rat):p/q=Rat.divInt (p.num*q.den) ((p.den:Int)*q.num):=by
 rw[Rat.div_def,Rat.inv_def]
 conv=>lhs; lhs; rw[<-Rat.num_divInt_den p]
 rw[Rat.divInt_mul_divInt]
theorem I3 {x y:Int} {k m:Nat} (hx:(x.natAbs:Int)<B k) (hy:(y.natAbs:Int)<B m):((x*y).natAbs:Int)<B (k + m):=by
 rw[Int.natAbs_mul]; exact Bm5 hx hy
theorem Bl0 {x y:Int} {k:Nat} (hx:(x.natAbs:Int)<B k) (hy:(y.natAbs:Int)<B k):((x + y).natAbs:Int)<B (k + 1):=by
 have h1:B (k + 1)=65536*B k:=by rw[Tr,Int.mul_comm]; rfl
 have:=GM k;omega
theorem CB {n:Nat} {k:Nat} (h:(n:Int)<B k):(((n:Int)).natAbs:Int)<B k:=by rw[Int.natAbs_natCast]; exact h
theorem A8H {x:Int} {k:Nat} (h:(x.natAbs:Int)<B k):((-x).natAbs:Int)<B k:=by rw[Int.natAbs_neg]; exact h
theorem upB {x:Int} {k m:Nat} (h:(x.natAbs:Int)<B k) (hkm:k<=m):(x.natAbs:Int)<B m:=Int.lt_of_lt_of_le h (Kf hkm)
section
variable {p q:Rat} {k m:Nat} (hp:Sz k p) (hq:Sz m q)
include hp hq
theorem Kh:Sz (k + m) (p*q):=by
 rw[A8x];exact Vk (I3 hp.1 hq.1) (I3 (CB hp.2) (CB hq.2)) (by have:=p.den_nz; have:=q.den_nz; intro h; rcases Int.mul_eq_zero.1 h with h | h <;> omega)
theorem WG:((p.num*(q.den:Int) + q.num*(p.den:Int)).natAbs:Int)<B (k + m + 1) :=
 Bl0 (I3 hp.1 (CB hq.2)) (by rw[Nat.add_comm]; exact I3 hq.1 (CB hp.2))
theorem R6:Sz (k + m + 1) (p + q):=by
 rw[A6L];exact Vk (WG hp hq) (upB (I3 (CB hp.2) (CB hq.2)) (by omega)) (by have:=p.den_nz; have:=q.den_nz; intro h; rcases Int.mul_eq_zero.1 h with h | h <;> omega)
theorem AN0 (h0:q≠0):Sz (k + m) (p/q):=by
 rw[A6S];exact Vk (I3 hp.1 (CB hq.2)) (I3 (CB hp.2) hq.1) (by
  have:=p.den_nz;have hn:q.num≠0:=fun h=>h0 (Rat.num_eq_zero.1 h)
  intro h; rcases Int.mul_eq_zero.1 h with h | h <;> omega)
end
theorem A2I {p:Rat} {k:Nat} (hp:Sz k p):Sz k (-p):=⟨A8H hp.1,hp.2⟩
theorem Kl {p q:Rat} {k m:Nat} (hp:Sz k p) (hq:Sz m q):Sz (k + m + 1) (p-q):=by rw[Rat.sub_eq_add_neg]; exact R6 hp (A2I hq)
theorem B1:B 1=65536:=rfl
theorem AM4 {z:Int} {k:Nat} (h:(z.natAbs:Int)<B k) (hk : 1<=k):Sz k (z:Rat):=⟨h,by
 rw[Rat.den_intCast];have:=Kf hk;rw[B1] at this;omega⟩
def TR (p q:Rat):Int:=if p<q then -1 else if q<p then 1 else 0
theorem A3H (p q:Rat):CZ (p.num*(q.den:Int)) (q.num*(p.den:Int))=TR p q:=by
 unfold CZ TR;simp only[Rat.lt_iff]
theorem A3W {p q:Rat}:TR p q<0↔p<q:=by
 unfold TR; split
 ·simp[*]
 ·split <;> simp[*]
theorem Lp {p q:Rat} : 0<TR p q↔q<p:=by
 unfold TR; split
 ·rename_i h; simp; exact Rat.not_lt.2 (Rat.le_of_lt h)
 ·split <;> simp[*]
theorem Xp {x d:Int} (hd : 0<d):(if x.tmod d<0 then x.tdiv d-1 else x.tdiv d)=x/d:=by
 have h1:=Int.mul_tdiv_add_tmod x d;have h2:=Int.natAbs_tmod x d;have h3:(x.tmod d).natAbs<d.natAbs:=by rw[h2]; exact Nat.mod_lt _ (by omega)
 have h4:x=(if x.tmod d<0 then x.tmod d + d else x.tmod d) + d*(if x.tmod d<0 then x.tdiv d-1 else x.tdiv d):=by
  split
  ·rw[Int.mul_sub]; omega
  ·omega
 conv=>rhs; rw[h4]
 rw[Int.add_mul_ediv_left _ _ (by omega),Int.ediv_eq_zero_of_lt (by split <;> omega) (by split <;> omega),Int.zero_add]
def Cm (a:(Bool×List Int)×(Bool×List Int)):Bool:=GT a.1&&GT a.2&&((!a.2.1 && !a.2.2.isEmpty)&&decide (Nat.gcd (val a.1.2).toNat (val a.2.2).toNat=1))
theorem Mz {a:(Bool×List Int)×(Bool×List Int)}:Cm a=true↔∃ q:Rat,Sz 40 q/\a=rq q:=by
 unfold Cm;constructor
 ·intro h;simp only[za2,decide_eq_true_eq] at h;obtain ⟨⟨h1,h2⟩,⟨h3,h4⟩,h5⟩:=h;obtain ⟨x,hx,e1⟩:=H8.1 h1;obtain ⟨y,hy,e2⟩:=H8.1 h2;rw[e2] at h3 h4 h5;rw[e1] at h5;unfold big at h3 h4 h5;simp only[AE,zc4] at h5;simp only[Bool.not_eq_true',decide_eq_false_iff_not] at h3;simp only[Bool.not_eq_true'] at h4;have h6:y≠0:=by
   rintro rfl;rw[show (0:Int).natAbs=0 from rfl,Cr] at h4;simp at h4
  refine ⟨⟨x,y.natAbs,by omega,h5⟩,⟨hx,by show ((y.natAbs:Nat):Int)<B 40; exact hy⟩,?_⟩
  unfold rq;rw[<-e1];refine Prod.ext rfl ?_
  rw[e2];show big y=big ((y.natAbs:Nat):Int)
  congr 1
  omega
 ·rintro ⟨q,h,rfl⟩;unfold rq;have hd:=q.den_nz;have hb:=JP h.1;have hb2:=JP (CB h.2);simp only[hb,hb2,ze2];unfold big;simp only[AE,zc4,Int.natAbs_natCast,za2,decide_eq_true_eq,Bool.not_eq_true',decide_eq_false_iff_not];refine ⟨⟨by omega,?_⟩,q.reduced⟩
  have:=Ms q.den;rw[decide_eq_true hd] at this;simpa using this
theorem Tx {q:Rat} (h:Sz 40 q):Cm (rq q)=true:=Mz.2 ⟨q,h,rfl⟩
end
section
open Go
abbrev RF:=Bool×(List Int×(Bool×List Int))
def rqF (q:Rat):RF:=((big q.num).1,((big q.num).2,((big (q.den:Int)).1,(big (q.den:Int)).2)))
def zF:RF:=(false,([],(false,[])))
theorem Yo (q:Rat):((rqF q).1,(rqF q).2.1)=big q.num:=(rfl)
theorem An3 (q:Rat):((rqF q).2.2.1,(rqF q).2.2.2)=big (q.den:Int):=(rfl)
theorem Rh (q:Rat):(rqF q).2.2=big (q.den:Int):=(rfl)
theorem A2 (a:RF):(a.1,(a.2.1,(a.2.2.1,a.2.2.2)))=a:=(rfl)
theorem A3b {x y:Int} {k:Nat} (hy:(y.natAbs:Int)<B k) (h0:y≠0):(((Int.gcd x y:Nat):Int).natAbs:Int)<B k:=by
 rw[Int.natAbs_natCast];have:Int.gcd x y<=y.natAbs:=Nat.le_of_dvd (by omega) (Nat.gcd_dvd_right ..);omega
theorem A6C {x y:Int} (h0:y≠0):((Int.gcd x y:Nat):Int)≠0:=by
 have : 0<Int.gcd x y:=Nat.gcd_pos_of_pos_right _ (by omega);omega
theorem H0 {x:Int} {k:Nat} (hk:k<=1000000) (h:(x.natAbs:Int)<B k):AH (big x).2:=by
 have:=Aw.2 h; unfold big AH; dsimp only; omega
theorem QA (x:Int) (s:Bool):(lim (val (big x).2).toNat,s&&decide ((val (big x).2).toNat≠0))=(lim x.natAbs,s&&decide (x≠0)):=by
 unfold big;simp only[AE,zc4]
 congr 2
 exact decide_eq_decide.2 (by omega)
theorem Wz {x:Int} {k:Nat} (hk:k<=1000000) (h:(x.natAbs:Int)<B k):EW (big x)=some (big (-x)):=by
 unfold EW;rw[Iw (show LB (big x).2 from AN _) (H0 hk h),QA];simp only[za0]
 congr 1
 unfold big;simp only;refine Prod.ext ?_ (by simp)
 simp only;by_cases h0:x<0
 ·rw[decide_eq_true h0]; simp; omega
 ·rw[decide_eq_false h0]; simp only[Bool.not_false,ze2]; exact decide_eq_decide.2 (by omega)
theorem Y2 {x:Int} {k:Nat} (hk:k<=1000000) (h:(x.natAbs:Int)<B k):GK (big x)=some (big (-x)):=by
 unfold GK;rw[F5 (show LB (big x).2 from AN _) (H0 hk h),QA];simp only[za0]
 congr 1
 unfold big;simp only;refine Prod.ext ?_ (by simp)
 simp only;by_cases h0:x<0
 ·rw[decide_eq_true h0]; simp; omega
 ·rw[decide_eq_false h0]; simp only[Bool.not_false,ze2]; exact decide_eq_decide.2 (by omega)
theorem A25 {x:Int} {k:Nat} (hk:k<=1000000) (h:(x.natAbs:Int)<B k):Bj (big x).1 (big x).2=some ((big x).2,(big x).1):=by
 rw[Iw (show LB (big x).2 from AN _) (H0 hk h),QA]
 congr 1
 unfold big;simp only;refine Prod.ext rfl ?_
 simp only;by_cases h0:x<0
 ·rw[decide_eq_true h0]; simp; omega
 ·rw[decide_eq_false h0]; rfl
theorem Y0 {n:Nat} {k:Nat} (hk:k<=1000000) (h:(n:Int)<B k):Bj false (big (n:Int)).2=some ((big (n:Int)).2,(big (n:Int)).1):=by
 have:=A25 (x:=(n:Int)) hk (CB h)
 rwa [show (big (n:Int)).1=false by rw[GZ]] at this ⊢
theorem As5 {x:Int} {k:Nat} (hk:k<=1000000) (h:(x.natAbs:Int)<B k):Bs (big x).1 (big x).2=some ((big x).2,(big x).1):=by
 rw[F5 (show LB (big x).2 from AN _) (H0 hk h),QA]
 congr 1
 unfold big;simp only;refine Prod.ext rfl ?_
 simp only;by_cases h0:x<0
 ·rw[decide_eq_true h0]; simp; omega
 ·rw[decide_eq_false h0]; rfl
theorem Az1 {n:Nat} {k:Nat} (hk:k<=1000000) (h:(n:Int)<B k):Bs false (big (n:Int)).2=some ((big (n:Int)).2,(big (n:Int)).1):=by
 have:=As5 (x:=(n:Int)) hk (CB h)
 rwa [show (big (n:Int)).1=false by rw[GZ]] at this ⊢
theorem AD1 {x y:Int} {k:Nat} (hk:k<=90000) (hx:(x.natAbs:Int)<B k) (hy:(y.natAbs:Int)<B k) (h0:y≠0):H7 (big x) (big y)=some (rqF (Rat.divInt x y)):=by
 obtain ⟨p1,p2⟩:=Nj (x:=x) h0;have hg:=A3b (x:=x) hy h0;have hg0:=A6C (x:=x) h0;unfold H7;simp only[A4,AB2 hk hx hy,za0];rw[show (big y).1=decide (y<0) from rfl];by_cases hn:y<0
 ·rw[if_pos hn] at p1 p2;rw[decide_eq_true hn];simp only[cond_true,Wz (show k<=1000000 by omega) hg,za0,za8,Mu hk hx (A8H hg) (by omega),Mu hk hy (A8H hg) (by omega),p1,p2];rfl
 ·rw[if_neg hn] at p1 p2;rw[decide_eq_false hn];simp only[cond_false,za0,za8,Mu hk hx hg hg0,Mu hk hy hg hg0,p1,p2];rfl
theorem Ad9 (q:Rat):(q.den:Int)≠0:=by have:=q.den_nz; omega
theorem Nv (p q:Rat):(p.den:Int)*(q.den:Int)≠0:=fun h=>by rcases Int.mul_eq_zero.1 h with h | h <;> exact Ad9 _ h
theorem A02 {x y:Int} {k:Nat} (hk:k<=1000000) (hx:(x.natAbs:Int)<B k) (hy:(y.natAbs:Int)<B k):Ht (big x) (big y)=some (CZ x y):=by
 have lx:=GQ hx hk;have ly:=GQ hy hk;have e1:=Q9 (a:=x.natAbs) (b:=y.natAbs) (by unfold AH; omega) (by unfold AH; omega);have e2:=Q9 (a:=y.natAbs) (b:=x.natAbs) (by unfold AH; omega) (by unfold AH; omega);unfold Ht;rw[show (big x).1=decide (x<0) from rfl,show (big y).1=decide (y<0) from rfl,show (big x).2=lim x.natAbs from rfl,show (big y).2=lim y.natAbs from rfl,e1,e2];by_cases h1:x<0
 ·by_cases h2:y<0
  ·rw[decide_eq_true h1,decide_eq_true h2];simp only[cond_true,cond_false,Bool.not_true,za0]
   congr 1
   rcases B9 x y with ⟨e,h⟩ | ⟨e,h⟩ | ⟨e,h⟩
   ·rw[e]; exact Ea (by omega)
   ·rw[e]; exact Gb (by omega)
   ·rw[e,h]; exact QZ _
  ·rw[decide_eq_true h1,decide_eq_false h2,Ea (show x<y by omega)]; rfl
 ·by_cases h2:y<0
  ·rw[decide_eq_false h1,decide_eq_true h2,Gb (show y<x by omega)]; rfl
  ·rw[decide_eq_false h1,decide_eq_false h2];simp only[cond_true,cond_false,Bool.not_false,za0]
   congr 1
   rcases B9 x y with ⟨e,h⟩ | ⟨e,h⟩ | ⟨e,h⟩
   ·rw[e]; exact Ea (by omega)
   ·rw[e]; exact Gb (by omega)
   ·rw[e,h]; exact QZ _
section
variable {p q:Rat} {k:Nat} (hk:k<=20000) (hp:Sz k p) (hq:Sz k q)
include hk hp hq
theorem JQ:CD (rqF p) (rqF q)=some (rqF (p + q)):=by
 obtain ⟨r1,a1,b1⟩:=DW (k:=k) (by omega) hp.1 (CB hq.2);obtain ⟨r2,a2,b2⟩:=DW (k:=k) (by omega) hq.1 (CB hp.2);obtain ⟨r3,a3,b3⟩:=DW (k:=k) (by omega) (CB hp.2) (CB hq.2);unfold CD;simp only[Yo,An3,Rh,a1,a2,a3,b1,b2,b3,za0];rw[At2 (k:=k + k) (by omega) (I3 hp.1 (CB hq.2)) (I3 hq.1 (CB hp.2))];simp only[za0,A4];rw[AD1 (k:=k + k + 1) (by omega) (WG hp hq) (upB (I3 (CB hp.2) (CB hq.2)) (by omega)) (Nv p q),<-A6L];rfl
theorem Ii:Cj (rqF p) (rqF q)=some (rqF (p*q)):=by
 obtain ⟨r1,a1,b1⟩:=DW (k:=k) (by omega) hp.1 hq.1;obtain ⟨r3,a3,b3⟩:=DW (k:=k) (by omega) (CB hp.2) (CB hq.2);unfold Cj;simp only[Yo,An3,Rh,a1,a3,b1,b3,za0];rw[AD1 (k:=k + k) (by omega) (I3 hp.1 hq.1) (I3 (CB hp.2) (CB hq.2)) (Nv p q),<-A8x];rfl
theorem VU (h0:q≠0):EZ (rqF p) (rqF q)=some (rqF (p/q)):=by
 obtain ⟨r1,a1,b1⟩:=DW (k:=k) (by omega) hp.1 (CB hq.2);obtain ⟨r3,a3,b3⟩:=DW (k:=k) (by omega) (CB hp.2) hq.1;unfold EZ;simp only[Yo,An3,Rh,a1,a3,b1,b3,za0];rw[AD1 (k:=k + k) (by omega) (I3 hp.1 (CB hq.2)) (I3 (CB hp.2) hq.1) (by
  intro h;rcases Int.mul_eq_zero.1 h with h | h
  ·exact Ad9 _ h
  ·exact h0 (Rat.num_eq_zero.1 h)),<-A6S]
 rfl
theorem AK9:Fa (rqF p) (rqF q)=some (TR p q):=by
 obtain ⟨r1,a1,b1⟩:=DW (k:=k) (by omega) hp.1 (CB hq.2);obtain ⟨r2,a2,b2⟩:=DW (k:=k) (by omega) hq.1 (CB hp.2);unfold Fa;simp only[Yo,An3,Rh,a1,a2,b1,b2,za0];rw[UP (k:=k + k) (by omega) (I3 hp.1 (CB hq.2)) (I3 hq.1 (CB hp.2)),A3H];rfl
theorem EV:CP (rqF p) (rqF q)=some (decide (p<q)):=by
 unfold CP;simp only[A2,AK9 hk hp hq,za0]
 congr 1
 exact decide_eq_decide.2 A3W
theorem NU:GU (rqF p) (rqF q)=some (TR p q):=by
 unfold GU;simp only[Yo,An3,Rh,Jo (k:=k) (by omega) hp.1 (CB hq.2),Jo (k:=k) (by omega) hq.1 (CB hp.2),za0,A4];rw[A02 (k:=k + k) (by omega) (I3 hp.1 (CB hq.2)) (I3 hq.1 (CB hp.2)),A3H];rfl
end
theorem A34 {q:Rat} {k:Nat} (hk:k<=1000000) (hq:Sz k q):IV (rqF q)=some (rqF (-q)):=by
 unfold IV;simp only[Yo,Wz hk hq.1,za0];rw[show (rqF q).2.2.2=(big (q.den:Int)).2 from rfl,Y0 hk hq.2];rfl
theorem Ra {p q:Rat} {k:Nat} (hk:k<=20000) (hp:Sz k p) (hq:Sz k q):D7 (rqF p) (rqF q)=some (rqF (p-q)):=by
 unfold D7;simp only[A2,A34 (k:=k) (by omega) hq,za0,JQ hk hp (A2I hq)];rw[Rat.sub_eq_add_neg]
theorem A2y:Dj (1:Int)=some (big 1):=Y3 (by omega) (by omega)
theorem AX8:DN (1:Int)=some (big 1):=US (by omega) (by omega)
theorem Ip {n:Int} (h1 : -9223372036854775808<=n) (h2:n<=9223372036854775807):Bc n=some (rqF (n:Rat)):=by
 unfold Bc;simp only[Y3 h1 h2,A2y,za0];rfl
theorem QP {n:Int} (h1 : -9223372036854775808<=n) (h2:n<=9223372036854775807):Cx n=some (rqF (n:Rat)):=by
 unfold Cx;simp only[US h1 h2,AX8,za0];rfl
theorem AT8 {k:Nat} (hk : 1<=k):(((1:Int).natAbs:Nat):Int)<B k:=by
 have:=Kf hk;rw[B1] at this;omega
theorem AQ5 {q:Rat} {k:Nat} (hk:k<=80000) (h1 : 1<=k) (hq:Sz k q):EA (rqF q)=some (big q.floor):=by
 have hd:=q.den_pos;have hf:=Xp (x:=q.num) (d:=(q.den:Int)) (by omega);rw[<-Rat.floor_def] at hf;have ht:=upB (m:=k + 1) (k:=k) (x:=q.num.tdiv (q.den:Int)) (by have:=QC q.num (q.den:Int); have:=hq.1; omega) (by omega);unfold EA FB;simp only[Yo,An3,Rh,Mu (k:=k) (by omega) hq.1 (CB hq.2) (Ad9 q),za0,A4,AM2];by_cases h:q.num.tmod (q.den:Int)<0
 ·rw[if_pos h] at hf;rw[Ea h];simp only[show decide ((-1:Int)<0)=true from rfl,cond_true,A2y,za0,A4];unfold Lq;simp only[A4,Wz (k:=k + 1) (by omega) (AT8 (by omega)),za0];rw[At2 (k:=k + 1) (by omega) ht (by simpa using AT8 (k:=k + 1) (by omega)),<-hf];simp only[za0,A4,Int.sub_eq_add_neg]
 ·rw[if_neg h] at hf;have:decide (CZ (q.num.tmod (q.den:Int)) 0<0)=false:=decide_eq_false (by rcases B9 (q.num.tmod (q.den:Int)) 0 with ⟨e,g⟩ | ⟨e,g⟩ | ⟨e,g⟩ <;> omega);rw[this,<-hf];rfl
def BrF (a:RF):Prop:=AH a.2.1/\AH a.2.2.2
def toQ (a:RF):(Bool×List Int)×(Bool×List Int):=((a.1,a.2.1),(a.2.2.1,a.2.2.2))
theorem AU7 {q:Rat} {k:Nat} (hk:k<=1000000) (h:Sz k q):BrF (rqF q):=⟨H0 hk h.1,H0 hk (CB h.2)⟩
theorem A8W {y:Int}:(!(big y).1 && !(big y).2.isEmpty)=decide (0<y):=by
 unfold big;simp only;have:=Ms y.natAbs;rw[this];by_cases h : 0<y
 ·rw[decide_eq_true h,decide_eq_false (by omega),decide_eq_true (by omega)]; rfl
 ·rw[decide_eq_false h];by_cases h0:y=0
  ·subst h0; rfl
  ·rw[decide_eq_true (show y<0 by omega)]; rfl
theorem As0 {x y:Int} (hx:(x.natAbs:Int)<B 40) (hy:(y.natAbs:Int)<B 40):Cm (big x,big y)=(decide (0<y)&&decide (Int.gcd x y=1)):=by
 unfold Cm;simp only[JP hx,JP hy,ze2,A8W];unfold big;simp only[AE,zc4];rfl
theorem Ak1 {g:Nat}:(CZ (g:Int) 1==0)=decide (g=1):=by
 rcases B9 (g:Int) 1 with ⟨e,h⟩ | ⟨e,h⟩ | ⟨e,h⟩
 ·rw[e,decide_eq_false (by omega)]; rfl
 ·rw[e,decide_eq_false (by omega)]; rfl
 ·rw[e,decide_eq_true (by omega)]; rfl
theorem AN1 (y:Int):((((big y).2.length:Nat):Int)==(0:Int))=decide (y=0):=by
 rw[Bool.eq_iff_iff];simp only[beq_iff_eq,decide_eq_true_eq];unfold big;constructor
 ·intro h;have:=Jt.1 (zb7 (show (lim y.natAbs).length=0 by simpa using h));omega
 ·rintro rfl;rw[show (0:Int).natAbs=0 from rfl,Cr]; rfl
theorem A4F {a:RF} (h:BrF a):IB a=some (Cm (toQ a)):=by
 obtain ⟨n,nl,d,dl⟩:=a;unfold IB toQ;simp only;have hl:Ic [(n,nl),(d,dl)]=some (GT (n,nl)&&GT (d,dl)):=by
  rw[A6v (by simp) (by intro b hb; simp at hb; rcases hb with rfl | rfl; exact h.1; exact h.2)];simp
 rw[hl];simp only[za0];cases hg:GT (n,nl)&&GT (d,dl) with
 | false=>unfold Cm; simp only[hg,Bool.false_and,cond_false]
 | true =>
  rw[za2] at hg;obtain ⟨x,hx,e1⟩:=H8.1 hg.1;obtain ⟨y,hy,e2⟩:=H8.1 hg.2;simp only[e1,e2,cond_true,AM2,za0,As0 hx hy];rcases B9 y 0 with ⟨e,g⟩ | ⟨e,g⟩ | ⟨e,g⟩
  ·rw[e,decide_eq_false (show ¬ 0<y by omega)]; rfl
  ·rw[e,decide_eq_true (show 0<y by omega)];simp only[show decide ((1:Int)>0)=true from rfl,cond_true,AB2 (k:=40) (by omega) hx hy,A2y,za0,A4,ze2];rw[UP (k:=40) (by omega) (A3b hy (by omega)) (AT8 (by omega))];simp only[za0,Ak1]
  ·rw[e,decide_eq_false (show ¬ 0<y by omega)]; rfl
theorem Av4 {a:RF} (h:BrF a):GF a=some (Cm (toQ a)):=by
 obtain ⟨n,nl,d,dl⟩:=a;unfold GF toQ;simp only;rw[VC h.1];simp only[za0];cases h1:GT (n,nl) with
 | false=>unfold Cm; simp only[h1,Bool.false_and,Bool.not_false,cond_true]
 | true =>
  simp only[Bool.not_true,cond_false];rw[VC h.2];simp only[za0];cases h2:GT (d,dl) with
  | false=>unfold Cm; simp only[h1,h2,Bool.and_false,Bool.false_and,Bool.not_false,cond_true]
  | true =>
   obtain ⟨x,hx,e1⟩:=H8.1 h1;obtain ⟨y,hy,e2⟩:=H8.1 h2;have f1:nl=(big x).2:=congrArg Prod.snd e1;have f2:dl=(big y).2:=congrArg Prod.snd e2;have f3:d=(big y).1:=congrArg Prod.fst e2;simp only[Bool.not_true,cond_false];rw[e1,e2,As0 hx hy,f3,show (big y).1=decide (y<0) from rfl];by_cases hy0:y<0
   ·rw[decide_eq_true hy0,decide_eq_false (show ¬ 0<y by omega)]; rfl
   ·rw[decide_eq_false hy0];simp only[cond_false];rw[f2,AN1];by_cases h0:y=0
    ·rw[decide_eq_true h0,decide_eq_false (show ¬ 0<y by omega)]; rfl
    ·rw[decide_eq_false h0,decide_eq_true (show 0<y by omega)];simp only[cond_false];rw[f1,A3I (k:=40) (by omega) hx hy];simp only[za0];have hl1:([1]:List Int)=lim 1:=by rw[Af5 (by omega),Cr]; rfl
     have hgb:=Aw.2 (show ((Int.gcd x y:Nat):Int)<B 40 by have:=A3b (x:=x) hy h0; rwa [Int.natAbs_natCast] at this);rw[hl1,Q9 (by unfold AH; omega) (by rw[<-hl1]; unfold AH; simp)];simp only[za0,Ak1,ze2];exact congrArg some Ak1
theorem As4 {l:List ((Bool×List Int)×(Bool×List Int))} (hl:l.length<=1000) (hb:∀ a∈l,AH a.1.2/\AH a.2.2):Fv l=some (l.all Cm):=by
 unfold Fv;obtain ⟨h1,h2⟩:=A6r (l:=l) (body:=fun (s:(List ((Bool×(List Int))×(Bool×(List Int))))×(Int×Int))=>Ik s.1 s.2.1 s.2.2)
  (st:=fun k (_:Unit)=>(l,((l.length:Int),(k:Int)))) (step:=fun _ a=>if Cm a then .inr () else .inl (.inr false)) (fin:=fun _=>.inl ()) (I:=fun _ _=>True)
  (by
   rintro k b a hk _;have hkl:=Fc hk;unfold Ik;have ha:=hb a (za4 hk);simp only[decide_eq_true (show (k:Int)<(l.length:Int) by omega),cond_true,Ao,hk,za0];rw[A4F (a:=(a.1.1,(a.1.2,(a.2.1,a.2.2)))) ha];simp only[za0,toQ,A4];cases hg:Cm a with
   | true=>left; exact ⟨(),by simp,by simp only[Bool.not_true,cond_false]; rw[Aj (by omega) (by omega)]; rfl,trivial⟩
   | false=>right; exact ⟨.inr false,by simp,by simp only[Bool.not_false,cond_true]⟩)
  (by
   rintro b _;unfold Ik;simp) () trivial
 rw[show ((0:Nat):Int)=0 from rfl] at h1;rw[h1];have key:∀ (m:List ((Bool×List Int)×(Bool×List Int))),X3 (ρ:=Unit ⊕ Bool) (fun (_:Unit) a=>if Cm a then .inr () else .inl (.inr false)) () m=if m.all Cm then .inr () else .inl (.inr false):=by
  intro m
  induction m with
  | nil=>rfl
  | cons a m ih =>
   unfold X3;rw[zc9];cases hg:Cm a with
   | true=>simp only[if_true,ze2]; exact ih
   | false=>simp
 rw[key];cases l.all Cm <;> rfl
def Rt (q:Rat):RF×Bool:=if Sz 40 q then (rqF q,true) else (zF,false)
theorem A38 {q:Rat} {n:Nat}:BR (rqF q) (n:Int)=some (decide (Sz n q)):=by
 unfold BR;have e1:((((rqF q).2.1.length:Nat):Int)<=(n:Int))↔((q.num.natAbs:Int)<B n):=by rw[<-Aw]; exact Int.ofNat_le
 have e2:((((rqF q).2.2.2.length:Nat):Int)<=(n:Int))↔((q.den:Int)<B n):=by
  have:(rqF q).2.2.2=lim q.den:=by show (big (q.den:Int)).2=_; rw[GZ]
  rw[this,<-Aw]; exact Int.ofNat_le
 unfold Sz;by_cases h1:(q.num.natAbs:Int)<B n
 ·rw[decide_eq_true (e1.2 h1)];simp only[cond_true,decide_eq_decide.2 e2,h1,true_and]
 ·rw[decide_eq_false (fun h=>h1 (e1.1 h))];simp[h1]
theorem Tk (q:Rat):DU (rqF q)=some (Rt q):=by
 unfold DU Rt;simp only[A2];rw[show (40:Int)=((40:Nat):Int) from rfl,A38];by_cases h:Sz 40 q
 ·simp[h]
 ·simp[h]; rfl
end
section
open Go
theorem A3N {x y:Int} {k:Nat} (hk:k<=1000000) (hx:(x.natAbs:Int)<B k) (hy:(y.natAbs:Int)<B k):JN (big x) (big y)=some (big (x + y)):=by
 have lx:=GQ hx hk;have ly:=GQ hy hk;unfold JN big;simp only;by_cases hs:decide (x<0)=decide (y<0)
 ·rw[hs,beq_self_eq_true];obtain ⟨r,e1,e2,e3,e4,_⟩:=AH0 (AN x.natAbs) (AN y.natAbs) (by omega) (by omega);rw[AE,AE] at e3;simp only[cond_true,e1,za0];rw[F5 e2 (by unfold AH; omega)];simp only[za0];have hv:(val r).toNat=(x + y).natAbs:=by
   by_cases h1:x<0
   ·have:y<0:=by simpa[h1] using hs
    omega
   ·have:¬y<0:=by simpa[h1] using hs
    omega
  rw[hv]
  congr 2
  by_cases h2:y<0
  ·have h1:x<0:=by simpa[h2] using hs
   rw[decide_eq_true h2,decide_eq_true (show x + y<0 by omega),decide_eq_true (show (x + y).natAbs≠0 by omega)]; rfl
  ·have h1:¬x<0:=by simpa[h2] using hs
   rw[decide_eq_false h2,decide_eq_false (show ¬x + y<0 by omega)]; rfl
 ·have hb:(decide (x<0)==decide (y<0))=false:=by simpa using hs
  rw[hb];simp only[cond_false];rw[Q9 (by unfold AH; omega) (by unfold AH; omega)];simp only[za0];have hxy:(x<0/\¬y<0)\/(¬x<0/\y<0):=by
   by_cases h1:x<0 <;> by_cases h2:y<0 <;> simp[h1,h2] at hs ⊢
  rcases zd9 x.natAbs y.natAbs with hlt | hge
  ·rw[Ea (by omega),decide_eq_false (by omega)];simp only[cond_false];have hl:(lim x.natAbs).length<=(lim y.natAbs).length:=Aw.2 (by have:=Aw.1 (za7 (lim y.natAbs).length); omega);rw[Ui (AN _) (AN _) hl (by omega) (by rw[AE,AE]; omega)];simp only[za0,AE];have e:((y.natAbs:Int)-(x.natAbs:Int)).toNat=(x + y).natAbs:=by omega
   rw[e,F5 (AN _) (by
    have:(lim (x + y).natAbs).length<=(lim y.natAbs).length:=Aw.2 (by have:=Aw.1 (za7 (lim y.natAbs).length); omega);unfold AH; omega)]
   simp only[za0,AE,zc4]
   congr 2
   by_cases h2:y<0
   ·rw[decide_eq_true h2,decide_eq_true (show x + y<0 by omega),decide_eq_true (show (x + y).natAbs≠0 by omega)]; rfl
   ·rw[decide_eq_false h2,decide_eq_false (show ¬x + y<0 by omega)]; rfl
  ·have hc:CZ (x.natAbs:Int) (y.natAbs:Int)>=0:=by unfold CZ; rw[if_neg (by omega)]; split <;> omega
   rw[decide_eq_true hc];simp only[cond_true];have hl:(lim y.natAbs).length<=(lim x.natAbs).length:=Aw.2 (by have:=Aw.1 (za7 (lim x.natAbs).length); omega);rw[Ui (AN _) (AN _) hl (by omega) (by rw[AE,AE]; omega)];simp only[za0,AE];have e:((x.natAbs:Int)-(y.natAbs:Int)).toNat=(x + y).natAbs:=by omega
   rw[e,F5 (AN _) (by
    have:(lim (x + y).natAbs).length<=(lim x.natAbs).length:=Aw.2 (by have:=Aw.1 (za7 (lim x.natAbs).length); omega);unfold AH; omega)]
   simp only[za0,AE,zc4]
   congr 2
   by_cases h2:x<0
   ·rw[decide_eq_true h2];by_cases h3:x + y<0
    ·rw[decide_eq_true h3,decide_eq_true (show (x + y).natAbs≠0 by omega)]; rfl
    ·rw[decide_eq_false h3,decide_eq_false (show ¬(x + y).natAbs≠0 by omega)]; rfl
   ·rw[decide_eq_false h2,decide_eq_false (show ¬x + y<0 by omega)]; rfl
theorem Tn {x y : Int} {k : Nat} (hk : k <= 90000) (hx : (x.natAbs : Int) < B k) (hy : (y.natAbs : Int) < B k) (h0 : y ≠ 0) : Fp (big x) (big y) = some (rqF (Rat.divInt x y)) := by
  obtain ⟨p1, p2⟩ := Nj (x := x) h0;have hg := A3b (x := x) hy h0;have hg0 := A6C (x := x) h0;have hl : (lim (Int.gcd x y)).length <= k := Aw.2 (by rwa [Int.natAbs_natCast] at hg);unfold Fp;rw [A3I hk hx hy];simp only [za0];rw [F5 (AN _) (by unfold AH; omega), AE, zc4];simp only [za0, Bool.false_and];rw [<- GZ];simp only [A4, AI3 hk hx hg hg0, AI3 hk hy hg hg0, za0];have t1 := QC x (Int.gcd x y : Nat);have t2 := QC y (Int.gcd x y : Nat);obtain ⟨c, hc⟩ : ((Int.gcd x y : Nat) : Int) ∣ y := Int.gcd_dvd_right ..
  have e2 : y.tdiv (Int.gcd x y : Nat) = c := by conv => lhs; lhs; rw [hc]
                                                 exact Int.mul_tdiv_cancel_left _ hg0
  have hsg : (y < 0) ↔ c < 0 := by
    have hp : (0 : Int) < (Int.gcd x y : Nat) := by omega
    generalize ((Int.gcd x y : Nat) : Int) = g at *
    constructor
    · intro h
      rcases Int.lt_or_le c 0 with e | e
      · exact e
      · have := ze8 (ze3 hp) e; omega
    · intro h; have := Int.mul_neg_of_pos_of_neg hp h; omega
  rw [show (big (y.tdiv (Int.gcd x y : Nat))).1 = decide (y.tdiv (Int.gcd x y : Nat) < 0) from rfl];by_cases hn : y < 0
  · rw [if_pos hn, Int.tdiv_neg] at p1 p2
    rw [decide_eq_true (by rw [e2]; exact hsg.1 hn)];simp only [cond_true];rw [Y2 (show k <= 1000000 by omega) (by omega), Y2 (show k <= 1000000 by omega) (by omega)];simp only [za0, p1, p2];rfl
  · rw [if_neg hn] at p1 p2
    rw [decide_eq_false (by rw [e2]; exact fun h => hn (hsg.2 h))];simp only [cond_false, p1, p2];rfl
theorem A9w {q:Rat} {k:Nat} (hk:k<=1000000) (hq:Sz k q):MG (rqF q)=some (rqF (-q)):=by
 unfold MG;simp only[Yo,Y2 hk hq.1,za0];rfl
section
variable {p q:Rat} {k:Nat} (hk:k<=20000) (hp:Sz k p) (hq:Sz k q)
include hk hp hq
theorem U2:Fy (rqF p) (rqF q)=some (rqF (p + q)):=by
 unfold Fy;simp only[Yo,An3,Rh,Jo (k:=k) (by omega) hp.1 (CB hq.2),Jo (k:=k) (by omega) hq.1 (CB hp.2),Jo (k:=k) (by omega) (CB hp.2) (CB hq.2),za0,A4];rw[A3N (k:=k + k) (by omega) (I3 hp.1 (CB hq.2)) (I3 hq.1 (CB hp.2))];simp only[za0,A4];rw[Tn (k:=k + k + 1) (by omega) (WG hp hq) (upB (I3 (CB hp.2) (CB hq.2)) (by omega)) (Nv p q),<-A6L];rfl
theorem YW:GC (rqF p) (rqF q)=some (rqF (p*q)):=by
 unfold GC;simp only[Yo,An3,Rh,Jo (k:=k) (by omega) hp.1 hq.1,Jo (k:=k) (by omega) (CB hp.2) (CB hq.2),za0,A4];rw[Tn (k:=k + k) (by omega) (I3 hp.1 hq.1) (I3 (CB hp.2) (CB hq.2)) (Nv p q),<-A8x];rfl
theorem A3s (h0:q≠0):JD (rqF p) (rqF q)=some (rqF (p/q)):=by
 unfold JD;simp only[Yo,An3,Rh,Jo (k:=k) (by omega) hp.1 (CB hq.2),Jo (k:=k) (by omega) (CB hp.2) hq.1,za0,A4];rw[Tn (k:=k + k) (by omega) (I3 hp.1 (CB hq.2)) (I3 (CB hp.2) hq.1) (by
  intro h;rcases Int.mul_eq_zero.1 h with h | h
  ·exact Ad9 _ h
  ·exact h0 (Rat.num_eq_zero.1 h)),<-A6S]
 rfl
end
theorem YL {p q:Rat} {k:Nat} (hk:k<=20000) (hp:Sz k p) (hq:Sz k q):Gs (rqF p) (rqF q)=some (rqF (p-q)):=by
 unfold Gs;simp only[A2,A9w (k:=k) (by omega) hq,za0,U2 hk hp (A2I hq)];rw[Rat.sub_eq_add_neg]
theorem A87 {x y:Int} {k:Nat} (hk:k<=900000) (hx:(x.natAbs:Int)<B k) (hy:(y.natAbs:Int)<B k):Ml (big x) (big y)=some (big (x-y)):=by
 unfold Ml;simp only[A4,Y2 (k:=k) (by omega) hy,za0];rw[A3N (k:=k) (by omega) hx (A8H hy)];simp only[za0,A4,Int.sub_eq_add_neg]
theorem A5K {q:Rat} {k:Nat} (hk:k<=80000) (h1 : 1<=k) (hq:Sz k q):IM (rqF q)=some (big q.floor):=by
 have hd:=q.den_pos;have hf:=Xp (x:=q.num) (d:=(q.den:Int)) (by omega);rw[<-Rat.floor_def] at hf;have ht:=upB (m:=k + 1) (k:=k) (x:=q.num.tdiv (q.den:Int)) (by have:=QC q.num (q.den:Int); have:=hq.1; omega) (by omega);unfold IM;simp only[Yo,An3,Rh,AI3 (k:=k) (by omega) hq.1 (CB hq.2) (Ad9 q),za0,A4];rw[show (big (q.num.tmod (q.den:Int))).1=decide (q.num.tmod (q.den:Int)<0) from rfl];by_cases h:q.num.tmod (q.den:Int)<0
 ·rw[if_pos h] at hf;rw[decide_eq_true h];simp only[cond_true,AX8,za0,A4];rw[A87 (k:=k + 1) (by omega) ht (AT8 (by omega)),<-hf];rfl
 ·rw[if_neg h] at hf;rw[decide_eq_false h,<-hf];rfl
theorem T8 {q:Rat} {k:Nat} (hk:k<=1000000) (hq:Sz k q):Ed (rqF q)=some (Rt q):=by
 unfold Ed Rt;have e1:((((rqF q).2.1.length:Nat):Int)>40)↔¬((q.num.natAbs:Int)<B 40):=by
  rw[<-Aw];show ((((lim q.num.natAbs).length:Nat):Int)>40)↔_;omega
 have e2:((((rqF q).2.2.2.length:Nat):Int)>40)↔¬((q.den:Int)<B 40):=by
  rw[<-Aw];have:(rqF q).2.2.2=lim q.den:=by show (big (q.den:Int)).2=_; rw[GZ]
  rw[this];omega
 by_cases h1:(q.num.natAbs:Int)<B 40
 ·rw[decide_eq_false (fun h=>e1.1 h h1)];by_cases h2:(q.den:Int)<B 40
  ·rw[decide_eq_false (fun h=>e2.1 h h2),if_pos ⟨h1,h2⟩];simp only[cond_false];rw[show (rqF q).1=(big q.num).1 from rfl,show (rqF q).2.1=(big q.num).2 from rfl,show (rqF q).2.2.2=(big (q.den:Int)).2 from rfl,As5 (k:=40) (by omega) h1,Az1 (k:=40) (by omega) h2];rfl
  ·rw[decide_eq_true (e2.2 h2),if_neg (fun h=>h2 h.2)]; rfl
 ·rw[decide_eq_true (e1.2 h1),if_neg (fun h=>h1 h.1)]; rfl
theorem JI {q:Rat} (h:Sz 40 q):Rt q=(rqF q,true):=if_pos h
theorem QK {q:Rat} (h:¬Sz 40 q):Rt q=(zF,false):=if_neg h
section
variable {p q:Rat} (hp:Sz 40 p) (hq:Sz 40 q)
include hp hq
end
section
variable {a b:RF} (ha:BrF a) (hb:BrF b) (h:(Cm (toQ a)&&Cm (toQ b))=false)
include ha hb h
end
end
section
open Go
def ShF (a:RF):Prop:=a.2.1.length<=100/\a.2.2.2.length<=100
theorem ShF.br {a:RF} (h:ShF a):BrF a:=by unfold ShF at h; unfold BrF AH; omega
end
section
open Go
end
section
open Go
end
section
open Go
abbrev Q2:=Rat×Rat
def crd (b:Bool) (p:Q2):Rat:=if b then p.2 else p.1
def ins (b high:Bool) (s:Rat) (p:Q2):Bool:=if high then decide (s<=crd b p) else decide (crd b p<=s)
def Am6 (a c:Q2) (t:Rat):Q2:=(a.1 + t*(c.1-a.1),a.2 + t*(c.2-a.2))
def AO4 (b:Bool) (s:Rat) (a c:Q2):Q2:=Am6 a c ((s-crd b a)/(crd b c-crd b a))
def Rq (b high:Bool) (s:Rat) (a c:Q2):List Q2:=(if ins b high s a=ins b high s c then [] else [AO4 b s a c])++(if ins b high s c then [c] else [])
def C3 (b high:Bool) (s:Rat):Q2->List Q2->List Q2
 | _,[]=>[]
 | a,c::l=>Rq b high s a c++C3 b high s c l
def ME (l:List Q2):Q2:=l.getLast?.getD (0,0)
def F6 (b high:Bool) (s:Rat) (l:List Q2):List Q2:=C3 b high s (ME l) l
def crs (p q:Q2):Rat:=p.1*q.2-q.1*p.2
def chn (f:Q2->Q2->Rat):Q2->List Q2->Rat
 | _,[]=>0
 | a,c::l=>f a c + chn f c l
def Mf (l:List Q2):Rat:=chn crs (ME l) l
theorem Bc9 {b:Bool} {s:Rat} {a c:Q2} (h:crd b c≠crd b a):crd b (AO4 b s a c)=s:=by
 have hd:crd b c-crd b a≠0:=fun e=>h (by grind)
 have hm:=Rat.div_mul_cancel hd (a:=s-crd b a);unfold AO4 Am6;cases b with
 | true =>
  unfold crd at *
  simp at *
  rw[hm]; grind
 | false =>
  unfold crd at *
  simp at *
  rw[hm]; grind
theorem A16 {b high:Bool} {s:Rat} {a c:Q2} (h:ins b high s a≠ins b high s c):crd b c≠crd b a:=by
 intro e
 apply h
 unfold ins;rw[e]
theorem A7k {b:Bool} {s:Rat} {p:Q2}:ins b false s p=decide (crd b p<=s):=rfl
theorem A6d {b:Bool} {s:Rat} {p:Q2}:ins b true s p=decide (s<=crd b p):=rfl
def AV0:Q2->List Q2->Q2
 | a,[]=>a
 | _,c::l=>AV0 c l
theorem ZI (f:Q2->Q2->Rat):∀ (a:Q2) (l m:List Q2),chn f a (l++m)=chn f a l + chn f (AV0 a l) m
 | a,[],m=>by simp[chn,AV0,Rat.zero_add]
 | a,c::l,m=>by
  rw[List.cons_append,chn,chn,ZI f c l m,AV0,Rat.add_assoc]
theorem Ar4 (a:Q2):∀ (l:List Q2),l≠[]->AV0 a l=ME l
 | [],h=>absurd rfl h
 | [c],_=>rfl
 | c::d::l,_=>by
  rw[AV0,Ar4 c (d::l) (by simp)];unfold ME;rw[List.getLast?_cons_cons]
theorem A5i {l:List Q2} (h:l≠[]):ME l∈l:=by
 unfold ME;cases hl:l.getLast? with
 | none=>exact absurd (List.getLast?_eq_none_iff.1 hl) h
 | some x=>exact List.mem_of_getLast? hl
theorem A7B (f:Q2->Q2->Rat) (a:Q2) (l:List Q2) (c:Q2):chn f a (l ++ [c])=chn f a l + f (AV0 a l) c:=by
 rw[ZI]; simp only[chn]; grind
end
section
open Go
abbrev SF:=Bool×(List Int×(Bool×(List Int×(Bool×(List Int×(Bool×List Int))))))
abbrev RQ:=(Bool×List Int)×(Bool×List Int)
abbrev RPt:=RQ×RQ
def fl (x:RPt):SF:=(x.1.1.1,(x.1.1.2,(x.1.2.1,(x.1.2.2,(x.2.1.1,(x.2.1.2,x.2.2))))))
def un (s:SF):RPt:=(((s.1,s.2.1),(s.2.2.1,s.2.2.2.1)),((s.2.2.2.2.1,s.2.2.2.2.2.1),s.2.2.2.2.2.2))
def fx (x:RPt):RF:=(x.1.1.1,(x.1.1.2,x.1.2))
def fy (x:RPt):RF:=(x.2.1.1,(x.2.1.2,x.2.2))
theorem A5F (x:RPt):(x.1.1.1,(x.1.1.2,(x.1.2.1,(x.1.2.2,(x.2.1.1,(x.2.1.2,x.2.2))))))=fl x:=(rfl)
theorem A03 (s:SF):(((s.1,s.2.1),(s.2.2.1,s.2.2.2.1)),((s.2.2.2.2.1,s.2.2.2.2.2.1),s.2.2.2.2.2.2))=un s:=(rfl)
theorem A8Z (x:RPt):(x.1.1.1,(x.1.1.2,x.1.2))=fx x:=(rfl)
theorem A9h (x:RPt):(x.2.1.1,(x.2.1.2,x.2.2))=fy x:=(rfl)
theorem Za (x:RPt):un (fl x)=x:=(rfl)
theorem Sv (x:RPt):((fl x).1,((fl x).2.1,((fl x).2.2.1,(fl x).2.2.2.1)))=fx x:=(rfl)
theorem Te (x:RPt):(fl x).2.2.2.2=fy x:=(rfl)
def rp (p:Q2):RPt:=(rq p.1,rq p.2)
theorem Jg (p:Q2):fx (rp p)=rqF p.1:=(rfl)
theorem Jh (p:Q2):fy (rp p)=rqF p.2:=(rfl)
def shQ (n:Nat) (a:RF):Bool:=decide (a.2.1.length<=n)&&decide (a.2.2.2.length<=n)
def Gn (x:RPt):Bool:=(Cm x.1&&Cm x.2)&&(shQ 8 (fx x)&&shQ 8 (fy x))
def BrP (x:RPt):Prop:=BrF (fx x)/\BrF (fy x)
def SzP (k:Nat) (p:Q2):Prop:=Sz k p.1/\Sz k p.2
theorem SzP.mono {k m:Nat} {p:Q2} (h:SzP k p) (hkm:k<=m):SzP m p:=⟨h.1.mono hkm,h.2.mono hkm⟩
theorem XQ {q:Rat} {n:Nat} (hn:n<=100):shQ n (rqF q)=decide (Sz n q):=by
 unfold shQ;rw[<-Bool.decide_and];refine decide_eq_decide.2 ?_
 unfold Sz;have h1:=@Aw q.num.natAbs n;have h2:=@Aw q.den n;have e2:(rqF q).2.2.2=lim q.den:=by show (big (q.den:Int)).2=_; rw[GZ]
 rw[e2,<-h2,<-h1];rfl
theorem A15 (x:RPt):toQ (fx x)=x.1:=(rfl)
theorem A2r (x:RPt):toQ (fy x)=x.2:=(rfl)
theorem So {x:RPt}:Gn x=true↔∃ p,SzP 8 p/\x=rp p:=by
 constructor
 ·intro h;unfold Gn at h;simp only[za2] at h;obtain ⟨⟨h1,h2⟩,h3,h4⟩:=h;obtain ⟨a,ha,e1⟩:=Mz.1 h1;obtain ⟨c,hc,e2⟩:=Mz.1 h2;have exy:x=(rq a,rq c):=by rw[<-e1,<-e2]
  have ex:fx x=rqF a:=by rw[exy]; rfl
  have ey:fy x=rqF c:=by rw[exy]; rfl
  rw[ex,XQ (by omega)] at h3;rw[ey,XQ (by omega)] at h4;exact ⟨(a,c),⟨of_decide_eq_true h3,of_decide_eq_true h4⟩,by unfold rp; rw[<-e1,<-e2]⟩
 ·rintro ⟨p,hp,rfl⟩;unfold Gn;rw[Jg,Jh,XQ (by omega),XQ (by omega),decide_eq_true hp.1,decide_eq_true hp.2,Bool.and_true,Bool.and_true,za2];exact ⟨Tx (hp.1.mono (by omega)),Tx (hp.2.mono (by omega))⟩
def HL (l:List RPt):Bool:=decide (l.length<=40)&&l.all Gn
def SzR (ps:List Q2):Prop:=ps.length<=40/\∀ p∈ps,SzP 8 p
theorem A4V {l:List RPt}:HL l=true↔∃ ps:List Q2,SzR ps/\l=ps.map rp:=by
 unfold HL;rw[za2,decide_eq_true_eq];constructor
 ·rintro ⟨h1,h2⟩;have key:∀ l:List RPt,l.all Gn=true->∃ ps:List Q2,(∀ p∈ps,SzP 8 p)/\l=ps.map rp:=by
   intro l
   induction l with
   | nil=>intro _; exact ⟨[],by simp,rfl⟩
   | cons x l ih =>
    intro h;rw[zc9,za2] at h;obtain ⟨p,hp,e⟩:=So.1 h.1;obtain ⟨ps,hps,e2⟩:=ih h.2;refine ⟨p::ps,?_,by rw[zb8,<-e,<-e2]⟩
    intro q hq;rcases zc5.1 hq with rfl | hq
    ·exact hp
    ·exact hps q hq
  obtain ⟨ps,hps,e⟩:=key l h2;exact ⟨ps,⟨by rw[e,zd5] at h1; exact h1,hps⟩,e⟩
 ·rintro ⟨ps,⟨h1,h2⟩,rfl⟩;refine ⟨by rw[zd5]; exact h1,?_⟩
  rw[za5];intro x hx;obtain ⟨p,hp,rfl⟩:=zd4.1 hx;exact So.2 ⟨p,h2 p hp,rfl⟩
theorem Np (a:RF) (n:Nat):BR a (n:Int)=some (shQ n a):=by
 unfold BR shQ;by_cases h:a.2.1.length<=n
 ·rw[decide_eq_true (show ((a.2.1.length:Nat):Int)<=(n:Int) by omega),cT,decide_eq_true h,ze2]
  congr 1
  exact decide_eq_decide.2 (by omega)
 ·rw[decide_eq_false (show ¬((a.2.1.length:Nat):Int)<=(n:Int) by omega),cF,decide_eq_false h,Bool.false_and]
theorem A3u {x:RPt} (h:BrP x):FK (fl x) 8=some (Gn x):=by
 have hl:Fv [x.1,x.2]=some (Cm x.1&&Cm x.2):=by
  rw[As4 (by simp) (by
   intro a ha;simp at ha;rcases ha with rfl | rfl
   ·exact h.1
   ·exact h.2)]
  simp
 have e:((((fl x).1,(fl x).2.1),((fl x).2.2.1,(fl x).2.2.2.1)):RQ)=x.1:=rfl;have e':((((fl x).2.2.2.2.1,(fl x).2.2.2.2.2.1),(fl x).2.2.2.2.2.2):RQ)=x.2:=rfl;unfold FK Gn;simp only[A4];rw[e,e',hl,obs];have s1:=Np (fx x) 8;have s2:=Np (fy x) 8;rw[show ((8:Nat):Int)=8 from rfl] at s1 s2;cases hg:Cm x.1&&Cm x.2 with
 | false=>rfl
 | true =>
  rw[cT]
  try simp only[Sv,Te]
  rw[s1,obs,ze2];cases shQ 8 (fx x) with
  | false=>rfl
  | true=>rw[cT,s2,obs,ze2]
theorem C9 {l:List RPt} (hl:l.length<=100000) (hb:∀ x∈l,BrP x):Dq l=some (HL l):=by
 have hc:AW l=some (!(l.all Gn)):=by
  unfold AW Bw;have key:=KC (body:=fun (s:((List RPt)×(Int×Int)))=>AG s.1 s.2.1 s.2.2) (l:=l) (st:=fun k=>(l,(l.length:Int),(k:Int))) (p:=Gn) (fin:=.inl ()) (bad:=fun k=>.inr (k:Int))
   (fun k a hk hp=>by
    have:=Fc hk;show AG l (l.length:Int) (k:Int)=_;unfold AG Fj;simp only[Iu hk,cT,Ao,hk,obs,A4];rw[A5F,A3u (hb a (za4 hk)),obs,hp,obs,nT,cF,AR (by omega)])
   (fun k a hk hp=>by
    show AG l (l.length:Int) (k:Int)=_;unfold AG Fj;simp only[Iu hk,cT,Ao,hk,obs,A4];rw[A5F,A3u (hb a (za4 hk)),obs,hp,obs,nF,cT])
   (by
    show AG l (l.length:Int) (l.length:Int)=_;unfold AG; simp only[Ut,cF])
  rw[show ((0:Nat):Int)=0 from rfl] at key;cases hall:l.all Gn with
  | true=>rw[key.1 hall]; rfl
  | false =>
   obtain ⟨k,_,h⟩:=key.2 hall;rw[h];simp only[za0,za8];have:decide ((k:Int)>=0)=true:=by simp
   rw[this]; rfl
 unfold Dq HL;by_cases h:l.length<=40
 ·rw[decide_eq_true (by omega),cT,hc,obs,decide_eq_true h,Bool.not_not,ze2]
 ·rw[decide_eq_false (by omega),cF,decide_eq_false h,Bool.false_and]
theorem Q3 {a:RF} (h:BrF a):Gx a=some (Cm (toQ a)&&shQ 8 a):=by
 unfold Gx shQ;simp only[A2,A4];by_cases h1:a.2.1.length<=8
 ·rw[decide_eq_true (by omega),cT,decide_eq_true h1,ze2];by_cases h2:a.2.2.2.length<=8
  ·rw[decide_eq_true (by omega),cT,decide_eq_true h2,Bool.and_true,Av4 h,obs]
  ·rw[decide_eq_false (by omega),cF,decide_eq_false h2,Bool.and_false]
 ·rw[decide_eq_false (by omega),cF,decide_eq_false h1,Bool.false_and,Bool.and_false]
theorem Aj6 {a:RF} (h:BrF a):FF a=some (Cm (toQ a)&&shQ 2 a):=by
 unfold FF shQ;simp only[A2,A4];by_cases h1:a.2.1.length<=2
 ·rw[decide_eq_true (by omega),cT,decide_eq_true h1,ze2];by_cases h2:a.2.2.2.length<=2
  ·rw[decide_eq_true (by omega),cT,decide_eq_true h2,Bool.and_true,Av4 h,obs]
  ·rw[decide_eq_false (by omega),cF,decide_eq_false h2,Bool.and_false]
 ·rw[decide_eq_false (by omega),cF,decide_eq_false h1,Bool.false_and,Bool.and_false]
theorem Gl {l:List RPt} (hl:l.length<=100000) (hb:∀ x∈l,BrP x):Fx l=some (HL l):=by
 have key:=KC (body:=fun (s:((List RPt)×((List RPt)×(Int×Int))))=>CE s.1 s.2.1 s.2.2.1 s.2.2.2) (l:=l) (st:=fun k=>(l,l,(l.length:Int),(k:Int))) (p:=Gn) (fin:=.inl l) (bad:=fun k=>.inr false)
  (fun k a hk hp=>by
   have:=Fc hk;have hba:=hb a (za4 hk);unfold Gn at hp;simp only[za2] at hp;show CE l l (l.length:Int) (k:Int)=_;unfold CE;simp only[Iu hk,cT,Ao,hk,obs,A4];rw[A8Z,A9h,Q3 hba.1,obs,A15,hp.1.1,hp.2.1,Bool.and_self,nT,cF,Q3 hba.2,obs,A2r,hp.1.2,hp.2.2,Bool.and_self,nT,cF,AR (by omega)])
  (fun k a hk hp=>by
   have hba:=hb a (za4 hk);show CE l l (l.length:Int) (k:Int)=_;unfold CE;simp only[Iu hk,cT,Ao,hk,obs,A4];rw[A8Z,A9h,Q3 hba.1,obs,A15];cases h1:Cm a.1&&shQ 8 (fx a) with
   | false=>rw[nF,cT]
   | true =>
    have h2:(Cm a.2&&shQ 8 (fy a))=false:=by
     unfold Gn at hp;rw[za2] at h1;rw[h1.1,h1.2,ze2,ze2] at hp;exact hp
    rw[nT,cF,Q3 hba.2,obs,A2r,h2,nF,cT])
  (by
   show CE l l (l.length:Int) (l.length:Int)=_;unfold CE; simp only[Ut,cF])
 rw[show ((0:Nat):Int)=0 from rfl] at key;unfold Fx HL;cases hall:l.all Gn with
 | true =>
  rw[key.1 hall,obs,sEl,Bool.and_true]
  congr 1
  exact decide_eq_decide.2 (by omega)
 | false =>
  obtain ⟨k,_,h⟩:=key.2 hall;rw[h,obs,sEr,Bool.and_false]
end
section
open Go
theorem An2 {l:List RPt} {x:RPt} (h:l.length<=100000):De 128 8 l [x]=some (l ++ [x]):=F9 (by simp[Ag]; omega) (by simp[Ag]; omega)
theorem YX (p:Q2) (b:Bool):BA (fl (rp p)) b=some (rqF (crd b p)):=by cases b <;> rfl
theorem AC1 (p:Q2) (b:Bool):FO (fl (rp p)) b=some (rqF (crd b p)):=by cases b <;> rfl
theorem EX {k:Nat} {p:Q2} (h:SzP k p) (b:Bool):Sz k (crd b p):=by cases b; exact h.1; exact h.2
theorem Au8:Bc (1:Int)=some (rqF 1):=by rw[Ip (by omega) (by omega)]; rfl
section
variable {a c:Q2} {t:Rat} (ha:SzP 8 a) (hc:SzP 8 c) (ht:Sz 34 t)
include ha hc ht
end
section
variable {a c:Q2} {s:Rat} {b:Bool} (ha:SzP 8 a) (hc:SzP 8 c) (hs:Sz 8 s) (hne:crd b c≠crd b a)
include ha hc hs hne
end
theorem A23 {k n:Nat} (hk:k<n) (hn:n<=100000):Int.tmod (IntKind.wrap .i64 (IntKind.wrap .i64 ((k:Int) + (n:Int))-1)) (n:Int)=(((k + n-1)%n:Nat):Int):=by
 rw[Aj (n:=(k:Int) + (n:Int)) (by omega) (by omega),Aj (by omega) (by omega),zc6 (by omega)];rw[show (k:Int) + (n:Int)-1=((k + n-1:Nat):Int) by omega];rfl
theorem Ax9 {k n:Nat} (hk:k<n):(k + 1 + n-1)%n=k:=by
 rw[show k + 1 + n-1=k + n by omega,Nat.add_mod_right,Nat.mod_eq_of_lt hk]
theorem Io {ps:List Q2} {k:Nat} {p:Q2} (h:ps[k]? = some p):AQ (ps.map rp) (k:Int)=some (rp p):=by
 rw[Ao,zc8,h]; rfl
theorem ZV (b high:Bool) (s:Rat) (a c:Q2):(Rq b high s a c).length<=2:=by
 unfold Rq;rw[zd3]
 split <;> split <;> simp
section
variable {ps:List Q2} {s:Rat} (hps:SzR ps) (hs:Sz 8 s) (b high:Bool)
include hps hs
end
end
section
open Go
theorem AF9 {p q:Q2} (h:rp p=rp q):p=q:=by
 unfold rp at h;have h1:=A7N (congrArg Prod.fst h);have h2:=A7N (congrArg Prod.snd h);exact Prod.ext h1 h2
theorem Av1 (p:Q2):Gn (rp p)=true↔SzP 8 p:=by
 rw[So];constructor
 ·rintro ⟨q,hq,e⟩;rw[AF9 e]; exact hq
 ·intro h; exact ⟨p,h,rfl⟩
theorem Id {m:List Q2}:HL (m.map rp)=true↔SzR m:=by
 unfold HL SzR;rw[za2,decide_eq_true_eq,zd5,za5];constructor
 ·rintro ⟨h1,h2⟩;exact ⟨h1,fun p hp=>(Av1 p).1 (h2 _ (List.mem_map_of_mem hp))⟩
 ·rintro ⟨h1,h2⟩;refine ⟨h1,fun x hx=>?_⟩
  obtain ⟨p,hp,rfl⟩:=zd4.1 hx;exact (Av1 p).2 (h2 p hp)
theorem Ah9 {p:Q2} {k:Nat} (hk:k<=1000000) (h:SzP k p):BrP (rp p):=⟨AU7 hk h.1,AU7 hk h.2⟩
theorem Sx {m:List Q2} {k:Nat} (hk:k<=1000000) (h:∀ p∈m,SzP k p):∀ x∈m.map rp,BrP x:=by
 intro x hx;obtain ⟨p,hp,rfl⟩:=zd4.1 hx;exact Ah9 hk (h p hp)
theorem At4 {q:Rat} {k:Nat} (hk:k<=1000000) (h:Sz k q):HR (rqF q)=some (rqF q):=by
 unfold HR;rw[show (rqF q).1=(big q.num).1 from rfl,show (rqF q).2.1=(big q.num).2 from rfl,show (rqF q).2.2.2=(big (q.den:Int)).2 from rfl,A25 hk h.1,Y0 hk h.2];rfl
theorem A8l {p:Q2} (h:SzP 8 p):KL (fl (rp p))=some (fl (rp p)):=by
 unfold KL;simp only[A2,A4,Sv,Te,Jg,Jh];rw[At4 (by omega) h.1,obs,At4 (by omega) h.2,obs];rfl
theorem A36 {m:List Q2} (h:SzR m):IK (m.map rp)=some (m.map rp):=by
 have h40:=h.1;obtain ⟨h1,h2⟩:=Av5 (l:=m) (body:=fun (s:((List RPt)×((List RPt)×(Int×Int))))=>Dw s.1 s.2.1 s.2.2.1 s.2.2.2)
  (st:=fun k (b:List Q2)=>(b.map rp,(m.map rp,((m.length:Int),(k:Int))))) (step:=fun b p=>b ++ [p]) (fin:=fun b=>b.map rp) (I:=fun k b=>b.length=k)
  (by
   rintro k b p hk hI;have hkl:=Fc hk;have hp:=h.2 p (za4 hk);refine ⟨?_,by simp[hI]⟩
   show Dw (b.map rp) (m.map rp) (m.length:Int) (k:Int)=_;unfold Dw;rw[decide_eq_true (by omega),cT,Io hk,obs];simp only[A4,A5F];rw[A8l hp,obs,A03,Za,An2 (by simp; omega),obs,AR (by omega)];simp)
  (by
   rintro b _;show Dw (b.map rp) (m.map rp) (m.length:Int) (m.length:Int)=_;unfold Dw;rw[decide_eq_false (by omega)];rfl) [] rfl
 have e:m.foldl (fun b p=>b ++ [p]) []=m:=by
  have:∀ (l acc:List Q2),l.foldl (fun b p=>b ++ [p]) acc=acc++l:=by
   intro l
   induction l with
   | nil=>intro acc; simp
   | cons x l ih=>intro acc; rw[List.foldl_cons,ih]; simp
  rw[this]; rfl
 rw[e] at h1;have h1':Ah (fun (s:((List RPt)×((List RPt)×(Int×Int))))=>Dw s.1 s.2.1 s.2.2.1 s.2.2.2) ((List.nil:List RPt),(m.map rp,((m.length:Int),(0:Int))))=some (m.map rp):=h1;unfold IK;rw[zd5,h1',obs]
theorem A5f {p:Q2} (h:SzP 8 p):IT (fl (rp p))=some (fl (rp p),true):=by
 unfold IT;simp only[A2,A4,Sv,Te,Jg,Jh];rw[T8 (k:=8) (by omega) h.1,obs,T8 (k:=8) (by omega) h.2,obs,JI (h.1.mono (by omega)),JI (h.2.mono (by omega))];rfl
theorem A60 {m:List Q2} (h:SzR m):K0 (m.map rp)=some (m.map rp,true):=by
 have h40:=h.1;obtain ⟨h1,h2⟩:=Av5 (l:=m) (body:=fun (s:((List RPt)×((List RPt)×(Int×Int))))=>Ek s.1 s.2.1 s.2.2.1 s.2.2.2)
  (st:=fun k (b:List Q2)=>(b.map rp,(m.map rp,((m.length:Int),(k:Int))))) (step:=fun b p=>b ++ [p]) (fin:=fun b=>.inl (b.map rp)) (I:=fun k b=>b.length=k)
  (by
   rintro k b p hk hI;have hkl:=Fc hk;have hp:=h.2 p (za4 hk);refine ⟨?_,by simp[hI]⟩
   show Ek (b.map rp) (m.map rp) (m.length:Int) (k:Int)=_;unfold Ek;rw[decide_eq_true (by omega),cT,Io hk,obs];simp only[A4,A5F];rw[A5f hp,obs];simp only;rw[nT,cF,A03,Za,An2 (by simp; omega),obs,AR (by omega)];simp)
  (by
   rintro b _;show Ek (b.map rp) (m.map rp) (m.length:Int) (m.length:Int)=_;unfold Ek;rw[decide_eq_false (by omega)];rfl) [] rfl
 have e:m.foldl (fun b p=>b ++ [p]) []=m:=by
  have:∀ (l acc:List Q2),l.foldl (fun b p=>b ++ [p]) acc=acc++l:=by
   intro l
   induction l with
   | nil=>intro acc; simp
   | cons x l ih=>intro acc; rw[List.foldl_cons,ih]; simp
  rw[this]; rfl
 rw[e] at h1;have h1':Ah (fun (s:((List RPt)×((List RPt)×(Int×Int))))=>Ek s.1 s.2.1 s.2.2.1 s.2.2.2) ((List.nil:List RPt),(m.map rp,((m.length:Int),(0:Int))))=some (.inl (m.map rp)):=h1;unfold K0;rw[zd5,h1',obs,sEl]
def Yq (m:List Q2):List RPt×Bool:=if HL (m.map rp)=true then (m.map rp,true) else ([],false)
theorem An9 {m:List Q2} {k:Nat} (hk:k<=1000000) (hl:m.length<=100000) (h:∀ p∈m,SzP k p):Et (m.map rp)=some (Yq m):=by
 unfold Et Yq;rw[C9 (by simp; omega) (Sx hk h),obs];by_cases hg:HL (m.map rp)=true
 ·rw[if_pos hg,hg,nT,cF,A36 (Id.1 hg),obs]
 ·rw[if_neg hg,Bool.eq_false_iff.2 hg,nF,cT]
theorem A4m {m:List Q2} {k:Nat} (hk:k<=1000000) (hl:m.length<=100000) (h:∀ p∈m,SzP k p):IG (m.map rp)=some (Yq m):=by
 unfold IG Yq;rw[Gl (by simp; omega) (Sx hk h),obs];by_cases hg:HL (m.map rp)=true
 ·rw[if_pos hg,hg,nT,cF,A60 (Id.1 hg)];rfl
 ·rw[if_neg hg,Bool.eq_false_iff.2 hg,nF,cT]
section
variable {ps:List Q2} {s:Rat} (hps:SzR ps) (hs:Sz 2 s) (b:Bool)
include hps hs
end
section
variable {l:List RPt} {a:RF} (hl:l.length<=1000) (hb:∀ x∈l,BrP x) (ha:BrF a) (h:(HL l&&(Cm (toQ a)&&shQ 2 a))=false) (b:Bool)
include hl hb ha h
end
def Bj8 (ps:List Q2):Rat:=match ps with | []=>0 | a::m=>chn crs a (m ++ [a])
theorem Aj8 (ps:List Q2):Bj8 ps=Mf ps:=by
 cases ps with
 | nil=>rfl
 | cons a m =>
  have hl2:ME (a::m)=AV0 a m:=by rw[<-Ar4 a (a::m) (by simp)]; rfl
  show chn crs a (m ++ [a])=chn crs (ME (a::m)) (a::m);rw[A7B,hl2,chn]
  grind
theorem A6q {p q:Q2} (hp:SzP 8 p) (hq:SzP 8 q):Sz 33 (crs p q):=(Kl (Kh hp.1 hq.2) (Kh hq.1 hp.2)).mono (by omega)
section
variable {ps:List Q2} {f:Q2} (hps:SzR ps) (hf:ps[0]? = some f)
include hps hf
theorem AN2 {k:Nat} (hk:k<ps.length):∃ d,AQ (ps.map rp) (Int.tmod (IntKind.wrap .i64 ((k:Int) + 1)) (ps.length:Int))=some (rp d)/\SzP 8 d/\∃ r,ps.drop (k + 1) ++ [f]=d::r/\(k + 1<ps.length->r=ps.drop (k + 2) ++ [f])/\(k + 1=ps.length->r = []):=by
 have h40:=hps.1;rw[AR (by omega),zc6 (by omega)];by_cases h:k + 1<ps.length
 ·have e:((k + 1:Nat):Int)%(ps.length:Int)=((k + 1:Nat):Int):=Int.emod_eq_of_lt (by omega) (by omega);rw[e];have hg:ps[k + 1]? = some ps[k + 1]:=za1 h;exact ⟨ps[k + 1],Io hg,hps.2 _ (za4 hg),ps.drop (k + 2) ++ [f],by rw[zb0 h,List.cons_append],fun _=>rfl,fun h'=>by omega⟩
 ·have e:((k + 1:Nat):Int)%(ps.length:Int)=((0:Nat):Int):=by rw[show k + 1=ps.length by omega]; exact Int.emod_self
  rw[e];refine ⟨f,Io hf,hps.2 _ (za4 hf),[],?_,fun h'=>absurd h' h,fun _=>rfl⟩
  rw[zd1 (by omega)]; rfl
theorem AP9:∀ (m k:Nat) (acc:Rat),k + m=ps.length->Sz (34*k + 1) acc ->
  ∃ r,Ah (fun (s:(RF×(RF×((List RPt)×((List RPt)×(Int×Int))))))=>BB s.1 s.2.1 s.2.2.1 s.2.2.2.1 s.2.2.2.2.1 s.2.2.2.2.2) (zF,(rqF acc,(ps.map rp,(ps.map rp,((ps.length:Int),(k:Int))))))=some (zF,rqF r)/\Sz 1361 r /\
   r=acc + (match ps.drop k with | []=>0 | c::_=>chn crs c (ps.drop (k + 1) ++ [f])):=by
 have h40:=hps.1;intro m
 induction m with
 | zero =>
  intro k acc hk hacc;refine ⟨acc,Aq ?_,hacc.mono (by omega),?_⟩
  ·show BB zF (rqF acc) (ps.map rp) (ps.map rp) (ps.length:Int) (k:Int)=_;unfold BB;rw[decide_eq_false (by omega)];rfl
  ·rw[zd1 (show ps.length<=k by omega)];simp only
   grind
 | succ m ih =>
  intro k acc hk hacc;have hlt:k<ps.length:=by omega
  have hd:ps.drop k=ps[k]::ps.drop (k + 1):=zb0 hlt;have hg:ps[k]? = some ps[k]:=za1 hlt;generalize ps[k]=c at hd hg;have sc:=hps.2 c (za4 hg);obtain ⟨d,hdg,sd,r,hr,hr1,hr2⟩:=AN2 hps hf hlt;have hx:=A6q sc sd;have hsum:Sz (34*(k + 1) + 1) (acc + crs c d):=(R6 hacc hx).mono (by omega);have hgo:BB zF (rqF acc) (ps.map rp) (ps.map rp) (ps.length:Int) (k:Int)=some (.inl (zF,(rqF (acc + crs c d),(ps.map rp,(ps.map rp,((ps.length:Int),((k + 1:Nat):Int))))))):=by
   unfold BB;have hz:(((ps.length:Nat):Int)==0)=false:=beq_eq_false_iff_ne.2 (by omega);rw[decide_eq_true (by omega),cT,Io hg,obs,zd5,hz,cF,hdg,obs];simp only[A2,A4,A8Z,A9h,Jg,Jh];rw[Ii (k:=8) (by omega) sc.1 sd.2,obs,Ii (k:=8) (by omega) sd.1 sc.2,obs]
   try simp only[A2]
   rw[Ra (k:=16) (by omega) ((Kh sc.1 sd.2).mono (by omega)) ((Kh sd.1 sc.2).mono (by omega)),obs]
   try simp only[A2]
   rw[show c.1*d.2-d.1*c.2=crs c d from rfl,JQ (k:=1400) (by omega) (hacc.mono (by omega)) (hx.mono (by omega)),obs,AR (by omega)]
  obtain ⟨q,g1,g2,g3⟩:=ih (k + 1) (acc + crs c d) (by omega) hsum;refine ⟨q,(AY (f:=fun (s:(RF×(RF×((List RPt)×((List RPt)×(Int×Int))))))=>BB s.1 s.2.1 s.2.2.1 s.2.2.2.1 s.2.2.2.2.1 s.2.2.2.2.2) (s:=(zF,(rqF acc,(ps.map rp,(ps.map rp,((ps.length:Int),(k:Int))))))) hgo).trans g1,g2,?_⟩
  rw[g3,hd];simp only;rw[hr,chn];by_cases h:k + 1<ps.length
  ·rw[hr1 h];have hd2:ps.drop (k + 1)=ps[k + 1]::ps.drop (k + 2):=zb0 h;rw[hd2] at hr ⊢
   have:d=ps[k + 1]:=by rw[List.cons_append] at hr; exact (List.cons.inj hr).1.symm
   rw[this];simp only
   grind
  ·rw[hr2 (by omega),zd1 (show ps.length<=k + 1 by omega)];simp only[chn]
   grind
theorem AT7:∀ (m k:Nat) (acc:Rat),k + m=ps.length->Sz (34*k + 1) acc ->
  ∃ r,Ah (fun (s:(RF×(RF×((List RPt)×((List RPt)×(Int×Int))))))=>BP s.1 s.2.1 s.2.2.1 s.2.2.2.1 s.2.2.2.2.1 s.2.2.2.2.2) (zF,(rqF acc,(ps.map rp,(ps.map rp,((ps.length:Int),(k:Int))))))=some (zF,rqF r)/\Sz 1361 r /\
   r=acc + (match ps.drop k with | []=>0 | c::_=>chn crs c (ps.drop (k + 1) ++ [f])):=by
 have h40:=hps.1;intro m
 induction m with
 | zero =>
  intro k acc hk hacc;refine ⟨acc,Aq ?_,hacc.mono (by omega),?_⟩
  ·show BP zF (rqF acc) (ps.map rp) (ps.map rp) (ps.length:Int) (k:Int)=_;unfold BP;rw[decide_eq_false (by omega)];rfl
  ·rw[zd1 (show ps.length<=k by omega)];simp only
   grind
 | succ m ih =>
  intro k acc hk hacc;have hlt:k<ps.length:=by omega
  have hd:ps.drop k=ps[k]::ps.drop (k + 1):=zb0 hlt;have hg:ps[k]? = some ps[k]:=za1 hlt;generalize ps[k]=c at hd hg;have sc:=hps.2 c (za4 hg);obtain ⟨d,hdg,sd,r,hr,hr1,hr2⟩:=AN2 hps hf hlt;have hx:=A6q sc sd;have hsum:Sz (34*(k + 1) + 1) (acc + crs c d):=(R6 hacc hx).mono (by omega);have hgo:BP zF (rqF acc) (ps.map rp) (ps.map rp) (ps.length:Int) (k:Int)=some (.inl (zF,(rqF (acc + crs c d),(ps.map rp,(ps.map rp,((ps.length:Int),((k + 1:Nat):Int))))))):=by
   unfold BP;have hz:(((ps.length:Nat):Int)==0)=false:=beq_eq_false_iff_ne.2 (by omega);rw[decide_eq_true (by omega),cT,Io hg,obs,zd5,hz,cF,hdg,obs];simp only[A2,A4,A8Z,A9h,Jg,Jh];rw[YW (k:=8) (by omega) sc.1 sd.2,obs,YW (k:=8) (by omega) sd.1 sc.2,obs]
   try simp only[A2]
   rw[YL (k:=16) (by omega) ((Kh sc.1 sd.2).mono (by omega)) ((Kh sd.1 sc.2).mono (by omega)),obs]
   try simp only[A2]
   rw[show c.1*d.2-d.1*c.2=crs c d from rfl,U2 (k:=1400) (by omega) (hacc.mono (by omega)) (hx.mono (by omega)),obs,AR (by omega)]
  obtain ⟨q,g1,g2,g3⟩:=ih (k + 1) (acc + crs c d) (by omega) hsum;refine ⟨q,(AY (f:=fun (s:(RF×(RF×((List RPt)×((List RPt)×(Int×Int))))))=>BP s.1 s.2.1 s.2.2.1 s.2.2.2.1 s.2.2.2.2.1 s.2.2.2.2.2) (s:=(zF,(rqF acc,(ps.map rp,(ps.map rp,((ps.length:Int),(k:Int))))))) hgo).trans g1,g2,?_⟩
  rw[g3,hd];simp only;rw[hr,chn];by_cases h:k + 1<ps.length
  ·rw[hr1 h];have hd2:ps.drop (k + 1)=ps[k + 1]::ps.drop (k + 2):=zb0 h;rw[hd2] at hr ⊢
   have:d=ps[k + 1]:=by rw[List.cons_append] at hr; exact (List.cons.inj hr).1.symm
   rw[this];simp only
   grind
  ·rw[hr2 (by omega),zd1 (show ps.length<=k + 1 by omega)];simp only[chn]
   grind
end
end
section
open Go
theorem Av6:Bc (0:Int)=some (rqF 0):=by rw[Ip (by omega) (by omega)]; rfl
theorem AA7:Bc (2:Int)=some (rqF 2):=by rw[Ip (by omega) (by omega)]; rfl
theorem Ax1:Cx (0:Int)=some (rqF 0):=by rw[QP (by omega) (by omega)]; rfl
theorem A4H:Cx (2:Int)=some (rqF 2):=by rw[QP (by omega) (by omega)]; rfl
theorem S2:Sz 1361 (2:Rat):=by
 have h:(((2:Int)).natAbs:Int)<B 1361:=Int.lt_of_lt_of_le (by rw[B1]; decide:(((2:Int)).natAbs:Int)<B 1) (Kf (by omega));have:=AM4 (z:=2) h (by omega);exact this
theorem S0r:Sz 1 (0:Rat):=by
 have h:(((0:Int)).natAbs:Int)<B 1:=by rw[B1]; decide
 have:=AM4 (z:=0) h (by omega);exact this
theorem V6:(2:Rat)≠0:=by decide
theorem AZ8 {ps:List Q2} (hps:SzR ps):Ha (ps.map rp)=some (rqF (Mf ps/2))/\Sz 2722 (Mf ps/2):=by
 have h40:=hps.1;have key:∃ r,Ah (fun (s:(RF×(RF×((List RPt)×((List RPt)×(Int×Int))))))=>BB s.1 s.2.1 s.2.2.1 s.2.2.2.1 s.2.2.2.2.1 s.2.2.2.2.2) (zF,(rqF 0,(ps.map rp,(ps.map rp,((ps.length:Int),(0:Int))))))=some (zF,rqF r)/\Sz 1361 r/\r=Mf ps:=by
  cases ps with
  | nil =>
   refine ⟨0,Aq ?_,S0r.mono (by omega),rfl⟩
   show BB zF (rqF 0) [] [] 0 0=_;unfold BB;rfl
  | cons f m =>
   obtain ⟨r,h1,h2,h3⟩:=AP9 hps (f:=f) rfl (f::m).length 0 0 (by omega) S0r;refine ⟨r,h1,h2,?_⟩
   rw[h3,<-Aj8];show (0:Rat) + chn crs f (m ++ [f])=chn crs f (m ++ [f])
   grind
 obtain ⟨r,h1,h2,h3⟩:=key;rw[h3] at h1 h2;refine ⟨?_,(AN0 h2 S2 V6).mono (by omega)⟩
 have g1:Ah (fun (s:(RF×(RF×((List RPt)×((List RPt)×(Int×Int))))))=>BB s.1 s.2.1 s.2.2.1 s.2.2.2.1 s.2.2.2.2.1 s.2.2.2.2.2) ((false,([],(false,[]))),(rqF 0,(ps.map rp,(ps.map rp,((ps.length:Int),(0:Int))))))=some (zF,rqF (Mf ps)):=h1;have hh:CN (rqF (Mf ps))=some (rqF (Mf ps/2)):=by
  unfold CN;simp only[A2];rw[AA7,obs]
  try simp only[A2]
  rw[VU (k:=1361) (by omega) h2 S2 V6,obs]
 unfold Ha;rw[Av6,obs]
 try simp only[A2]
 rw[zd5,g1,obs]
 try simp only[A2]
 rw[hh,obs]
theorem XO {ps:List Q2} (hps:SzR ps):GD (ps.map rp)=some (rqF (Mf ps/2))/\Sz 2722 (Mf ps/2):=by
 have h40:=hps.1;have key2:∃ r,Ah (fun (s:(RF×(RF×((List RPt)×((List RPt)×(Int×Int))))))=>BP s.1 s.2.1 s.2.2.1 s.2.2.2.1 s.2.2.2.2.1 s.2.2.2.2.2) (zF,(rqF 0,(ps.map rp,(ps.map rp,((ps.length:Int),(0:Int))))))=some (zF,rqF r)/\Sz 1361 r/\r=Mf ps:=by
  cases ps with
  | nil =>
   refine ⟨0,Aq ?_,S0r.mono (by omega),rfl⟩
   show BP zF (rqF 0) [] [] 0 0=_;unfold BP;rfl
  | cons f m =>
   obtain ⟨r,h1,h2,h3⟩:=AT7 hps (f:=f) rfl (f::m).length 0 0 (by omega) S0r;refine ⟨r,h1,h2,?_⟩
   rw[h3,<-Aj8];show (0:Rat) + chn crs f (m ++ [f])=chn crs f (m ++ [f])
   grind
 obtain ⟨r,h1,h2,h3⟩:=key2;rw[h3] at h1 h2;refine ⟨?_,(AN0 h2 S2 V6).mono (by omega)⟩
 have g1:Ah (fun (s:(RF×(RF×((List RPt)×((List RPt)×(Int×Int))))))=>BP s.1 s.2.1 s.2.2.1 s.2.2.2.1 s.2.2.2.2.1 s.2.2.2.2.2) ((false,([],(false,[]))),(rqF 0,(ps.map rp,(ps.map rp,((ps.length:Int),(0:Int))))))=some (zF,rqF (Mf ps)):=h1;unfold GD;rw[Ax1,obs]
 try simp only[A2]
 rw[zd5,g1,obs]
 try simp only[A2]
 rw[A4H,obs]
 try simp only[A2]
 rw[A3s (k:=1361) (by omega) h2 S2 V6,obs]
theorem A10 {ps:List Q2} (hps:SzR ps):FC (ps.map rp)=some (Rt (Mf ps/2)):=by
 have hp:=hps.1;unfold FC;rw[C9 (by simp; omega) (Sx (k:=8) (by omega) hps.2),obs,Id.2 hps,nT,cF,(AZ8 hps).1,obs];simp only[A2,A4];rw[Tk,obs]
def ShP (x:RPt):Prop:=ShF (fx x)/\ShF (fy x)
theorem ShP.br {x:RPt} (h:ShP x):BrP x:=⟨h.1.br,h.2.br⟩
end
section
open Go
structure Val (E:Q2->Q2->Rat):Prop where
 anti:∀ p q,E p q = -(E q p)
 split:∀ p q t,0<=t->t<=1->E p (Am6 p q t) + E (Am6 p q t) q=E p q
theorem Val.self {E:Q2->Q2->Rat} (h:Val E) (p:Q2):E p p=0:=by
 have:=h.anti p p
 grind
section
variable (E:Q2->Q2->Rat) (b high:Bool) (s:Rat)
end
section
variable {E:Q2->Q2->Rat} (h:Val E) {b high:Bool} {s:Rat}
include h
end
section
variable {E:Q2->Q2->Rat} (h:Val E) {b high:Bool} {s:Rat}
include h
end
end
section
open Go
def RM (lo hi:Q2) (l:List Q2):List Q2:=F6 true false hi.2 (F6 true true lo.2 (F6 false false hi.1 (F6 false true lo.1 l)))
end
section
open Go
theorem S1K:Sz 1 (1:Rat):=by have:=AM4 (z:=1) (AT8 (k:=1) (by omega)) (by omega); exact this
def SzN (K:Nat) (ps:List Q2):Prop:=ps.length<=1000/\∀ p∈ps,SzP K p
theorem QN {K:Nat} (hK:K<=2972) {p:Q2} {s:Rat} (hp:SzP K p) (hs:Sz K s) (b high:Bool):Gj high b (rqF s) (fl (rp p))=some (high,(b,(rqF s,ins b high s p))):=by
 have hc:=EX hp b;unfold Gj;simp only[A2,A4];cases high with
 | true =>
  simp only[cT];rw[YX,obs,EV (k:=K) (by omega) hc hs,obs,A6d];have:(!decide (crd b p<s))=decide (s<=crd b p):=by
   rw[Bool.eq_iff_iff]; simp[Rat.not_lt]
  rw[this]
 | false =>
  simp only[cF];rw[YX,obs,EV (k:=K) (by omega) hs hc,obs,A7k];have:(!decide (s<crd b p))=decide (crd b p<=s):=by
   rw[Bool.eq_iff_iff]; simp[Rat.not_lt]
  rw[this]
section
variable {K:Nat} (hK:K<=2972) {a c:Q2} {t:Rat} (ha:SzP K a) (hc:SzP K c) (ht:Sz (4*K + 2) t)
include hK ha hc ht
theorem Bd5:UV (fl (rp a)) (fl (rp c)) (rqF t)=some (fl (rp (Am6 a c t))):=by
 have h1:Sz (4*K + 4) (1-t):=(Kl S1K ht).mono (by omega);have m1:∀ x:Rat,Sz K x->Sz (5*K + 4) ((1-t)*x):=fun x hx=>(Kh h1 hx).mono (by omega)
 have m2:∀ x:Rat,Sz K x->Sz (5*K + 4) (t*x):=fun x hx=>(Kh ht hx).mono (by omega)
 unfold UV;simp only[A2,A4,Sv,Te,Jg,Jh];rw[Au8,obs]
 try simp only[A2]
 rw[Ra (k:=4*K + 2) (by omega) (S1K.mono (by omega)) ht,obs]
 try simp only[A2]
 rw[Ii (k:=4*K + 4) (by omega) h1 (ha.1.mono (by omega)),obs,Ii (k:=4*K + 4) (by omega) (ht.mono (by omega)) (hc.1.mono (by omega)),obs]
 try simp only[A2]
 rw[JQ (k:=5*K + 4) (by omega) (m1 _ ha.1) (m2 _ hc.1),obs,Ii (k:=4*K + 4) (by omega) h1 (ha.2.mono (by omega)),obs,Ii (k:=4*K + 4) (by omega) (ht.mono (by omega)) (hc.2.mono (by omega)),obs]
 try simp only[A2]
 rw[JQ (k:=5*K + 4) (by omega) (m1 _ ha.2) (m2 _ hc.2),obs];unfold Am6;rw[show a.1 + t*(c.1-a.1)=(1-t)*a.1 + t*c.1 by grind,show a.2 + t*(c.2-a.2)=(1-t)*a.2 + t*c.2 by grind];rfl
theorem Be0:Kw (fl (rp a)) (fl (rp c)) (rqF t)=some (fl (rp (Am6 a c t))):=by
 have key:∀ x y:Rat,Sz K x->Sz K y->Gt (rqF x) (rqF y) (rqF t)=some (rqF (x + t*(y-x))):=by
  intro x y hx hy;unfold Gt;simp only[A2];rw[YL (k:=K) (by omega) hy hx,obs]
  try simp only[A2]
  have h1:Sz (4*K + 2) (y-x):=(Kl hy hx).mono (by omega);rw[YW (k:=4*K + 2) (by omega) ht h1,obs]
  try simp only[A2]
  rw[U2 (k:=6*K + 3) (by omega) (hx.mono (by omega)) ((Kh ht (Kl hy hx)).mono (by omega)),obs]
 unfold Kw;simp only[A2,A4,Sv,Te,Jg,Jh];rw[key _ _ ha.1 hc.1,obs,key _ _ ha.2 hc.2,obs];rfl
theorem A9z:SzP (7*K + 4) (Am6 a c t):=by
 have key:∀ x y:Rat,Sz K x->Sz K y->Sz (7*K + 4) (x + t*(y-x)):=fun x y hx hy=>(R6 hx (Kh ht (Kl hy hx))).mono (by omega)
 exact ⟨key _ _ ha.1 hc.1,key _ _ ha.2 hc.2⟩
end
section
variable {K:Nat} (hK:K<=2972) {a c:Q2} {s:Rat} {b:Bool} (ha:SzP K a) (hc:SzP K c) (hs:Sz K s) (hne:crd b c≠crd b a)
include hK ha hc hs hne
theorem A7a:Sz (4*K + 2) ((s-crd b a)/(crd b c-crd b a)) :=
 (AN0 (Kl hs (EX ha b)) (Kl (EX hc b) (EX ha b)) (fun e=>hne (by grind))).mono (by omega)
theorem A9c:SzP (7*K + 4) (AO4 b s a c):=A9z hK ha hc (A7a hK ha hc hs hne)
theorem A6a:EZ (rqF (s-crd b a)) (rqF (crd b c-crd b a))=some (rqF ((s-crd b a)/(crd b c-crd b a))) :=
 VU (k:=2*K + 1) (by omega) ((Kl hs (EX ha b)).mono (by omega)) ((Kl (EX hc b) (EX ha b)).mono (by omega)) (fun e=>hne (by grind))
theorem A5x:Ka (fl (rp a)) (fl (rp c)) b (rqF s)=some (fl (rp (AO4 b s a c))):=by
 have hon:=Bc9 (s:=s) hne;unfold Ka;simp only[A2,A4];rw[AC1,obs]
 try simp only[A2]
 rw[YL (k:=K) (by omega) hs (EX ha b),obs,AC1,obs]
 try simp only[A2]
 rw[YL (k:=K) (by omega) (EX hc b) (EX ha b),obs]
 try simp only[A2]
 rw[A3s (k:=2*K + 1) (by omega) ((Kl hs (EX ha b)).mono (by omega)) ((Kl (EX hc b) (EX ha b)).mono (by omega)) (fun e=>hne (by grind)),obs]
 try simp only[A2]
 rw[Be0 hK ha hc (A7a hK ha hc hs hne),obs,show Am6 a c ((s-crd b a)/(crd b c-crd b a))=AO4 b s a c from rfl];generalize AO4 b s a c=m at hon;cases b with
 | true =>
  rw[cT];have:m.2=s:=hon;rw[<-this];rfl
 | false =>
  rw[cF];have:m.1=s:=hon;rw[<-this];rfl
end
theorem A3U {K:Nat} (hK:K<=2972) {p:Q2} {s:Rat} (hp:SzP K p) (hs:Sz K s) (b high:Bool):∃ v,GV (fl (rp p)) b (rqF s) high=some v/\decide (v<=0)=ins b high s p:=by
 have hc:=EX hp b;unfold GV;simp only[A2,A4];rw[AC1,obs]
 try simp only[A2]
 rw[NU (k:=K) (by omega) hc hs,obs];have h1:=@A3W (crd b p) s;have h2:=@Lp (crd b p) s;have hb : -1<=TR (crd b p) s/\TR (crd b p) s<=1:=by unfold TR; split <;> (try split) <;> omega
 cases high with
 | true =>
  refine ⟨_,rfl,?_⟩
  rw[Aj (by omega) (by omega),A6d];refine decide_eq_decide.2 ?_
  rw[<-Rat.not_lt,<-h1];omega
 | false =>
  refine ⟨_,rfl,?_⟩
  rw[A7k];refine decide_eq_decide.2 ?_
  rw[<-Rat.not_lt,<-h2];omega
section
variable {K:Nat} (hK:K<=2972) {ps:List Q2} {s:Rat} (hps:SzN K ps) (hs:Sz K s) (b high:Bool)
include hK hps hs
theorem AI2:∀ (m k:Nat) (a:Q2) (out:List Q2),k + m=ps.length->(k<ps.length->ps[(k + ps.length-1)%ps.length]? = some a)->out.length<=2*k ->
  Ah (fun (s:(Bool×(RF×(Bool×((List (RQ×RQ))×((List (RQ×RQ))×((List (RQ×RQ))×(Int×Int))))))))=>Fw s.1 s.2.1 s.2.2.1 s.2.2.2.1 s.2.2.2.2.1 s.2.2.2.2.2.1 s.2.2.2.2.2.2.1 s.2.2.2.2.2.2.2)
   (b,(rqF s,(high,(out.map rp,(ps.map rp,(ps.map rp,((ps.length:Int),(k:Int))))))))=some ((out++C3 b high s a (ps.drop k)).map rp):=by
 intro m
 induction m with
 | zero =>
  intro k a out hk _ _;refine Aq ?_
  show Fw b (rqF s) high (out.map rp) (ps.map rp) (ps.map rp) (ps.length:Int) (k:Int)=_;unfold Fw;rw[decide_eq_false (by omega),zd1 (by omega),C3,ze6];rfl
 | succ m ih =>
  intro k a out hk ha hout;have h40:=hps.1;have hlt:k<ps.length:=by omega
  have ha:=ha hlt;have hd:ps.drop k=ps[k]::ps.drop (k + 1):=zb0 hlt;have hg:ps[k]? = some ps[k]:=za1 hlt;generalize ps[k]=c at hd hg;have sa:=hps.2 a (za4 ha);have sc:=hps.2 c (za4 hg);have hgo:Fw b (rqF s) high (out.map rp) (ps.map rp) (ps.map rp) (ps.length:Int) (k:Int)=some (.inl (b,(rqF s,(high,((out++Rq b high s a c).map rp,(ps.map rp,(ps.map rp,((ps.length:Int),((k + 1:Nat):Int))))))))):=by
   unfold Fw;have hz:(((ps.length:Nat):Int)==0)=false:=beq_eq_false_iff_ne.2 (by omega);rw[decide_eq_true (by omega),cT,Io hg,obs,zd5,hz,cF,A23 hlt (by omega),Io ha,obs];simp only[A2,A4,A5F];rw[QN hK sa hs,obs];simp only;rw[QN hK sc hs,obs];simp only;unfold Rq;have ol:(out.map rp).length<=100000:=by rw[zd5]; omega
   by_cases hne:ins b high s a=ins b high s c
   ·rw[show (ins b high s a==ins b high s c)=true from beq_iff_eq.2 hne,nT,cF,obs,sEr,if_pos hne];simp only[A2,A4];rw[QN hK sc hs,obs];simp only;cases hi:ins b high s c with
    | true =>
     rw[cT,A03,Za,An2 ol,obs,AR (by omega)];simp
    | false =>
     rw[cF,AR (by omega)];simp
   ·have hcut:=A16 hne;rw[show (ins b high s a==ins b high s c)=false from beq_eq_false_iff_ne.2 hne,nF,cT,YX,obs]
    try simp only[A2]
    rw[Ra (k:=K) (by omega) hs (EX sa b),obs,YX,obs,obs]
    try simp only[A2]
    rw[Ra (k:=K) (by omega) (EX sc b) (EX sa b),obs]
    try simp only[A2]
    rw[A6a hK sa sc hs hcut,obs]
    try simp only[A2]
    rw[Bd5 hK sa sc (A7a hK sa sc hs hcut),obs,show Am6 a c ((s-crd b a)/(crd b c-crd b a))=AO4 b s a c from rfl,A03,Za,An2 ol,obs,obs,sEr,if_neg hne];simp only[A2,A4];rw[QN hK sc hs,obs];simp only;cases hi:ins b high s c with
    | true =>
     rw[cT,A03,Za,An2 (by simp; omega),obs,AR (by omega)];simp
    | false =>
     rw[cF,AR (by omega)];simp
  refine (AY (f:=fun (s:(Bool×(RF×(Bool×((List (RQ×RQ))×((List (RQ×RQ))×((List (RQ×RQ))×(Int×Int))))))))=>Fw s.1 s.2.1 s.2.2.1 s.2.2.2.1 s.2.2.2.2.1 s.2.2.2.2.2.1 s.2.2.2.2.2.2.1 s.2.2.2.2.2.2.2)
   (s:=(b,(rqF s,(high,(out.map rp,(ps.map rp,(ps.map rp,((ps.length:Int),(k:Int))))))))) hgo).trans ?_
  have hst:=ZV b high s a c;rw[ih (k + 1) c (out++Rq b high s a c) (by omega) (fun h=>by rw[Ax9 hlt]; exact hg) (by rw[zd3]; omega),hd,C3,List.append_assoc]
theorem AB7:∀ (m k:Nat) (a:Q2) (out:List Q2),k + m=ps.length->(k<ps.length->ps[(k + ps.length-1)%ps.length]? = some a)->out.length<=2*k ->
  Ah (fun (s:(RF×((List (RQ×RQ))×((List (RQ×RQ))×(Bool×(Bool×((List (RQ×RQ))×(Int×Int))))))))=>CR s.1 s.2.1 s.2.2.1 s.2.2.2.1 s.2.2.2.2.1 s.2.2.2.2.2.1 s.2.2.2.2.2.2.1 s.2.2.2.2.2.2.2)
   (rqF s,(out.map rp,(ps.map rp,(b,(high,(ps.map rp,((ps.length:Int),(k:Int))))))))=some ((out++C3 b high s a (ps.drop k)).map rp):=by
 intro m
 induction m with
 | zero =>
  intro k a out hk _ _;refine Aq ?_
  show CR (rqF s) (out.map rp) (ps.map rp) b high (ps.map rp) (ps.length:Int) (k:Int)=_;unfold CR;rw[decide_eq_false (by omega),zd1 (by omega),C3,ze6];rfl
 | succ m ih =>
  intro k a out hk ha hout;have h40:=hps.1;have hlt:k<ps.length:=by omega
  have ha:=ha hlt;have hd:ps.drop k=ps[k]::ps.drop (k + 1):=zb0 hlt;have hg:ps[k]? = some ps[k]:=za1 hlt;generalize ps[k]=c at hd hg;have sa:=hps.2 a (za4 ha);have sc:=hps.2 c (za4 hg);have hgo:CR (rqF s) (out.map rp) (ps.map rp) b high (ps.map rp) (ps.length:Int) (k:Int)=some (.inl (rqF s,((out++Rq b high s a c).map rp,(ps.map rp,(b,(high,(ps.map rp,((ps.length:Int),((k + 1:Nat):Int))))))))):=by
   unfold CR;have hz:(((ps.length:Nat):Int)==0)=false:=beq_eq_false_iff_ne.2 (by omega);obtain ⟨v,v1,v2⟩:=A3U hK sa hs b high;obtain ⟨w,w1,w2⟩:=A3U hK sc hs b high;rw[decide_eq_true (by omega),cT,Io hg,obs,zd5,hz,cF,A23 hlt (by omega),Io ha,obs];simp only[A2,A4,A5F];rw[v1,obs,w1,obs,v2,w2];unfold Rq;have ol:(out.map rp).length<=100000:=by rw[zd5]; omega
   by_cases hne:ins b high s a=ins b high s c
   ·rw[show (ins b high s a==ins b high s c)=true from beq_iff_eq.2 hne,nT,cF,if_pos hne];cases hi:ins b high s c with
    | true =>
     rw[cT,An2 ol,obs,AR (by omega)];simp
    | false =>
     rw[cF,AR (by omega)];simp
   ·have hcut:=A16 hne;rw[show (ins b high s a==ins b high s c)=false from beq_eq_false_iff_ne.2 hne,nF,cT,A5x hK sa sc hs hcut,obs,A03,Za,An2 ol,obs,if_neg hne];cases hi:ins b high s c with
    | true =>
     rw[cT,An2 (by simp; omega),obs,AR (by omega)];simp
    | false =>
     rw[cF,AR (by omega)];simp
  refine (AY (f:=fun (s:(RF×((List (RQ×RQ))×((List (RQ×RQ))×(Bool×(Bool×((List (RQ×RQ))×(Int×Int))))))))=>CR s.1 s.2.1 s.2.2.1 s.2.2.2.1 s.2.2.2.2.1 s.2.2.2.2.2.1 s.2.2.2.2.2.2.1 s.2.2.2.2.2.2.2)
   (s:=(rqF s,(out.map rp,(ps.map rp,(b,(high,(ps.map rp,((ps.length:Int),(k:Int))))))))) hgo).trans ?_
  have hst:=ZV b high s a c;rw[ih (k + 1) c (out++Rq b high s a c) (by omega) (fun h=>by rw[Ax9 hlt]; exact hg) (by rw[zd3]; omega),hd,C3,List.append_assoc]
theorem AY3 (h : 0<ps.length):ps[(0 + ps.length-1)%ps.length]? = some (ME ps):=by
 rw[ze4,Nat.mod_eq_of_lt (by omega),<-List.getLast?_eq_getElem?];unfold ME;cases hl:ps.getLast? with
 | none=>rw[List.getLast?_eq_none_iff.1 hl] at h; simp at h
 | some x=>rfl
theorem YR:IL (ps.map rp) b high (rqF s)=some ((F6 b high s ps).map rp):=by
 have h:=AI2 hK hps hs b high ps.length 0 (ME ps) [] (by omega) (fun h=>AY3 hK hps hs h) (by simp);rw[ze7,List.nil_append] at h;have h':Ah (fun (s:(Bool×(RF×(Bool×((List (RQ×RQ))×((List (RQ×RQ))×((List (RQ×RQ))×(Int×Int))))))))=>Fw s.1 s.2.1 s.2.2.1 s.2.2.2.1 s.2.2.2.2.1 s.2.2.2.2.2.1 s.2.2.2.2.2.2.1 s.2.2.2.2.2.2.2)
   (b,(rqF s,(high,((List.nil:List RPt),(ps.map rp,(ps.map rp,((ps.length:Int),(0:Int))))))))=_:=h
 unfold IL;simp only[A2,A4];rw[zd5,h',obs];rfl
theorem Ns:D4 (ps.map rp) b (rqF s) high=some ((F6 b high s ps).map rp):=by
 have h:=AB7 hK hps hs b high ps.length 0 (ME ps) [] (by omega) (fun h=>AY3 hK hps hs h) (by simp);rw[ze7,List.nil_append] at h;have h':Ah (fun (s:(RF×((List (RQ×RQ))×((List (RQ×RQ))×(Bool×(Bool×((List (RQ×RQ))×(Int×Int))))))))=>CR s.1 s.2.1 s.2.2.1 s.2.2.2.1 s.2.2.2.2.1 s.2.2.2.2.2.1 s.2.2.2.2.2.2.1 s.2.2.2.2.2.2.2)
   (rqF s,((List.nil:List RPt),(ps.map rp,(b,(high,(ps.map rp,((ps.length:Int),(0:Int))))))))=_:=h
 unfold D4;simp only[A2,A4];rw[zd5,h',obs];rfl
theorem TI:(F6 b high s ps).length<=2*ps.length/\∀ p∈F6 b high s ps,SzP (7*K + 4) p:=by
 have h40:=hps.1;have h2:=hps.2;have key:∀ (l:List Q2) (a:Q2),SzP K a->(∀ p∈l,SzP K p)->(C3 b high s a l).length<=2*l.length/\∀ p∈C3 b high s a l,SzP (7*K + 4) p:=by
  intro l
  induction l with
  | nil=>intro a _ _; exact ⟨by simp[C3],fun p hp=>by simp[C3] at hp⟩
  | cons c l ih =>
   intro a ha hl;have hc:=hl c (by simp);obtain ⟨i1,i2⟩:=ih c hc (fun p hp=>hl p (List.mem_cons_of_mem _ hp));have hst:=ZV b high s a c;rw[C3];refine ⟨by rw[zd3,zc0]; omega,fun p hp=>?_⟩
   rcases zb4.1 hp with hp | hp
   ·unfold Rq at hp;rcases zb4.1 hp with hp | hp
    ·by_cases e:ins b high s a=ins b high s c
     ·rw[if_pos e] at hp; cases hp
     ·rw[if_neg e] at hp;rw[List.mem_singleton.1 hp];exact A9c hK ha hc hs (A16 e)
    ·by_cases e:ins b high s c=true
     ·rw[if_pos e] at hp;rw[List.mem_singleton.1 hp];exact hc.mono (by omega)
     ·rw[if_neg e] at hp; cases hp
   ·exact i2 p hp
 by_cases hn:ps = []
 ·unfold F6;rw[hn];exact ⟨by simp[C3],fun p hp=>by simp[C3] at hp⟩
 ·obtain ⟨k1,k2⟩:=key ps (ME ps) (h2 _ (A5i hn)) h2;exact ⟨k1,k2⟩
end
end
section
open Go
theorem AZ3 (p:Q2):((fl (rp p)).1,((fl (rp p)).2.1,((fl (rp p)).2.2.1,((fl (rp p)).2.2.2.1,rqF p.2))))=fl (rp p):=(rfl)
section
variable {ps:List Q2} {lo hi:Q2} (hps:SzR ps) (hlo:SzP 2 lo) (hhi:SzP 2 hi)
include hps hlo hhi
theorem QO:SzN 8 ps/\SzN 60 (F6 false true lo.1 ps)/\SzN 424 (F6 false false hi.1 (F6 false true lo.1 ps))/\SzN 2972 (F6 true true lo.2 (F6 false false hi.1 (F6 false true lo.1 ps))) /\
  ((RM lo hi ps).length<=640/\∀ p∈RM lo hi ps,SzP 20808 p):=by
 have h40:=hps.1;have s0:SzN 8 ps:=⟨by omega,hps.2⟩;obtain ⟨l1,z1⟩:=TI (K:=8) (by omega) s0 (hlo.1.mono (by omega)) false true;have s1:SzN 60 (F6 false true lo.1 ps):=⟨by omega,fun p hp=>(z1 p hp).mono (by omega)⟩;obtain ⟨l2,z2⟩:=TI (K:=60) (by omega) s1 (hhi.1.mono (by omega)) false false;have s2:SzN 424 (F6 false false hi.1 (F6 false true lo.1 ps)):=⟨by omega,fun p hp=>(z2 p hp).mono (by omega)⟩;obtain ⟨l3,z3⟩:=TI (K:=424) (by omega) s2 (hlo.2.mono (by omega)) true true
 have s3:SzN 2972 (F6 true true lo.2 (F6 false false hi.1 (F6 false true lo.1 ps))):=⟨by omega,fun p hp=>(z3 p hp).mono (by omega)⟩;obtain ⟨l4,z4⟩:=TI (K:=2972) (by omega) s3 (hhi.2.mono (by omega)) true false;refine ⟨s0,s1,s2,s3,?_,fun p hp=>(z4 p hp).mono (by omega)⟩
 unfold RM;omega
theorem A5J:IW (ps.map rp) (fl (rp lo)) (fl (rp hi))=some ((RM lo hi ps).map rp):=by
 obtain ⟨s0,s1,s2,s3,_⟩:=QO hps hlo hhi;unfold IW;simp only[A2,A4,Sv,Te,Jg,Jh,AZ3];rw[YR (K:=8) (by omega) s0 (hlo.1.mono (by omega)),obs,YR (K:=60) (by omega) s1 (hhi.1.mono (by omega)),obs,YR (K:=424) (by omega) s2 (hlo.2.mono (by omega)),obs,YR (K:=2972) (by omega) s3 (hhi.2.mono (by omega)),obs];rfl
theorem A6z:Lb (ps.map rp) (fl (rp lo)) (fl (rp hi))=some ((RM lo hi ps).map rp):=by
 obtain ⟨s0,s1,s2,s3,_⟩:=QO hps hlo hhi;unfold Lb;simp only[A2,A4,Sv,Te,Jg,Jh,AZ3];rw[Ns (K:=8) (by omega) s0 (hlo.1.mono (by omega)),obs,Ns (K:=60) (by omega) s1 (hhi.1.mono (by omega)),obs,Ns (K:=424) (by omega) s2 (hlo.2.mono (by omega)),obs,Ns (K:=2972) (by omega) s3 (hhi.2.mono (by omega)),obs];rfl
end
def UF (x:RPt):Bool:=(Cm x.1&&Cm x.2)&&(shQ 2 (fx x)&&shQ 2 (fy x))
theorem JM {x:RPt}:UF x=true↔∃ p,SzP 2 p/\x=rp p:=by
 constructor
 ·intro h;unfold UF at h;simp only[za2] at h;obtain ⟨⟨h1,h2⟩,h3,h4⟩:=h;obtain ⟨a,ha,e1⟩:=Mz.1 h1;obtain ⟨c,hc,e2⟩:=Mz.1 h2;have exy:x=(rq a,rq c):=by rw[<-e1,<-e2]
  have ex:fx x=rqF a:=by rw[exy]; rfl
  have ey:fy x=rqF c:=by rw[exy]; rfl
  rw[ex,XQ (by omega)] at h3;rw[ey,XQ (by omega)] at h4;exact ⟨(a,c),⟨of_decide_eq_true h3,of_decide_eq_true h4⟩,by unfold rp; rw[<-e1,<-e2]⟩
 ·rintro ⟨p,hp,rfl⟩;unfold UF;rw[Jg,Jh,XQ (by omega),XQ (by omega),decide_eq_true hp.1,decide_eq_true hp.2,Bool.and_true,Bool.and_true,za2];exact ⟨Tx (hp.1.mono (by omega)),Tx (hp.2.mono (by omega))⟩
theorem HA {x:RPt} (h:BrP x):FK (fl x) 2=some (UF x):=by
 have hl:Fv [x.1,x.2]=some (Cm x.1&&Cm x.2):=by
  rw[As4 (by simp) (by
   intro a ha;simp at ha;rcases ha with rfl | rfl
   ·exact h.1
   ·exact h.2)]
  simp
 have e:((((fl x).1,(fl x).2.1),((fl x).2.2.1,(fl x).2.2.2.1)):RQ)=x.1:=rfl;have e':((((fl x).2.2.2.2.1,(fl x).2.2.2.2.2.1),(fl x).2.2.2.2.2.2):RQ)=x.2:=rfl;unfold FK UF;simp only[A4];rw[e,e',hl,obs];have s1:=Np (fx x) 2;have s2:=Np (fy x) 2;rw[show ((2:Nat):Int)=2 from rfl] at s1 s2;cases hg:Cm x.1&&Cm x.2 with
 | false=>rfl
 | true =>
  rw[cT]
  try simp only[Sv,Te]
  rw[s1,obs,ze2];cases shQ 2 (fx x) with
  | false=>rfl
  | true=>rw[cT,s2,obs,ze2]
theorem Jy {x:RPt} (h:BrP x):JB (fl x)=some (UF x):=by
 unfold JB UF;simp only[A4,Sv,Te];rw[Aj6 h.1,obs,A15];cases h1:Cm x.1 with
 | false=>rw[Bool.false_and,cF,Bool.false_and,Bool.false_and]
 | true =>
  cases h2:shQ 2 (fx x) with
  | false=>rw[Bool.and_false,cF,Bool.false_and,Bool.and_false]
  | true=>rw[Bool.and_true,cT,Aj6 h.2,obs,A2r,ze2,ze2]
section
variable {ps:List Q2} {lo hi:Q2} (hps:SzR ps) (hlo:SzP 2 lo) (hhi:SzP 2 hi) (hx:lo.1<=hi.1) (hy:lo.2<=hi.2)
include hps hlo hhi hx hy
theorem A5I:B2 (ps.map rp) (fl (rp lo)) (fl (rp hi))=some (Yq (RM lo hi ps)):=by
 have hp:=hps.1;obtain ⟨_,_,_,_,c1,c2⟩:=QO hps hlo hhi;unfold B2;simp only[A2,A4,Sv,Te,Jg,Jh,AZ3];rw[C9 (by simp; omega) (Sx (k:=8) (by omega) hps.2),obs,Id.2 hps,nT,cF,HA (Ah9 (k:=2) (by omega) hlo),obs,JM.2 ⟨lo,hlo,rfl⟩,nT,cF,HA (Ah9 (k:=2) (by omega) hhi),obs,JM.2 ⟨hi,hhi,rfl⟩,nT,cF,
  EV (k:=2) (by omega) hhi.1 hlo.1,obs,decide_eq_false (Rat.not_lt.2 hx),cF,EV (k:=2) (by omega) hhi.2 hlo.2,obs,decide_eq_false (Rat.not_lt.2 hy),cF,A5J hps hlo hhi,obs,An9 (k:=20808) (by omega) (by omega) c2,obs]
theorem A4n:B0 (ps.map rp) (fl (rp lo)) (fl (rp hi))=some (Yq (RM lo hi ps)):=by
 have hp:=hps.1;obtain ⟨_,_,_,_,c1,c2⟩:=QO hps hlo hhi;have nx:¬TR lo.1 hi.1>0:=fun h=>Rat.not_lt.2 hx (Lp.1 h)
 have ny:¬TR lo.2 hi.2>0:=fun h=>Rat.not_lt.2 hy (Lp.1 h)
 unfold B0;simp only[A2,A4,Sv,Te,Jg,Jh,AZ3];rw[Gl (by simp; omega) (Sx (k:=8) (by omega) hps.2),obs,Id.2 hps,nT,cF,Jy (Ah9 (k:=2) (by omega) hlo),obs,JM.2 ⟨lo,hlo,rfl⟩,nT,cF,Jy (Ah9 (k:=2) (by omega) hhi),obs,JM.2 ⟨hi,hhi,rfl⟩,nT,cF,
  NU (k:=2) (by omega) hlo.1 hhi.1,obs,decide_eq_false nx,cF,NU (k:=2) (by omega) hlo.2 hhi.2,obs,decide_eq_false ny,cF,A6z hps hlo hhi,obs,A4m (k:=20808) (by omega) (by omega) c2,obs]
end
theorem A7g {m:List Q2} (h:(Yq m).2=true):SzR m/\Yq m=(m.map rp,true):=by
 unfold Yq at h ⊢
 by_cases hg:HL (m.map rp)=true
 ·rw[if_pos hg]; exact ⟨Id.1 hg,rfl⟩
 ·rw[if_neg hg] at h; cases h
theorem A4C {m:List Q2} (h:(Yq m).2=false):(Yq m).1 = []:=by
 unfold Yq at h ⊢
 by_cases hg:HL (m.map rp)=true
 ·rw[if_pos hg] at h; cases h
 ·rw[if_neg hg]
theorem A1j {l:List RPt} {a c:RPt} (hl:l.length<=1000) (hb:∀ x∈l,BrP x) (ha:BrP a) (hc:BrP c):∃ f,B2 l (fl a) (fl c)=some f/\B0 l (fl a) (fl c)=some f/\(f.2=false->f.1 = []) /\
  (f.2=true->∃ ps lo hi,SzR ps/\SzP 2 lo/\SzP 2 hi/\lo.1<=hi.1/\lo.2<=hi.2/\l=ps.map rp/\a=rp lo/\c=rp hi/\SzR (RM lo hi ps)/\f=((RM lo hi ps).map rp,true)):=by
 have bad:B2 l (fl a) (fl c)=some ([],false)->B0 l (fl a) (fl c)=some ([],false)->∃ f,B2 l (fl a) (fl c)=some f/\B0 l (fl a) (fl c)=some f/\(f.2=false->f.1 = []) /\
  (f.2=true->∃ ps lo hi,SzR ps/\SzP 2 lo/\SzP 2 hi/\lo.1<=hi.1/\lo.2<=hi.2/\l=ps.map rp/\a=rp lo/\c=rp hi/\SzR (RM lo hi ps)/\f=((RM lo hi ps).map rp,true)) :=
  fun h1 h2=>⟨_,h1,h2,fun _=>rfl,fun h=>by cases h⟩
 cases hg:HL l with
 | false =>
  refine bad ?_ ?_
  ·unfold B2;rw[C9 (by omega) hb,obs,hg,nF,cT]
  ·unfold B0;rw[Gl (by omega) hb,obs,hg,nF,cT]
 | true =>
  cases g1:UF a with
  | false =>
   refine bad ?_ ?_
   ·unfold B2;simp only[A2,A4];rw[C9 (by omega) hb,obs,hg,nT,cF,HA ha,obs,g1,nF,cT]
   ·unfold B0;simp only[A2,A4];rw[Gl (by omega) hb,obs,hg,nT,cF,Jy ha,obs,g1,nF,cT]
  | true =>
   cases g2:UF c with
   | false =>
    refine bad ?_ ?_
    ·unfold B2;simp only[A2,A4];rw[C9 (by omega) hb,obs,hg,nT,cF,HA ha,obs,g1,nT,cF,HA hc,obs,g2,nF,cT]
    ·unfold B0;simp only[A2,A4];rw[Gl (by omega) hb,obs,hg,nT,cF,Jy ha,obs,g1,nT,cF,Jy hc,obs,g2,nF,cT]
   | true =>
    obtain ⟨ps,hps,el⟩:=A4V.1 hg;obtain ⟨lo,hlo,ea⟩:=JM.1 g1;obtain ⟨hi,hhi,ec⟩:=JM.1 g2;by_cases hx:lo.1<=hi.1
    ·by_cases hy:lo.2<=hi.2
     ·have q1:=A5I hps hlo hhi hx hy;have q2:=A4n hps hlo hhi hx hy;rw[<-el,<-ea,<-ec] at q1 q2;refine ⟨_,q1,q2,A4C,fun h=>?_⟩
      obtain ⟨o1,o2⟩:=A7g h;exact ⟨ps,lo,hi,hps,hlo,hhi,hx,hy,el,ea,ec,o1,o2⟩
     ·have hy':=Rat.not_le.1 hy;refine bad ?_ ?_
      ·unfold B2;simp only[A2,A4];rw[C9 (by omega) hb,obs,hg,nT,cF,HA ha,obs,g1,nT,cF,HA hc,obs,g2,nT,cF,ea,ec];simp only[A2,A4,Sv,Te,Jg,Jh,AZ3];rw[EV (k:=2) (by omega) hhi.1 hlo.1,obs,decide_eq_false (Rat.not_lt.2 hx),cF,EV (k:=2) (by omega) hhi.2 hlo.2,obs,decide_eq_true hy',cT]
      ·unfold B0;simp only[A2,A4];rw[Gl (by omega) hb,obs,hg,nT,cF,Jy ha,obs,g1,nT,cF,Jy hc,obs,g2,nT,cF,ea,ec];simp only[A2,A4,Sv,Te,Jg,Jh,AZ3];have nx:¬TR lo.1 hi.1>0:=fun h=>Rat.not_lt.2 hx (Lp.1 h)
       rw[NU (k:=2) (by omega) hlo.1 hhi.1,obs,decide_eq_false nx,cF,NU (k:=2) (by omega) hlo.2 hhi.2,obs,decide_eq_true (Lp.2 hy'),cT]
    ·have hx':=Rat.not_le.1 hx;refine bad ?_ ?_
     ·unfold B2;simp only[A2,A4];rw[C9 (by omega) hb,obs,hg,nT,cF,HA ha,obs,g1,nT,cF,HA hc,obs,g2,nT,cF,ea,ec];simp only[A2,A4,Sv,Te,Jg,Jh,AZ3];rw[EV (k:=2) (by omega) hhi.1 hlo.1,obs,decide_eq_true hx',cT]
     ·unfold B0;simp only[A2,A4];rw[Gl (by omega) hb,obs,hg,nT,cF,Jy ha,obs,g1,nT,cF,Jy hc,obs,g2,nT,cF,ea,ec];simp only[A2,A4,Sv,Te,Jg,Jh,AZ3];rw[NU (k:=2) (by omega) hlo.1 hhi.1,obs,decide_eq_true (Lp.2 hx'),cT]
end
section
open Go
def ptQ (p:Int×Int):Q2:=((p.1:Rat),(p.2:Rat))
theorem UQ {n:Int} (h1 : -100000<=n) (h2:n<=100000):Sz 2 (n:Rat):=AM4 (by have:B 2=4294967296:=rfl; omega) (by omega)
def SmP (p:Int×Int):Prop:=(-100000<=p.1/\p.1<=100000)/\(-100000<=p.2/\p.2<=100000)
theorem Bb0 {p:Int×Int} (h:SmP p):SzP 2 (ptQ p):=⟨UQ h.1.1 h.1.2,UQ h.2.1 h.2.2⟩
theorem GP.sm {p:Int×Int} (h:GP p):SmP p:=by
 obtain ⟨a,b,c,d⟩:=h;unfold SmP;omega
theorem Ae2 {p:Int×Int} (h:SmP p):H6 p=some (fl (rp (ptQ p))):=by
 obtain ⟨⟨h1,h2⟩,h3,h4⟩:=h;unfold H6
 try simp only
 rw[QP (by omega) (by omega),obs,QP (by omega) (by omega),obs];rfl
theorem A51 {w:List (Int×Int)} (hl:w.length<=1000) (h:∀ p∈w,SmP p):JY w=some ((w.map ptQ).map rp):=by
 have key:∀ (m k:Nat) (l:List RPt),k + m=w.length->l.length=k->Ah (fun (s:((List RPt)×((List (Int×Int))×(Int×Int))))=>Dv s.1 s.2.1 s.2.2.1 s.2.2.2) (l,(w,((w.length:Int),(k:Int))))=some (l++((w.drop k).map ptQ).map rp):=by
  intro m
  induction m with
  | zero =>
   intro k l hk hlk;refine Aq ?_
   show Dv l w (w.length:Int) (k:Int)=_;unfold Dv;rw[decide_eq_false (by omega),zd1 (by omega)];simp[cF]
  | succ m ih =>
   intro k l hk hlk;have hlt:k<w.length:=by omega
   have hg:w[k]? = some w[k]:=za1 hlt;have hd:w.drop k=w[k]::w.drop (k + 1):=zb0 hlt;have gp:=h _ (za4 hg);generalize w[k]=p at hg hd gp;obtain ⟨⟨g1,g2⟩,g3,g4⟩:=gp;have hb:Dv l w (w.length:Int) (k:Int)=some (.inl (l ++ [rp (ptQ p)],(w,((w.length:Int),((k + 1:Nat):Int))))):=by
    unfold Dv;rw[decide_eq_true (by omega),cT,Ao,hg,obs]
    try simp only
    rw[Ip (by omega) (by omega),obs,Ip (by omega) (by omega),obs];simp only[A4];have e:(((((rqF (p.1:Rat)).1,(rqF (p.1:Rat)).2.1),(rqF (p.1:Rat)).2.2),(((rqF (p.2:Rat)).1,(rqF (p.2:Rat)).2.1),(rqF (p.2:Rat)).2.2)):RPt)=rp (ptQ p):=rfl;rw[e,An2 (by omega),obs,AR (by omega)]
   refine (AY (f:=fun (s:((List RPt)×((List (Int×Int))×(Int×Int))))=>Dv s.1 s.2.1 s.2.2.1 s.2.2.2) (s:=(l,(w,((w.length:Int),(k:Int))))) hb).trans ?_
   rw[ih (k + 1) _ (by omega) (by simp; omega),hd];simp
 have k0:=key w.length 0 [] (by omega) rfl;have k0':Ah (fun (s:((List RPt)×((List (Int×Int))×(Int×Int))))=>Dv s.1 s.2.1 s.2.2.1 s.2.2.2) ((List.nil:List RPt),(w,((w.length:Int),(0:Int))))=_:=k0;unfold JY;rw[k0',obs];rfl
theorem An0 {w:List (Int×Int)} (hl:w.length<=1000) (h:∀ p∈w,SmP p):Ah (fun (s:((List RPt)×((List (Int×Int))×(Int×Int))))=>Dt s.1 s.2.1 s.2.2.1 s.2.2.2) ((List.nil:List RPt),(w,((w.length:Int),(0:Int))))=some ((w.map ptQ).map rp):=by
 have key:∀ (m k:Nat) (l:List RPt),k + m=w.length->l.length=k->Ah (fun (s:((List RPt)×((List (Int×Int))×(Int×Int))))=>Dt s.1 s.2.1 s.2.2.1 s.2.2.2) (l,(w,((w.length:Int),(k:Int))))=some (l++((w.drop k).map ptQ).map rp):=by
  intro m
  induction m with
  | zero =>
   intro k l hk hlk;refine Aq ?_
   show Dt l w (w.length:Int) (k:Int)=_;unfold Dt;rw[decide_eq_false (by omega),zd1 (by omega)];simp[cF]
  | succ m ih =>
   intro k l hk hlk;have hlt:k<w.length:=by omega
   have hg:w[k]? = some w[k]:=za1 hlt;have hd:w.drop k=w[k]::w.drop (k + 1):=zb0 hlt;have gp:=h _ (za4 hg);generalize w[k]=p at hg hd gp;have hb:Dt l w (w.length:Int) (k:Int)=some (.inl (l ++ [rp (ptQ p)],(w,((w.length:Int),((k + 1:Nat):Int))))):=by
    unfold Dt;rw[decide_eq_true (by omega),cT,Ao,hg,obs];simp only[A4];rw[Ae2 gp,obs,A03,Za,An2 (by omega),obs,AR (by omega)]
   refine (AY (f:=fun (s:((List RPt)×((List (Int×Int))×(Int×Int))))=>Dt s.1 s.2.1 s.2.2.1 s.2.2.2) (s:=(l,(w,((w.length:Int),(k:Int))))) hb).trans ?_
   rw[ih (k + 1) _ (by omega) (by simp; omega),hd];simp
 exact key w.length 0 [] (by omega) rfl
theorem A1y {w:List (Int×Int)} (h:Lo w=true):∀ p∈w,SmP p:=by
 intro p hp;have:=(JJ.1 h).2 p hp;rw[A1I] at this;unfold SmP;omega
theorem A8z {w:List (Int×Int)} (h:Lo w=true):SzR (w.map ptQ):=by
 have h12:=(JJ.1 h).1.2;refine ⟨by rw[zd5]; omega,fun p hp=>?_⟩
 obtain ⟨q,hq,rfl⟩:=zd4.1 hp;exact (Bb0 (A1y h q hq)).mono (by omega)
end
section
open Go
def ES (x y:Int):Q2:=((x:Rat),(y:Rat))
def sqA (ps:List Q2) (x y:Int):Rat:=Mf (RM (ES x y) (ES (x + 1) (y + 1)) ps)
def A0V (ps:List Q2) (y:Int):Nat->Int->List Rat
 | 0,_=>[]
 | n + 1,x=>sqA ps x y::A0V ps y n (x + 1)
def Ap6 (ps:List Q2) (w:Nat) (x:Int):Nat->Int->List Rat
 | 0,_=>[]
 | n + 1,y=>A0V ps y w x++Ap6 ps w x n (y + 1)
theorem Zq (ps:List Q2) (y:Int):∀ (n:Nat) (x:Int),(A0V ps y n x).length=n
 | 0,_=>rfl
 | n + 1,x=>by rw[A0V,zc0,Zq]
theorem AU8 (ps:List Q2) (w:Nat) (x:Int):∀ (n:Nat) (y:Int),(Ap6 ps w x n y).length=w*n
 | 0,_=>rfl
 | n + 1,y=>by rw[Ap6,zd3,Zq,AU8,Nat.mul_succ]; omega
end
end Go.Proofs.YtiijheppiboglaaGreatDoor.Ev
