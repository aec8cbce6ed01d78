/- What the theorem of this claim leans on, part 5. -/
import Derived.Test.YtiijheppiboglaaGreatDoorKD
import Derived.Lib.ItoaNum
import Derived.Lib.ItoaLen
import Derived.Lib.AtoiAll
import Derived.Lib.Split
import Derived.Lib.SplitLaws
import Derived.Lib.IndexMore
import Derived.Lib.Join
set_option maxHeartbeats 2000000
set_option linter.unusedVariables false
set_option linter.unusedSimpArgs false
set_option linter.unusedSectionVars false
namespace Go.Proofs.YtiijheppiboglaaGreatDoor.Ev
section
open Go
structure GP (p:Int×Int):Prop where
 a : -1000≤p.1
 b:p.1≤1001
 c : -2≤p.2
 d:p.2≤8
theorem XJ {B:Nat} {c:List Int×Int×Int} (h:Cur B c) (hB:B≤100000000000000):∃ c' v,BN c=some (c',v)∧Cur (B + 8) c'∧GP v:=by
 unfold BN
 obtain ⟨c1,v1,e1,q1⟩:=Jz h (by omega) 40
 simp only[e1,Option.bind_some]
 cases v1
 ·obtain ⟨c2,v2,e2,q2,a2,b2⟩:=AK q1 (by omega) 9
  obtain ⟨c3,v3,e3,q3,a3,b3⟩:=AK q2 (by omega) 9
  simp only[cond_false,e2,e3,Option.bind_some]
  have b2:=b2 (by omega)
  have b3:=b3 (by omega)
  refine ⟨_,_,rfl,q3.mono (by omega),?_⟩
  rw[wrapI (by omega) (by omega),wrapI (by omega) (by omega)]
  constructor <;> simp only <;> omega
 ·obtain ⟨c2,v2,e2,q2,m2⟩:=YB q1 (by omega) [-(1000:Int),1000,1001] (by simp) (by simp)
  obtain ⟨c3,v3,e3,q3,a3,b3⟩:=AK q2 (by omega) 5
  simp only[cond_true,e2,e3,Option.bind_some]
  have b3:=b3 (by omega)
  refine ⟨_,_,rfl,q3.mono (by omega),?_⟩
  simp at m2
  constructor <;> simp only <;> omega
structure GW (l:List (Int×Int)):Prop where
 pts:∀ p∈l,GP p
 lo : 3≤l.length
 hi:l.length≤13
theorem VF {l:List (Int×Int)} {p:Int×Int} (h:∀ q∈l,GP q) (hp:GP p):∀ q∈l ++ [p],GP q:=by
 intro q hq
 rcases List.mem_append.1 hq with h1 | h1
 ·exact h q h1
 ·cases List.mem_singleton.1 h1; exact hp
theorem Ac8 {B:Nat} {c:List Int×Int×Int} (h:Cur B c) (hB:B≤10000000000000):∃ c' l,Cs c=some (c',l)∧Cur (B + 500) c'∧GW l:=by
 unfold Cs
 obtain ⟨c0,v0,e0,q0,a0,b0⟩:=AK h (by omega) 4
 simp only[e0,Option.bind_some]
 by_cases h0:v0=0
 ·have:(v0==0)=true:=by simp[h0]
  obtain ⟨c1,v1,e1,q1,a1,b1⟩:=AK q0 (by omega) 6
  obtain ⟨c2,v2,e2,q2,a2,b2⟩:=AK q1 (by omega) 2
  obtain ⟨c3,v3,e3,q3,a3,b3⟩:=AK q2 (by omega) 3
  obtain ⟨c4,v4,e4,q4,a4,b4⟩:=AK q3 (by omega) 5
  obtain ⟨c5,v5,e5,q5,a5,b5⟩:=AK q4 (by omega) 2
  obtain ⟨c6,v6,e6,q6,a6,b6⟩:=AK q5 (by omega) 5
  have b1:=b1 (by omega); have b2:=b2 (by omega); have b3:=b3 (by omega); have b4:=b4 (by omega); have b5:=b5 (by omega); have b6:=b6 (by omega)
  simp only[this,cond_true,e1,e2,e3,e4,e5,e6,Option.bind_some]
  rw[wrapI (by omega) (by omega),wrapI (by omega) (by omega),wrapI (by omega) (by omega),wrapI (by omega) (by omega)]
  refine ⟨_,_,rfl,q6.mono (by omega),?_,by simp,by simp⟩
  intro p hp
  simp only[List.mem_cons,List.not_mem_nil,or_false] at hp
  rcases hp with rfl | rfl | rfl | rfl <;> constructor <;> simp only <;> omega
 ·have t0:(v0==0)=false:=by simp[h0]
  by_cases h1:v0=1
  ·have t1:(v0==1)=true:=by simp[h1]
   obtain ⟨c1,v1,e1,q1,a1,b1⟩:=AK q0 (by omega) 4
   obtain ⟨c2,v2,e2,q2,a2,b2⟩:=AK q1 (by omega) 4
   have b1:=b1 (by omega); have b2:=b2 (by omega)
   simp only[t0,t1,cond_true,cond_false,e1,e2,Option.bind_some]
   rw[wrapI (by omega) (by omega),wrapI (by omega) (by omega)]
   refine ⟨_,_,rfl,q2.mono (by omega),?_,by simp,by simp⟩
   intro p hp
   simp only[List.mem_cons,List.not_mem_nil,or_false] at hp
   rcases hp with rfl | rfl | rfl | rfl | rfl | rfl | rfl | rfl <;> constructor <;> simp only <;> omega
  ·have t1:(v0==1)=false:=by simp[h1]
   obtain ⟨c1,v1,e1,q1,a1,b1⟩:=AK q0 (by omega) 4
   have b1:=b1 (by omega)
   obtain ⟨n,hn,hn1⟩:∃ n:Nat,(3 + v1:Int)=(n:Int)∧3≤n∧n≤6:=⟨(3 + v1).toNat,by omega,by omega⟩
   simp only[t0,t1,cond_true,cond_false,e1,Option.bind_some]
   rw[wrapI (by omega) (by omega),hn]
   obtain ⟨⟨c2,l2⟩,e2,q2,g2,n2⟩:=KQ (body:=fun (s:(((List Int)×(Int×Int))×((List (Int×Int))×Int)))=>CA s.1 s.2.1 s.2.2)
    (st:=fun k (b:(List Int×Int×Int)×List (Int×Int))=>(b.1,b.2,(k:Int))) (fin:=fun b=>b) (I:=fun k b=>Cur (B + 100-8*k) b.1∧(∀ p∈b.2,GP p)∧b.2.length + k=n)
    (by
     rintro k ⟨c,l⟩ ⟨i1,i2,i3⟩
     obtain ⟨c',v,e,q,g⟩:=XJ i1 (by omega)
     unfold CA
     have:decide (((k + 1:Nat):Int)>0)=true:=decide_eq_true (by omega)
     simp only at i3
     simp only[this,cond_true,e,Option.bind_some,Bh (l:=l) (m:=[(v.1,v.2)]) (b:=16) (s:=2) (by simp[maxBytes]; omega) (by simp[maxBytes]; omega)]
     rw[wrapI (by omega) (by omega),show ((k + 1:Nat):Int)-1=(k:Int) by omega]
     exact ⟨(c',l ++ [(v.1,v.2)]),rfl,q.mono (by omega),VF i2 g,by simp; omega⟩)
    (by
     rintro ⟨c,l⟩ ⟨i1,i2,i3⟩
     unfold CA
     rfl) n (c1,[]) ⟨q1.mono (by omega),by simp,by simp⟩
   obtain ⟨c3,v3,e3,q3⟩:=Jz q2 (by omega) 20
   simp only at e2 n2 g2
   simp only[e2,Option.bind_some,e3]
   cases v3
   ·exact ⟨_,_,rfl,q3.mono (by omega),g2,by omega,by omega⟩
   ·obtain ⟨r,e4,q4,g4,n4,n5⟩:=KN (f:=fun (s:(((List Int)×(Int×Int))×(List (Int×Int))))=>DQ s.1 s.2) (I:=fun s=>Cur (B + 102 + 10*s.2.length) s.1∧(∀ p∈s.2,GP p)∧3≤s.2.length∧s.2.length≤13)
     (R:=fun s=>Cur (B + 400) s.1∧(∀ p∈s.2,GP p)∧3≤s.2.length∧s.2.length≤13) (fun s=>20-s.2.length)
     (by
      rintro ⟨c,l⟩ ⟨i1,i2,i3,i4⟩
      unfold DQ
      simp only at i1 i2 i3 i4
      obtain ⟨c',v,e,q,a,b⟩:=AK i1 (by omega) 2
      have b:=b (by omega)
      simp only[e,Option.bind_some]
      rw[wrapI (by omega) (by omega)]
      by_cases hlt:(l.length:Int)<12 + v
      ·have:decide ((l.length:Int)<12 + v)=true:=by simpa using hlt
       obtain ⟨c2,v2,e2,q2,g2⟩:=XJ q (by omega)
       simp only[this,cond_true,e2,Option.bind_some,Bh (l:=l) (m:=[(v2.1,v2.2)]) (b:=16) (s:=2) (by simp[maxBytes]; omega) (by simp[maxBytes]; omega)]
       refine .inl ⟨_,rfl,⟨q2.mono (by simp; omega),VF i2 g2,by simp; omega,by simp; omega⟩,by simp; omega⟩
      ·have:decide ((l.length:Int)<12 + v)=false:=by simpa using hlt
       simp only[this,cond_false]
       exact .inr ⟨_,rfl,q.mono (by omega),i2,i3,i4⟩) (c3,l2) ⟨q3.mono (by omega),g2,by simp only; omega,by simp only; omega⟩
    simp only[cond_true,e4,Option.bind_some]
    exact ⟨_,_,rfl,q4.mono (by omega),g4,n4,n5⟩
end
section
open Go
section
variable {α β:Type}
def rot (l:List α):List α:=l.tail++l.head?.toList
theorem RD (l:List α):(rot l).length=l.length:=by cases l <;> simp[rot]
theorem ZB (l:List α) {k:Nat} (h:k<l.length):(rot l)[k]? = l[(k + 1)%l.length]? := by
 cases l with
 | nil=>simp at h
 | cons a t =>
  simp only[rot,List.tail_cons,List.head?_cons,Option.toList_some,List.length_cons] at *
  by_cases hk:k<t.length
  ·rw[List.getElem?_append_left hk,Nat.mod_eq_of_lt (by omega),List.getElem?_cons_succ]
  ·have:k=t.length:=by omega
   subst this
   rw[List.getElem?_append_right (by omega),Nat.sub_self,Nat.mod_self]
   rfl
theorem ZQ (f : α→β) (l:List α):rot (l.map f)=(rot l).map f:=by cases l <;> simp[rot]
theorem Zs {l:List α} {a : α}:a∈rot l↔a∈l:=by
 cases l with
 | nil=>simp[rot]
 | cons b t=>simp[rot]; exact or_comm
def ring (l:List α):List (α×α):=l.zip (rot l)
theorem Ng (l:List α):(ring l).length=l.length:=by simp[ring,RD]
theorem YO {l:List α} {k:Nat} {p : α×α} (h:(ring l)[k]? = some p):k<l.length∧l[k]? = some p.1∧l[(k + 1)%l.length]? = some p.2:=by
 have hk:=(List.getElem?_eq_some_iff.1 h).1
 rw[Ng] at hk
 unfold ring at h
 rw[List.getElem?_zip_eq_some] at h
 rw[ZB l hk] at h
 exact ⟨hk,h⟩
theorem Y0 (f : α→β) (l:List α):ring (l.map f)=(ring l).map fun p=>(f p.1,f p.2):=by
 unfold ring
 rw[ZQ,List.zip_map]
 rfl
theorem Pb {l:List α} {p : α×α} (h:p∈ring l):p.1∈l∧p.2∈l:=by
 unfold ring at h
 have:=List.of_mem_zip (show (p.1,p.2)∈_ from h)
 exact ⟨this.1,Zs.1 this.2⟩
def tot (f : α→Int):List α→Int
 | []=>0
 | a::l=>f a + tot f l
theorem NZ (f : α→Int) (l m:List α):tot f (l++m)=tot f l + tot f m:=by
 induction l with
 | nil=>simp[tot]
 | cons a l ih=>simp only[List.cons_append,tot,ih]; omega
theorem Zo (f : β→Int) (g : α→β) (l:List α):tot f (l.map g)=tot (fun a=>f (g a)) l:=by
 induction l with
 | nil=>rfl
 | cons a l ih=>simp only[List.map_cons,tot,ih]
theorem ZU (f : α→Int) (l:List α):tot f (rot l)=tot f l:=by
 cases l with
 | nil=>rfl
 | cons a t=>simp only[rot,List.tail_cons,List.head?_cons,Option.toList_some,NZ,tot]; omega
theorem MW (f g : α→Int) (l:List α):tot (fun a=>f a + g a) l=tot f l + tot g l:=by
 induction l with
 | nil=>rfl
 | cons a l ih=>simp only[tot,ih]; omega
theorem VC (f : α→Int) (l:List α):tot (fun a=>- f a) l = - tot f l:=by
 induction l with
 | nil=>rfl
 | cons a l ih=>simp only[tot,ih]; omega
theorem J4 (c:Int) (f : α→Int) (l:List α):tot (fun a=>c*f a) l=c*tot f l:=by
 induction l with
 | nil=>simp[tot]
 | cons a l ih=>simp only[tot,ih,Int.mul_add]
theorem Tn (f : α→Int):∀ (l:List α) (m:List β),l.length=m.length→tot (fun p : α×β=>f p.1) (l.zip m)=tot f l
 | [],[],_=>rfl
 | a::l,b::m,h=>by simp only[List.zip_cons_cons,tot,Tn f l m (by simpa using h)]
theorem T1 (f : β→Int):∀ (l:List α) (m:List β),l.length=m.length→tot (fun p : α×β=>f p.2) (l.zip m)=tot f m
 | [],[],_=>rfl
 | a::l,b::m,h=>by simp only[List.zip_cons_cons,tot,T1 f l m (by simpa using h)]
theorem Kt (f : α→Int) (l:List α):tot (fun p : α×α=>f p.1) (ring l)=tot f l:=Tn f l _ (RD l).symm
theorem Kh (f : α→Int) (l:List α):tot (fun p : α×α=>f p.2) (ring l)=tot f l:=(T1 f l _ (RD l).symm).trans (ZU f l)
theorem PH {f : α→Int} {B:Int}:∀ {l:List α},(∀ a∈l,-B≤f a∧f a≤B)→-(B*l.length)≤tot f l∧tot f l≤B*l.length
 | [],_=>by simp[tot]
 | a::l,h=>by
  have h1:=h a (List.mem_cons_self ..)
  have h2:=PH (l:=l) (fun b hb=>h b (List.mem_cons_of_mem _ hb))
  have:B*((a::l).length:Int)=B*l.length + B:=by rw[List.length_cons,Int.natCast_add,Int.mul_add]; simp
  simp only[tot]
  omega
theorem Py (f : α→Int) {l:List α} {k:Nat} {a : α} (h:l[k]? = some a):tot f (l.take (k + 1))=tot f (l.take k) + f a:=by
 rw[List.take_add_one,h,NZ]
 simp[tot]
theorem Nd {f : α→Int} {B:Int} (hB : 0≤B) {l:List α} (h:∀ a∈l,-B≤f a∧f a≤B) (k:Nat) : -(B*l.length)≤tot f (l.take k)∧tot f (l.take k)≤B*l.length:=by
 have h1:=PH (l:=l.take k) (fun a ha=>h a (List.mem_of_mem_take ha))
 have h2:((l.take k).length:Int)≤l.length:=by simp; omega
 have h3:=Int.mul_le_mul_of_nonneg_left h2 hB
 omega
end
section
variable {α:Type}
end
def areaI (l:List (Int×Int)):Int:=tot (fun p:(Int×Int)×(Int×Int)=>p.1.1*p.2.2-p.2.1*p.1.2) (ring l)
theorem UI (l:List (Int×Int)) (d:Int×Int):areaI (l.map fun p=>(p.1 + d.1,p.2 + d.2))=areaI l:=by
 unfold areaI
 rw[Y0,Zo]
 have:∀ p:(Int×Int)×(Int×Int),(p.1.1 + d.1)*(p.2.2 + d.2)-(p.2.1 + d.1)*(p.1.2 + d.2)=(p.1.1*p.2.2-p.2.1*p.1.2) + ((d.2*p.1.1 + -(d.2*p.2.1)) + (d.1*p.2.2 + -(d.1*p.1.2))):=by
  intro p
  grind
 simp only[this]
 rw[MW,MW,MW,MW,VC,VC,J4,J4,J4,J4]
 have h1:tot (fun p:(Int×Int)×(Int×Int)=>p.1.1) (ring l)=tot (fun p:Int×Int=>p.1) l:=Kt (fun p:Int×Int=>p.1) l
 have h2:tot (fun p:(Int×Int)×(Int×Int)=>p.2.1) (ring l)=tot (fun p:Int×Int=>p.1) l:=Kh (fun p:Int×Int=>p.1) l
 have h3:tot (fun p:(Int×Int)×(Int×Int)=>p.1.2) (ring l)=tot (fun p:Int×Int=>p.2) l:=Kt (fun p:Int×Int=>p.2) l
 have h4:tot (fun p:(Int×Int)×(Int×Int)=>p.2.2) (ring l)=tot (fun p:Int×Int=>p.2) l:=Kh (fun p:Int×Int=>p.2) l
 rw[h1,h2,h3,h4]
 omega
end
section
open Go
abbrev P2:=Int×Int
def within (a b c:Int):Bool:=decide (b≤a)&&decide (a≤c)
theorem NC (a b c:Int):AR a b c=some (within a b c):=by
 unfold AR within
 by_cases h:a≥b <;> simp[h]
theorem Vk (a b c:Int):C8 a b c=some (within a b c):=by
 unfold C8 within
 by_cases h:a≥b <;> simp[h]
theorem UV {a b c:Int}:within a b c=true↔b≤a∧a≤c:=by simp[within]
def goodPt (p:P2):Bool:=within p.1 (-1000) 1000&&within p.2 (-1000) 1000
theorem Kz (p:P2):Be p=some (goodPt p):=by
 unfold Be goodPt
 simp only[NC,Option.bind_some]
 cases within p.1 (-1000) 1000 <;> rfl
theorem OA (p:P2):BS p=some (goodPt p):=by
 unfold BS goodPt
 simp only[Vk,Option.bind_some]
 cases within p.1 (-1000) 1000 <;> rfl
theorem Dm {p:P2}:goodPt p=true↔-1000≤p.1∧p.1≤1000∧-1000≤p.2∧p.2≤1000:=by
 simp only[goodPt,Bool.and_eq_true,UV]
 omega
theorem Et {k:Nat} {α:Type} {l:List α} {a : α} (h:l[k]? = some a):decide ((k:Int)<(l.length:Int))=true:=by have:=getL h; simpa using this
theorem JG {α:Type} (l:List α):decide ((l.length:Int)<(l.length:Int))=false:=by simp
theorem Sn {l:List P2} (hl:Short l):Dp l=some (l.all goodPt):=by
 unfold Dp AD AL
 unfold Short at hl
 have key:=Hv (body:=fun s:List (Int×Int)×Int×Int=>As s.1 s.2.1 s.2.2) (l:=l) (st:=fun k=>(l,(l.length:Int),(k:Int))) (p:=goodPt) (fin:=.inl ()) (bad:=fun k=>.inr (k:Int))
  (fun k a hk hp=>by
   have:=getL hk
   unfold As C9
   simp only[Et hk,cond_true,Ah,hk,Option.bind_some,Kz,hp,Bool.not_true,cond_false,wrap1 (show k<4611686018427387904 by omega)])
  (fun k a hk hp=>by
   unfold As C9
   simp only[Et hk,cond_true,Ah,hk,Option.bind_some,Kz,hp,Bool.not_false])
  (by unfold As; simp only[JG,cond_false])
 cases hall:l.all goodPt with
 | true =>
  have h:=key.1 hall
  rw[show ((0:Nat):Int)=0 from rfl] at h
  simp only[h,Option.bind_some,Sum.elim_inl]
  rfl
 | false =>
  obtain ⟨k,_,h⟩:=key.2 hall
  rw[show ((0:Nat):Int)=0 from rfl] at h
  simp only[h,Option.bind_some,Sum.elim_inr]
  have:decide ((k:Int)≥0)=true:=by simp
  rw[this]; rfl
theorem VN {l:List P2} (hl:Short l):D4 l=some (l.all goodPt):=by
 unfold D4
 unfold Short at hl
 have key:=Hv (body:=fun s:List (Int×Int)×Int×Int=>DN s.1 s.2.1 s.2.2) (l:=l) (st:=fun k=>(l,(l.length:Int),(k:Int))) (p:=goodPt) (fin:=.inl ()) (bad:=fun k=>.inr false)
  (fun k a hk hp=>by
   have:=getL hk
   unfold DN
   simp only[Et hk,cond_true,Ah,hk,Option.bind_some,OA,hp,Bool.not_true,cond_false,wrap1 (show k<4611686018427387904 by omega)])
  (fun k a hk hp=>by
   unfold DN
   simp only[Et hk,cond_true,Ah,hk,Option.bind_some,OA,hp,Bool.not_false])
  (by unfold DN; simp only[JG,cond_false])
 cases hall:l.all goodPt with
 | true =>
  have h:=key.1 hall
  rw[show ((0:Nat):Int)=0 from rfl] at h
  simp only[h,Option.bind_some,Sum.elim_inl]
 | false =>
  obtain ⟨k,_,h⟩:=key.2 hall
  rw[show ((0:Nat):Int)=0 from rfl] at h
  simp only[h,Option.bind_some,Sum.elim_inr]
theorem PM {x y B C:Int} (hx : -B≤x∧x≤B) (hy : -C≤y∧y≤C) : -(B*C)≤x*y∧x*y≤B*C:=by
 have hB : 0≤B:=by omega
 have hC : 0≤C:=by omega
 constructor
 ·by_cases h : 0≤x
  ·have h1:=Int.mul_le_mul_of_nonneg_left (show -C≤y by omega) h
   have h2:=Int.mul_le_mul_of_nonneg_right (show x≤B by omega) hC
   have:x * -C = -(x*C):=Int.mul_neg ..
   omega
  ·have h1:=Int.mul_le_mul_of_nonneg_left (show y≤C by omega) (show 0≤-x by omega)
   have h2:=Int.mul_le_mul_of_nonneg_right (show -x≤B by omega) hC
   have : -x*y = -(x*y):=Int.neg_mul ..
   omega
 ·by_cases h : 0≤x
  ·have h1:=Int.mul_le_mul_of_nonneg_left (show y≤C by omega) h
   have h2:=Int.mul_le_mul_of_nonneg_right (show x≤B by omega) hC
   omega
  ·have h1:=Int.mul_le_mul_of_nonneg_left (show -C≤y by omega) (show 0≤-x by omega)
   have h2:=Int.mul_le_mul_of_nonneg_right (show -x≤B by omega) hC
   have e1 : -x * -C=x*C:=Int.neg_mul_neg ..
   have e2 : -x*y = -(x*y):=Int.neg_mul ..
   have e3 : -x*C = -(x*C):=Int.neg_mul ..
   omega
section
variable {a b c d p:P2} (ha:goodPt a=true) (hb:goodPt b=true) (hc:goodPt c=true) (hd:goodPt d=true) (hp:goodPt p=true)
include ha hb hc
end
end
section
open Go
def isWay (l:List P2):Bool:=(decide (3≤l.length)&&decide (l.length≤12))&&l.all goodPt
theorem B8 {l:List P2}:isWay l=true↔(3≤l.length∧l.length≤12)∧∀ p∈l,goodPt p=true:=by
 simp[isWay,List.all_eq_true,and_assoc]
theorem OU (l:List P2):within (l.length:Int) 3 12=(decide (3≤l.length)&&decide (l.length≤12)):=by
 unfold within
 congr 1 <;> rw[decide_eq_decide] <;> omega
theorem Q8 {l:List P2} (h:Short l):Ec l=some (isWay l):=by
 unfold Ec isWay
 simp only[NC,Option.bind_some,Sn h,OU]
 cases (decide (3≤l.length)&&decide (l.length≤12)) <;> rfl
theorem Rh {l:List P2} (h:Short l):Eh l=some (isWay l):=by
 unfold Eh isWay
 simp only[Vk,Option.bind_some,VN h,OU]
 cases (decide (3≤l.length)&&decide (l.length≤12)) <;> rfl
theorem Nc {p q:P2} (hp:goodPt p=true) (hq:goodPt q=true):(-1000000≤p.1*q.2∧p.1*q.2≤1000000)∧(-1000000≤q.1*p.2∧q.1*p.2≤1000000):=by
 rw[Dm] at hp hq
 have h1:=PM (x:=p.1) (y:=q.2) (B:=1000) (C:=1000) (by omega) (by omega)
 have h2:=PM (x:=q.1) (y:=p.2) (B:=1000) (C:=1000) (by omega) (by omega)
 omega
theorem Lb {l:List P2} (hg:∀ p∈l,goodPt p=true) (hl:l.length≤1000) (k:Nat) : -2000000000≤tot (fun p:P2×P2=>p.1.1*p.2.2-p.2.1*p.1.2) ((ring l).take k)∧tot (fun p:P2×P2=>p.1.1*p.2.2-p.2.1*p.1.2) ((ring l).take k)≤2000000000:=by
 have:=Nd (f:=fun p:P2×P2=>p.1.1*p.2.2-p.2.1*p.1.2) (B:=2000000) (by omega) (l:=ring l) (fun a ha=>by
  have:=Pb ha
  have:=Nc (hg _ this.1) (hg _ this.2)
  omega) k
 rw[Ng] at this
 omega
end
section
open Go
variable {α β γ:Type}
theorem AG {s t:Str} (h:s.length + t.length≤9223372036854775807):catS s t=some (s++t):=by unfold catS; rw[if_pos h]
end
section
open Go
def isDig (b:UInt8):Bool:=decide (48≤b.toNat)&&decide (b.toNat≤57)
theorem Co {b:UInt8}:isDig b=true↔48≤b.toNat∧b.toNat≤57:=by simp[isDig]
def valF (n:Nat) (l:Str):Nat:=l.foldl (fun a b=>a*10 + (b.toNat-48)) n
theorem Qb (n:Nat) (l:Str) (b:UInt8):valF n (l ++ [b])=valF n l*10 + (b.toNat-48):=by unfold valF; simp
def Canon (l:Str):Prop:=(∀ b∈l,isDig b=true)∧l≠[]∧¬(l.head? = some 48∧1<l.length)
theorem Ab5 {b:UInt8} (h : 48≤b.toNat):UInt8.ofNat (48 + (b.toNat-48))=b:=by
 rw[show 48 + (b.toNat-48)=b.toNat by omega]; exact UInt8.ofNat_toNat
theorem Ss {n:Nat} (h:n<10):isDig (UInt8.ofNat (48 + n))=true∧(UInt8.ofNat (48 + n)).toNat=48 + n:=by
 have:(UInt8.ofNat (48 + n)).toNat=48 + n:=by rw[UInt8.toNat_ofNat']; omega
 exact ⟨Co.2 (by omega),this⟩
theorem Rl {b:UInt8}:b=48↔b.toNat=48:=by
 constructor
 ·rintro rfl; rfl
 ·intro h
  have:b.toNat=(48:UInt8).toNat:=h
  exact UInt8.toNat_inj.1 this
theorem Sj:∀ (l:Str) (n:Nat),1≤n→1≤valF n l
 | [],n,h=>h
 | b::l,n,h=>by
  unfold valF
  rw[List.foldl_cons]
  exact Sj l _ (by omega)
theorem Wu {b:UInt8} {l:Str} (hb:isDig b=true) (h:b≠48) : 1≤valF 0 (b::l):=by
 unfold valF
 rw[List.foldl_cons]
 refine Sj l _ ?_
 have:=Co.1 hb
 have h2:b.toNat≠48:=fun h2=>h (Rl.2 h2)
 omega
theorem QH:∀ (n:Nat) (l:Str),l.length=n→Canon l→Lib.decDigits (valF 0 l)=l
 | 0,l,hn,h=>absurd (List.eq_nil_of_length_eq_zero hn) h.2.1
 | n + 1,l,hn,h=>by
  obtain ⟨e,b,rfl⟩:∃ e b,l=e ++ [b]:=⟨l.dropLast,l.getLast h.2.1,(List.dropLast_concat_getLast h.2.1).symm⟩
  have hb:=Co.1 (h.1 b (by simp))
  rw[Qb]
  cases e with
  | nil =>
   show Lib.decDigits (0*10 + (b.toNat-48)) = [b]
   rw[Lib.decDigits_one (by omega),Nat.zero_mul,Nat.zero_add,Ab5 hb.1]
  | cons c e =>
   have hc0:c≠48:=by
    rintro rfl
    exact h.2.2 ⟨rfl,by simp⟩
   have hcd:isDig c=true:=h.1 c (by simp)
   have h1:=Wu (l:=e) hcd hc0
   rw[Lib.decDigits,dif_neg (by omega),show (valF 0 (c::e)*10 + (b.toNat-48))/10=valF 0 (c::e) by omega,show (valF 0 (c::e)*10 + (b.toNat-48))%10=b.toNat-48 by omega,Ab5 hb.1,
    QH n (c::e) (by simpa using hn) ⟨fun x hx=>h.1 x (by simp at hx ⊢; rcases hx with rfl | hx <;> simp_all),by simp,fun hh=>hc0 (Option.some.inj hh.1)⟩]
theorem Ee (u:Nat):Canon (Lib.decDigits u)∧valF 0 (Lib.decDigits u)=u∧(1≤u→(Lib.decDigits u).head? ≠ some 48):=by
 induction u using Nat.strongRecOn with
 | ind u ih =>
  by_cases h:u<10
  ·rw[Lib.decDigits_one h]
   obtain ⟨h1,h2⟩:=Ss h
   refine ⟨⟨fun b hb=>by cases List.mem_singleton.1 hb; exact h1,by simp,fun hh=>by simp at hh⟩,?_,fun hu=>?_⟩
   ·show 0*10 + ((UInt8.ofNat (48 + u)).toNat-48)=u
    rw[h2]; omega
   ·intro hh
    have:=Rl.1 (Option.some.inj hh)
    omega
  ·obtain ⟨⟨c1,c2,c3⟩,h2,h3⟩:=ih (u/10) (by omega)
   obtain ⟨g1,g2⟩:=Ss (n:=u%10) (by omega)
   have hh:(Lib.decDigits (u/10) ++ [UInt8.ofNat (48 + u%10)]).head? ≠ some 48:=by
    rw[List.head?_append]
    cases hz:Lib.decDigits (u/10) with
    | nil=>exact absurd hz c2
    | cons a t=>rw[hz] at h3; exact h3 (by omega)
   rw[Lib.decDigits,dif_neg h]
   refine ⟨⟨fun b hb=>?_,by simp,fun h=>hh h.1⟩,?_,fun _=>hh⟩
   ·rcases List.mem_append.1 hb with hb | hb
    ·exact c1 b hb
    ·cases List.mem_singleton.1 hb; exact g1
   ·rw[Qb,h2,g2]; omega
theorem RI {u:Nat} {t:Str}:Lib.decDigits u≠45::t:=by
 intro h
 have:=(Ee u).1.1 45 (by rw[h]; simp)
 simp[isDig] at this
theorem Td {u:Nat}:(Lib.decDigits u).length≤4↔u≤9999:=by
 rw[Lib.decDigits_length]
 have h1:=Lib.lt_pow_nDigits u
 constructor
 ·intro h
  have : 10 ^ Lib.nDigits u≤10 ^ 4:=Nat.pow_le_pow_right (by omega) h
  omega
 ·intro h
  by_cases h0:u<10
  ·rw[Lib.nDigits_small h0]; omega
  by_cases h0:u<100
  ·rw[Lib.nDigits_unique 1 u (by omega) (by omega)]; omega
  by_cases h0:u<1000
  ·rw[Lib.nDigits_unique 2 u (by omega) (by omega)]; omega
  ·rw[Lib.nDigits_unique 3 u (by omega) (by omega)]; omega
theorem OJ:∀ (l:Str) (acc:Nat),(∀ b∈l,isDig b=true)→acc*10 ^ l.length + 10 ^ l.length≤1000000000000000000→Lib.parseUint10 acc l = .ok (valF acc l)
 | [],acc,_,_=>rfl
 | b::l,acc,h,hl=>by
  have hb:=Co.1 (h b (by simp))
  have hp : 1≤10 ^ l.length:=Nat.one_le_pow _ _ (by omega)
  have e:(b::l).length=l.length + 1:=rfl
  rw[e,Nat.pow_succ] at hl
  have h1:acc*(10 ^ l.length*10)=(acc*10)*10 ^ l.length:=by rw[Nat.mul_comm (10 ^ l.length) 10,Nat.mul_assoc]
  rw[h1] at hl
  have h2:acc*10≤(acc*10)*10 ^ l.length:=Nat.le_mul_of_pos_right _ (by omega)
  have h3:(acc*10 + (b.toNat-48))*10 ^ l.length≤(acc*10)*10 ^ l.length + 9*10 ^ l.length:=by
   rw[←Nat.add_mul]
   exact Nat.mul_le_mul_right _ (by omega)
  rw[Lib.parseUint10,if_pos hb,if_neg (by omega),if_neg (by omega),OJ l _ (fun x hx=>h x (List.mem_cons_of_mem _ hx)) (by omega)]
  rfl
theorem VQ {b:UInt8} {n:Nat} (hd:isDig b=true) (h:n<48):b.toNat≠n:=by have:=Co.1 hd; omega
theorem W6 {v:Int} (h0 : -9999≤v) (h1:v≤9999):Lib.atoiAll (Lib.itoa v) = .ok v:=by
 have key:∀ u:Nat,u≤9999→Lib.parseMag (Lib.decDigits u) = .ok u:=by
  intro u hu
  obtain ⟨⟨c1,c2,_⟩,c4,_⟩:=Ee u
  have h4:=Td.2 hu
  unfold Lib.parseMag
  rw[if_neg c2,OJ _ _ c1 (by
   have : 10 ^ (Lib.decDigits u).length≤10 ^ 4:=Nat.pow_le_pow_right (by omega) h4
   omega),c4]
 unfold Lib.itoa
 by_cases hv:v<0
 ·rw[if_pos hv]
  unfold Lib.atoiAll
  simp only
  rw[if_pos (Or.inr (by rfl)),key v.natAbs (by omega)]
  simp only
  rw[if_neg (fun h=>h.1 rfl),if_neg (by omega),if_pos (by rfl)]
  congr 1; omega
 ·rw[if_neg hv]
  have hk:=key v.toNat (by omega)
  obtain ⟨⟨c1,c2,_⟩,_⟩:=Ee v.toNat
  cases hz:Lib.decDigits v.toNat with
  | nil=>exact absurd hz c2
  | cons b t =>
   rw[hz] at hk c1
   have hb:=c1 b (by simp)
   unfold Lib.atoiAll
   simp only
   rw[if_neg (by
    rintro (h | h)
    ·exact VQ hb (by omega) h
    ·exact VQ hb (by omega) h),hk]
   simp only
   rw[if_neg (by omega),if_neg (fun h=>VQ hb (by omega) h.1),if_neg (VQ hb (by omega))]
   congr 1; omega
end
section
open Go
theorem HQ {p:UInt8→Bool}:∀ {l:Str},∀ b∈l.takeWhile p,p b=true
 | [],b,h=>by simp at h
 | a::l,b,h=>by
  rw[List.takeWhile_cons] at h
  by_cases ha:p a=true
  ·rw[if_pos ha] at h
   rcases List.mem_cons.1 h with rfl | h
   ·exact ha
   ·exact HQ b h
  ·rw[if_neg ha] at h
   exact absurd h List.not_mem_nil
def digs (s:Str) (n k:Nat):Str:=((s.drop k).take n).takeWhile isDig
theorem PN (s:Str) (k:Nat):digs s 0 k = []:=by simp[digs]
theorem OL {s:Str} {k:Nat} (n:Nat) (h:s.length≤k):digs s n k = []:=by simp[digs,List.drop_eq_nil_of_le h]
theorem PT {s:Str} {k n:Nat} {b:UInt8} (h:s[k]? = some b):digs s (n + 1) k=if isDig b then b::digs s n (k + 1) else []:=by
 have hlt:=getL h
 unfold digs
 rw[List.drop_eq_getElem_cons hlt,List.take_succ_cons,List.takeWhile_cons]
 have:s[k]=b:=by rw[List.getElem?_eq_getElem hlt] at h; exact Option.some.inj h
 rw[this]
theorem S9 (s:Str) (n k:Nat):(digs s n k).length≤n:=by
 have h1:=(List.takeWhile_sublist isDig (l:=(s.drop k).take n)).length_le
 have h2:=List.length_take_le n (s.drop k)
 unfold digs; omega
theorem S4 (s:Str) (n k:Nat):∀ b∈digs s n k,isDig b=true:=HQ
theorem RN (s:Str):∀ (n k i:Nat),i<(digs s n k).length→s[k + i]? = (digs s n k)[i]?
 | 0,k,i,h=>by rw[PN] at h; simp at h
 | n + 1,k,i,h=>by
  by_cases hk:k<s.length
  ·have e:=PT (n:=n) (List.getElem?_eq_getElem hk)
   rw[e] at h ⊢
   by_cases hd:isDig s[k]=true
   ·rw[if_pos hd] at h ⊢
    cases i with
    | zero=>simp[hk]
    | succ i =>
     rw[show k + (i + 1)=(k + 1) + i by omega,RN s n (k + 1) i (by simpa using h)]
     simp
   ·rw[if_neg hd] at h; simp at h
  ·rw[OL _ (by omega)] at h; simp at h
theorem ZR (l:Str) (h:∀ b∈l,isDig b=true):valF 0 l<10 ^ l.length:=by
 have key:∀ (l:Str) (n:Nat),(∀ b∈l,isDig b=true)→valF n l<(n + 1)*10 ^ l.length:=by
  intro l
  induction l with
  | nil=>intro n _; simp[valF]
  | cons b l ih =>
   intro n h
   have hb:=Co.1 (h b (by simp))
   have:=ih (n*10 + (b.toNat-48)) (fun x hx=>h x (List.mem_cons_of_mem _ hx))
   have e:valF n (b::l)=valF (n*10 + (b.toNat-48)) l:=rfl
   rw[e,List.length_cons,Nat.pow_succ,Nat.mul_comm (10 ^ l.length) 10,←Nat.mul_assoc]
   refine Nat.lt_of_lt_of_le this (Nat.mul_le_mul_right _ (by omega))
 have:=key l 0 h
 simpa using this
theorem Yv {s:Str} (hs:s.length<4611686018427387904) {a:Nat} (ha:a<4611686018427387904):∀ (m:Nat) (n k:Nat),k + m=a + 4→a≤k→n<10 ^ (k-a) →
  loopM (fun (t:(Str×(Int×(Int×Int))))=>Br t.1 t.2.1 t.2.2.1 t.2.2.2) (s,(a:Int),(n:Int),(k:Int))=some (s,(a:Int),((valF n (digs s m k):Nat):Int),((k + (digs s m k).length:Nat):Int)):=by
 intro m
 induction m with
 | zero =>
  intro n k hk hak hn
  rw[PN]
  refine Ap ?_
  unfold Br
  simp only
  by_cases h1:(k:Int)<(s.length:Int)
  ·rw[decide_eq_true h1,cT,wrapI (by omega) (by omega),decide_eq_false (by omega),cF]
   rfl
  ·rw[decide_eq_false h1,cF]
   rfl
 | succ m ih =>
  intro n k hk hak hn
  by_cases h1:k<s.length
  ·have e:s[k]? = some s[k]:=List.getElem?_eq_getElem h1
   generalize s[k]=b at e
   rw[PT e]
   have hb:=b.toNat_lt
   by_cases hd:isDig b=true
   ·have hd':=Co.1 hd
    have hp : 10 ^ (k-a)≤10 ^ 3:=Nat.pow_le_pow_right (by omega) (by omega)
    rw[if_pos hd]
    have hgo:(fun (t:(Str×(Int×(Int×Int))))=>Br t.1 t.2.1 t.2.2.1 t.2.2.2) (s,(a:Int),(n:Int),(k:Int))=some (.inl (s,(a:Int),((n*10 + (b.toNat-48):Nat):Int),((k + 1:Nat):Int))):=by
     unfold Br
     simp only
     rw[decide_eq_true (by omega),cT,wrapI (n:=(a:Int) + 4) (by omega) (by omega),decide_eq_true (by omega),cT,Ah,e,obs,decide_eq_true (by omega),cT,obs,decide_eq_true (by omega),cT,obs,wrap1 (by omega)]
     have w1:IntKind.wrap .u8 (((b.toNat:Nat):Int)-48)=((b.toNat-48:Nat):Int):=by rw[IntKind.wrap_u8]; omega
     rw[w1,wrapI (n:=((b.toNat-48:Nat):Int)) (by omega) (by omega),wrapI (n:=10*(n:Int)) (by omega) (by omega),wrapI (by omega) (by omega)]
     congr 4
     have:(10:Int)*(n:Int) + ((b.toNat-48:Nat):Int)=((n*10 + (b.toNat-48):Nat):Int):=by push_cast; omega
     rw[this]
    rw[A7 hgo,ih (n*10 + (b.toNat-48)) (k + 1) (by omega) (by omega) (by
     rw[show k + 1-a=(k-a) + 1 by omega,Nat.pow_succ]; omega)]
    congr 4
    simp only[List.length_cons]
    congr 1
    omega
   ·have hd':¬(48≤b.toNat∧b.toNat≤57):=fun h=>hd (Co.2 h)
    rw[if_neg hd]
    refine Ap ?_
    unfold Br
    simp only
    rw[decide_eq_true (by omega),cT,wrapI (n:=(a:Int) + 4) (by omega) (by omega),decide_eq_true (by omega),cT,Ah,e,obs]
    by_cases c : 48≤b.toNat
    ·rw[decide_eq_true (by omega),cT,obs,decide_eq_false (by omega),cF]
     rfl
    ·rw[decide_eq_false (by omega),cF]
     rfl
  ·rw[OL _ (by omega)]
   refine Ap ?_
   unfold Br
   simp only
   rw[decide_eq_false (by omega),cF]
   rfl
def badD (d:Str):Prop:=d = []∨(d.head? = some 48∧1<d.length)
instance (d:Str):Decidable (badD d):=by unfold badD; infer_instance
def intAt (s:Str) (a:Nat):Int×Int:=let d:=digs s 4 a; if badD d then (-1,(a:Int)) else ((valF 0 d:Nat),((a + d.length:Nat):Int))
theorem NA {s:Str} (hs:s.length<4611686018427387904) {a:Nat} (ha:a<4611686018427387904):EW s (a:Int)=some (intAt s a):=by
 unfold EW intAt
 have h:=Yv hs ha 4 0 a rfl (Nat.le_refl _) (by simp)
 have h':loopM (fun (t:(Str×(Int×(Int×Int))))=>Br t.1 t.2.1 t.2.2.1 t.2.2.2) (s,(a:Int),(0:Int),(a:Int))=_:=h
 rw[h',obs]
 have hl:=S9 s 4 a
 have h0:=RN s 4 a 0
 cases hd:digs s 4 a with
 | nil =>
  have hb0:badD ([]:Str):=Or.inl rfl
  simp only[hb0,if_true,List.length_nil,Nat.add_zero,beq_self_eq_true,cond_true]
 | cons b t =>
  rw[hd] at hl h0
  have hb:s[a]? = some b:=by
   have:=h0 (by simp)
   rw[Nat.add_zero] at this
   rw[this]
   rfl
  have hlb:=getL hb
  simp only[List.length_cons] at hl ⊢
  rw[show (((a + (t.length + 1):Nat):Int)==(a:Int))=false by simp; omega,cF,Ah,hb,obs]
  by_cases c:b=48
  ·subst c
   rw[show ((((48:UInt8).toNat:Nat):Int)==48)=true from rfl,cT,wrapI (by omega) (by omega)]
   by_cases c2:t.length=0
   ·have hn:¬badD (48::t):=by
     rintro (h | ⟨_,h⟩)
     ·cases h
     ·simp at h; omega
    rw[decide_eq_false (by omega),cF,if_neg hn]
   ·rw[decide_eq_true (by omega),cT,if_pos (show badD (48::t) from Or.inr ⟨rfl,by simp; omega⟩)]
  ·have c':¬b.toNat=48:=fun h=>c (Rl.2 h)
   have hn:¬badD (b::t):=by
    rintro (h | ⟨h,_⟩)
    ·cases h
    ·exact c (Option.some.inj h)
   rw[show ((((b.toNat:Nat):Int))==48)=false by simp; omega,cF,if_neg hn]
end
section
open Go
theorem Dw {n:Nat} (h:n<18446744073709551616):(Lib.decDigits n).length≤20:=by rw[Lib.decDigits_length]; exact Lib.nDigits_le20 n h
theorem Ot {n:Int} (h0 : -9223372036854775808≤n) (h1:n≤9223372036854775807):Bz n=some (Lib.itoa n):=by
 unfold Bz Pc
 rw[if_pos ⟨h0,h1⟩]
theorem F0 {n:Int} (h0 : -9223372036854775808≤n) (h1:n<9223372036854775808):(Lib.itoa n).length≤21:=by
 unfold Lib.itoa
 split
 ·have:=Dw (n:=n.natAbs) (by omega)
  simp; omega
 ·have:=Dw (n:=n.toNat) (by omega)
  omega
end
section
open Go
def rdNum (s:Str):Int×Bool:=match Lib.atoiAll s with | .ok v=>if -9999≤v∧v≤9999∧Lib.itoa v=s then (v,true) else (0,false) | _=>(0,false)
theorem TL {v:Int} (h : -9999≤v∧v≤9999):rdNum (Lib.itoa v)=(v,true):=by
 unfold rdNum
 rw[W6 h.1 h.2]
 simp only
 rw[if_pos ⟨h.1,h.2,trivial⟩]
theorem Fp (s:Str):(∃ v:Int,-9999≤v∧v≤9999∧s=Lib.itoa v∧rdNum s=(v,true))∨(rdNum s=(0,false)∧∀ v:Int,-9999≤v→v≤9999→s≠Lib.itoa v):=by
 by_cases h:∃ v:Int,-9999≤v∧v≤9999∧s=Lib.itoa v
 ·obtain ⟨v,h0,h1,rfl⟩:=h
  exact .inl ⟨v,h0,h1,rfl,TL ⟨h0,h1⟩⟩
 ·refine .inr ⟨?_,fun v h0 h1 h2=>h ⟨v,h0,h1,h2⟩⟩
  unfold rdNum
  split
  ·rw[if_neg]
   rintro ⟨h0,h1,h2⟩
   exact h ⟨_,h0,h1,h2.symm⟩
  ·rfl
theorem ZP (n:Int):CW n=some (decide (-9999≤n∧n≤9999)):=by
 unfold CW AR
 by_cases h:n≥-9999
 ·rw[decide_eq_true h,cT,obs]; congr 1; simp; omega
 ·rw[decide_eq_false h,cF,obs]; congr 1; simp; omega
theorem RZ {s:Str} (hs:s.length≤281474976710656):Ci s=some (rdNum s):=by
 unfold Ci Eu Nw rdNum atoiV
 rw[if_pos hs,obs]
 cases hz:Lib.atoiAll s with
 | ok v =>
  simp only[cF,ZP,obs]
  by_cases h : -9999≤v∧v≤9999
  ·rw[decide_eq_true h,nT,cF,Ot (by omega) (by omega),obs]
   by_cases h2:Lib.itoa v=s
   ·rw[if_pos ⟨h.1,h.2,h2⟩,h2,beq_self_eq_true,nT,cF]
   ·rw[if_neg (fun hh=>h2 hh.2.2),beq_eq_false_iff_ne.2 h2,nF,cT]
  ·rw[decide_eq_false h,nF,cT,if_neg (fun hh=>h ⟨hh.1,hh.2.1⟩)]
 | range=>rfl
 | _=>rfl
theorem Uz {d t:Str} {n:Nat} (h:Canon d) (hn:d.length≤n) (hb:∀ b,t.head? = some b→isDig b=false):digs (d++t) n 0=d:=by
 unfold digs
 rw[List.drop_zero]
 have key:∀ (d:Str) (n:Nat),(∀ b∈d,isDig b=true)→d.length≤n→((d++t).take n).takeWhile isDig=d:=by
  intro d
  induction d with
  | nil =>
   intro n _ _
   cases n with
   | zero=>simp
   | succ n =>
    cases t with
    | nil=>simp
    | cons b t=>simp[hb b rfl]
  | cons b d ih =>
   intro n hd hn
   cases n with
   | zero=>simp at hn
   | succ n =>
    rw[List.cons_append,List.take_succ_cons,List.takeWhile_cons,if_pos (hd b (by simp)),ih n (fun x hx=>hd x (List.mem_cons_of_mem _ hx)) (by simpa using hn)]
 exact key d n h.1 hn
theorem Vh {d:Str} (h:Canon d):¬badD d:=by
 rintro (h1 | h1)
 ·exact h.2.1 h1
 ·exact h.2.2 h1
theorem Ug {s:Str} {n k:Nat} (h:¬badD (digs s n k)):Canon (digs s n k):=⟨S4 s n k,fun h1=>h (.inl h1),fun h1=>h (.inr h1)⟩
theorem Ld (u:Nat) (hu:u≤9999):intAt (Lib.decDigits u) 0=((u:Int),((Lib.decDigits u).length:Int)):=by
 obtain ⟨h1,h2,_⟩:=Ee u
 have hd:=Uz (t:=[]) h1 (Td.2 hu) (by simp)
 rw[List.append_nil] at hd
 unfold intAt
 simp only[hd,if_neg (Vh h1),h2,Nat.zero_add]
theorem LZ (t:Str):(∃ u:Nat,u≤9999∧t=Lib.decDigits u)∨((intAt t 0).1<0∨(intAt t 0).2<(t.length:Int)):=by
 by_cases hb:badD (digs t 4 0)
 ·right; left
  unfold intAt
  simp only[if_pos hb]
  omega
 ·have hc:=Ug hb
  have hl:=S9 t 4 0
  by_cases hh:(digs t 4 0).length<t.length
  ·right; right
   unfold intAt
   simp only[if_neg hb,Nat.zero_add]
   omega
  ·left
   have he:digs t 4 0=t:=by
    have h1:(digs t 4 0).length≤t.length:=by
     have:=(List.takeWhile_sublist isDig (l:=(t.drop 0).take 4)).length_le
     have h2:=List.length_take_le' 4 (t.drop 0)
     unfold digs
     simp only[List.drop_zero] at this h2 ⊢
     omega
    refine List.ext_getElem (by omega) fun i h2 h3=>?_
    have:=RN t 4 0 i h2
    rw[Nat.zero_add,List.getElem?_eq_getElem h3,List.getElem?_eq_getElem h2] at this
    exact (Option.some.inj this).symm
   refine ⟨valF 0 (digs t 4 0),?_,?_⟩
   ·have:=ZR _ (S4 t 4 0)
    have h2 : 10 ^ (digs t 4 0).length≤10 ^ 4:=Nat.pow_le_pow_right (by omega) hl
    omega
   ·rw[QH _ _ rfl hc,he]
theorem sub1 {s:Str} {b:UInt8}:(subI (1:Int) (((b::s).length:Nat):Int) (b::s).length)=some (1,(b::s).length):=by
 unfold subI
 rw[if_pos (by simp only[List.length_cons]; omega)]
 simp
theorem RP {s:Str} (hs:s.length<4611686018427387904):Cf s=some (rdNum s):=by
 unfold Cf
 cases s with
 | nil =>
  rw[show decide ((((([]:Str).length):Nat):Int)>0)=false from rfl,cF,obs]
  simp only[Sum.elim_inr]
  rw[cF,obs]
  simp only[Sum.elim_inr]
  rw[show ((0:Int))=((0:Nat):Int) from rfl,NA hs (by omega),obs]
  rcases Fp ([]:Str) with ⟨v,h0,h1,h2,_⟩ | ⟨h,_⟩
  ·exfalso
   unfold Lib.itoa at h2
   split at h2
   ·cases h2
   ·exact (Ee _).1.2.1 h2.symm
  ·rw[h]
   have:intAt ([]:Str) 0=(-1,0):=by
    unfold intAt
    simp only[OL 4 (show ([]:Str).length≤0 by simp)]
    rfl
   rw[this]
   rfl
 | cons b t =>
  rw[decide_eq_true (show (((((b::t)).length:Nat):Int)>0) by simp only[List.length_cons]; omega),cT]
  have hg:getI (b::t) 0=some b:=rfl
  rw[hg,obs,obs]
  simp only[Sum.elim_inr]
  have hlt:t.length<4611686018427387904:=by simp only[List.length_cons] at hs; omega
  by_cases hb:b.toNat=45
  ·have hb':b=45:=UInt8.toNat_inj.1 (show b.toNat=(45:UInt8).toNat from hb)
   subst hb'
   rw[show ((((45:UInt8).toNat:Nat):Int)==45)=true from rfl,cT,sub1,obs,obs]
   simp only[Sum.elim_inr]
   rw[List.take_length,show List.drop 1 ((45:UInt8)::t)=t from rfl,show ((0:Int))=((0:Nat):Int) from rfl,NA hlt (by omega),obs]
   rcases Fp ((45:UInt8)::t) with ⟨v,h0,h1,h2,h3⟩ | ⟨h3,h4⟩
   ·rw[h3]
    have hv:v<0:=by
     rcases Int.lt_or_le v 0 with h | h
     ·exact h
     ·unfold Lib.itoa at h2
      rw[if_neg (by omega)] at h2
      exact absurd h2.symm RI
    have ht:t=Lib.decDigits v.natAbs:=by
     unfold Lib.itoa at h2
     rw[if_pos hv] at h2
     exact (List.cons.inj h2).2
    rw[ht,Ld _ (by omega)]
    simp only
    rw[decide_eq_false (by omega),cF,decide_eq_false (by omega),cF,cT,show (((v.natAbs:Nat):Int)==((0:Nat):Int))=false by simp; omega,cF,obs]
    simp only[Sum.elim_inr,cT]
    rw[wrapI (by omega) (by omega)]
    congr 2; omega
   ·rw[h3]
    rcases LZ t with ⟨u,hu,rfl⟩ | h
    ·rw[Ld _ hu]
     simp only
     rw[decide_eq_false (by omega),cF,decide_eq_false (by omega),cF,cT]
     by_cases hu0:u=0
     ·subst hu0
      rw[show ((((0:Nat):Int))==((0:Nat):Int))=true from rfl,cT,obs]
      rfl
     ·exfalso
      refine h4 (-(u:Int)) (by omega) (by omega) ?_
      unfold Lib.itoa
      rw[if_pos (by omega),Int.natAbs_neg,Int.natAbs_natCast]
    ·by_cases hn:(intAt t 0).1<0
     ·rw[decide_eq_true (show (intAt t 0).1<((0:Nat):Int) from hn),cT,obs]; rfl
     ·have h:=h.resolve_left hn
      rw[decide_eq_false (show ¬(intAt t 0).1<((0:Nat):Int) from hn),cF,decide_eq_true h,cT,obs]; rfl
  ·rw[show (((b.toNat:Nat):Int)==45)=false by simp; omega,cF,obs]
   simp only[Sum.elim_inr]
   rw[show ((0:Int))=((0:Nat):Int) from rfl,NA hs (by omega),obs]
   rcases Fp (b::t) with ⟨v,h0,h1,h2,h3⟩ | ⟨h3,h4⟩
   ·rw[h3]
    have hv:¬v<0:=by
     intro h
     unfold Lib.itoa at h2
     rw[if_pos h] at h2
     exact hb (by rw[(List.cons.inj h2).1]; rfl)
    have ht:b::t=Lib.decDigits v.toNat:=by
     unfold Lib.itoa at h2
     rw[if_neg hv] at h2
     exact h2
    rw[ht,Ld _ (by omega)]
    simp only
    rw[decide_eq_false (by omega),cF,decide_eq_false (by omega),cF,cF,obs]
    simp only[Sum.elim_inr,cF]
    congr 2; omega
   ·rw[h3]
    rcases LZ (b::t) with ⟨u,hu,he⟩ | h
    ·exfalso
     refine h4 (u:Int) (by omega) (by omega) ?_
     unfold Lib.itoa
     rw[if_neg (by omega),Int.toNat_natCast,he]
    ·by_cases hn:(intAt (b::t) 0).1<0
     ·rw[decide_eq_true (show (intAt (b::t) 0).1<((0:Nat):Int) from hn),cT,obs]; rfl
     ·have h:=h.resolve_left hn
      rw[decide_eq_false (show ¬(intAt (b::t) 0).1<((0:Nat):Int) from hn),cF,decide_eq_true h,cT,obs]; rfl
end
section
open Go
theorem Jc (b c:UInt8) (l:Str):Lib.index (b::l) [c]=if b=c then 0 else if Lib.index l [c] = -1 then -1 else Lib.index l [c] + 1:=by
 rw[Lib.index]
 have:([c]:Str).isPrefixOf (b::l)=(c==b):=by simp[List.isPrefixOf]
 rw[this]
 by_cases h:b=c
 ·subst h; simp
 ·rw[if_neg (show ¬(c==b)=true by simpa using Ne.symm h),if_neg h]
  by_cases h2:Lib.index l [c] = -1
  ·simp[h2]
  ·rw[if_neg (by simpa using h2),if_neg h2]
theorem OH {c:UInt8}:∀ {s:Str},c ∉ s→Lib.index s [c] = -1
 | [],_=>by rw[Lib.index]; rfl
 | b::l,h=>by
  rw[Jc,if_neg (fun e=>h (by rw[e]; simp)),if_pos (OH (fun hm=>h (List.mem_cons_of_mem _ hm)))]
theorem Jm {c:UInt8}:∀ {x r:Str},c ∉ x→Lib.index (x++c::r) [c]=(x.length:Nat)
 | [],r,_=>by rw[List.nil_append,Jc,if_pos rfl]; rfl
 | b::x,r,h=>by
  have ih:=Jm (r:=r) (fun hm:c∈x=>h (List.mem_cons_of_mem _ hm))
  rw[List.cons_append,Jc,if_neg (fun e=>h (by rw[e]; simp)),ih,if_neg (by omega),List.length_cons]
  omega
theorem UX (c:UInt8) (s:Str):c ∉ s∨∃ x r,s=x++c::r∧c ∉ x:=by
 by_cases h:c∈s
 ·right
  induction s with
  | nil=>exact absurd h List.not_mem_nil
  | cons b l ih =>
   by_cases hb:b=c
   ·subst hb; exact ⟨[],l,rfl,List.not_mem_nil⟩
   ·have hm:c∈l:=by
     rcases List.mem_cons.1 h with rfl | h
     ·exact absurd rfl hb
     ·exact h
    obtain ⟨x,r,h1,h2⟩:=ih hm
    refine ⟨b::x,r,by rw[h1,List.cons_append],fun h3=>?_⟩
    rcases List.mem_cons.1 h3 with rfl | h3
    ·exact hb rfl
    ·exact h2 h3
 ·exact .inl h
def parts (c:UInt8) (s:Str):List Str:=Lib.split s [c]
theorem CE {c:UInt8} {s:Str} (h:c ∉ s):parts c s = [s]:=by
 unfold parts Lib.split
 rw[Lib.count_miss (OH h)]
 rfl
theorem Fm {c:UInt8} {x r:Str} (h:c ∉ x):parts c (x++c::r)=x::parts c r:=by
 unfold parts Lib.split
 have e:List.drop (x.length + ([c]:Str).length) (x++c::r)=r:=by simp
 rw[Lib.count_hit (by simp) (Jm h),e,Nat.add_comm,Lib.splitK,Jm h,if_neg (by simp),Int.toNat_natCast,Nat.add_zero,e]
 simp
theorem XT (c:UInt8) (s:Str):parts c s≠[]:=by
 rcases UX c s with h | ⟨x,r,rfl,h⟩
 ·rw[CE h]; simp
 ·rw[Fm h]; simp
theorem P7 {c:UInt8}:∀ (n:Nat) (s:Str),s.length≤n→∀ p∈parts c s,p.length≤s.length:=by
 intro n
 induction n with
 | zero =>
  intro s hs p hp
  have:s = []:=List.eq_nil_of_length_eq_zero (by omega)
  subst this
  rw[CE (by simp)] at hp
  cases List.mem_singleton.1 hp
  exact Nat.le_refl _
 | succ n ih =>
  intro s hs p hp
  rcases UX c s with h | ⟨x,r,rfl,h⟩
  ·rw[CE h] at hp
   cases List.mem_singleton.1 hp
   exact Nat.le_refl _
  ·rw[Fm h] at hp
   rw[List.length_append,List.length_cons] at hs ⊢
   rcases List.mem_cons.1 hp with rfl | hp
   ·omega
   ·have:=ih r (by omega) p hp
    omega
theorem O4 {c:UInt8}:∀ (xs:List Str),xs≠[]→(∀ x∈xs,c ∉ x)→parts c (Lib.join xs [c])=xs
 | [],h,_=>absurd rfl h
 | [x],_,h=>by rw[Lib.join_one,CE (h x (by simp))]
 | x::y::r,_,h=>by
  have ih:=O4 (c:=c) (y::r) (by simp) (fun z hz=>h z (List.mem_cons_of_mem _ hz))
  have e:Lib.join (x::y::r) [c]=x++c::Lib.join (y::r) [c]:=by
   rw[Lib.join_cons,Lib.join_cons]
   simp[Lib.joinTail]
  rw[e,Fm (h x (by simp)),ih]
theorem XB (s:Str) (c:UInt8):splitS s [c]=parts c s:=by
 unfold splitS parts Lib.split
 exact Lib.splitB_data ⟨#[c]⟩ 0 _ ⟨s.toArray⟩
theorem Yn {s:Str} {c:UInt8} (h:s.length<4294967281):IB s [c]=some (parts c s):=by
 unfold IB
 rw[if_pos ⟨h,by simp⟩,XB]
end
section
open Go
abbrev Pn:=Int×Int
abbrev Wy:=List Pn
theorem Ui {s:Str} (hs:s.length≤1000):CU s=some (parts 32 s):=by
 unfold CU
 obtain ⟨b,h1,h2,h3,h4,h5⟩:=Cm (body:=fun (t:(List Str×(Str×(Int×Int))))=>Ce t.1 t.2.1 t.2.2.1 t.2.2.2)
  (fun k (b:List Str×Nat)=>(b.1,s,(b.2:Int),(k:Int))) (fun b=>(b.1,s,(b.2:Int))) (fun k b=>b.2≤k∧b.1.length≤k∧parts 32 s=b.1++parts 32 (s.drop b.2)∧(32:UInt8) ∉ (s.drop b.2).take (k-b.2)) s.length (by
   rintro k ⟨out,f⟩ hk ⟨h1,h2,h3,h4⟩
   simp only at h1 h2 h3 h4
   have he:s[k]? = some s[k]:=List.getElem?_eq_getElem hk
   generalize s[k]=c at he
   unfold Ce
   simp only
   rw[decide_eq_true (show (k:Int)<(s.length:Int) by omega),cT,Ah,he,obs]
   by_cases hc:c=32
   ·subst hc
    refine ⟨(out ++ [(s.drop f).take (k-f)],k + 1),?_,Nat.le_refl _,by simp; omega,?_,by simp⟩
    ·have hsub:subI (f:Int) (k:Int) s.length=some (f,k):=by unfold subI; rw[if_pos (by omega)]; rfl
     rw[show ((((32:UInt8).toNat:Nat):Int)==32)=true from rfl,cT,hsub,obs,Bh (by simp[maxBytes]; omega) (by simp[maxBytes]; omega),obs,wrap1 (by omega),List.drop_take]
    ·have hd:s.drop f=(s.drop f).take (k-f)++32::s.drop (k + 1):=by
      have e1:(s.drop f).drop (k-f)=s.drop k:=by rw[List.drop_drop]; congr 1; omega
      have e2:s.drop k=32::s.drop (k + 1):=by
       rw[List.drop_eq_getElem_cons hk]
       rw[List.getElem?_eq_getElem hk] at he
       rw[Option.some.inj he]
      rw[←e2,←e1,List.take_append_drop]
     rw[h3]
     conv=>lhs; rw[hd]
     rw[Fm h4]
     simp
   ·have hc':c.toNat≠32:=fun h=>hc (UInt8.toNat_inj.1 (show c.toNat=(32:UInt8).toNat from h))
    refine ⟨(out,f),?_,by simp only; omega,by simp only; omega,h3,?_⟩
    ·rw[show (((c.toNat:Nat):Int)==32)=false by simp; omega,cF,wrap1 (by omega)]
    ·simp only
     rw[show k + 1-f=(k-f) + 1 by omega,List.take_add_one,List.getElem?_drop,show f + (k-f)=k by omega,he]
     intro hm
     rcases List.mem_append.1 hm with hm | hm
     ·exact h4 hm
     ·simp at hm; exact hc hm.symm) (by
   rintro ⟨out,f⟩ _
   unfold Ce
   simp) 0 ([],0) (by omega) ⟨by simp,by simp,by simp,by simp⟩
 have h1':loopM (fun (t:(List Str×(Str×(Int×Int))))=>Ce t.1 t.2.1 t.2.2.1 t.2.2.2) (([]:List Str),s,(0:Int),(0:Int))=_:=h1
 obtain ⟨out,f⟩:=b
 simp only at h2 h3 h4 h5
 have hsub:subI (f:Int) (s.length:Int) s.length=some (f,s.length):=by unfold subI; rw[if_pos (by omega)]; rfl
 have hall:(s.drop f).take (s.length-f)=s.drop f:=List.take_of_length_le (by simp)
 rw[hall] at h5
 rw[h1',obs]
 simp only
 rw[hsub,obs,Bh (by simp[maxBytes]; omega) (by simp[maxBytes]; omega),obs,h4,CE h5,List.take_length]
def numAt (W:List Str) (i:Nat):Option Int:=match W[i]? with | none=>none | some s=>if (rdNum s).2 then some (rdNum s).1 else none
abbrev CV:=(Int×Nat) ⊕ (Nat×List Wy×Wy)
def ptV (g:Int×Int→Bool) (i:Nat) (ways:List Wy) (way:Wy) (p:Pn):CV:=if g p then .inr (i,ways,way ++ [p]) else .inl (6,i-1)
def goodP (p:Pn):Bool:=decide (-1000≤p.1∧p.1≤1000)&&decide (-1000≤p.2∧p.2≤1000)
def one (W:List Str) (i:Nat) (ways:List Wy) (way:Wy) (f:Int→Pn):CV:=match numAt W i with | none=>.inl (3,i) | some x=>ptV goodP (i + 1) ways way (f x)
def two (W:List Str) (i:Nat) (ways:List Wy) (way:Wy) (f:Int→Int→Pn):CV:=match numAt W i with | none=>.inl (3,i) | some x=>one W (i + 1) ways way (f x)
section
variable {W:List Str} (hW:W.length≤1000) (hs:∀ w∈W,w.length≤1000)
include hW hs
theorem S7 {i:Nat} (hi:i≤W.length) (ways:List Wy) (way:Wy):Ag (W,(i:Int),0) ways way=some (match numAt W i with | none=>((W,(i:Int),3),ways,way,0) | some x=>((W,((i + 1:Nat):Int),0),ways,way,x)):=by
 unfold Ag numAt
 simp only
 rw[show ((0:Int) != 0)=false from rfl,cF]
 by_cases h:i=W.length
 ·subst h
  rw[show ((W.length:Int)==(W.length:Int))=true by simp,cT,List.getElem?_eq_none (Nat.le_refl _)]
 ·have he:W[i]? = some (W[i]'(by omega)):=List.getElem?_eq_getElem (by omega)
  generalize (W[i]'(by omega))=w at he
  have hw:=hs w (List.mem_of_getElem? he)
  rw[show ((i:Int)==(W.length:Int))=false by simp; omega,cF,Ah,he,obs,RP (by omega),obs]
  simp only
  cases hr:(rdNum w).2 with
  | false=>rw[nF,cT]; rfl
  | true=>rw[nT,cF,wrap1 (by omega)]; rfl
omit hs in
theorem Uv {i:Int} {c:Int} (hc:c≠0) (ways:List Wy) (way:Wy):Ag (W,i,c) ways way=some ((W,i,c),ways,way,0):=by
 unfold Ag
 simp only
 rw[show (c != 0)=true by simpa[bne] using hc,cT]
theorem Yr {i:Nat} (hi:i≤W.length) (o:Bool) (ways:List Wy) (way:Wy):BU (W,(i:Int),o) ways way=some (match numAt W i with | none=>((W,(i:Int),o),ways,way,0,false) | some x=>((W,((i + 1:Nat):Int),o),ways,way,x,true)):=by
 unfold BU numAt
 simp only
 by_cases h:i=W.length
 ·subst h
  rw[show ((W.length:Int)==(W.length:Int))=true by simp,cT,List.getElem?_eq_none (Nat.le_refl _)]
 ·have he:W[i]? = some (W[i]'(by omega)):=List.getElem?_eq_getElem (by omega)
  generalize (W[i]'(by omega))=w at he
  have hw:=hs w (List.mem_of_getElem? he)
  rw[show ((i:Int)==(W.length:Int))=false by simp; omega,cF,Ah,he,obs,RZ (by omega),obs]
  simp only
  rcases Fp w with ⟨v,_,_,_,hr⟩ | ⟨hr,_⟩
  ·rw[hr]; simp only; rw[cT,wrap1 (by omega)]; rfl
  ·rw[hr]; rfl
end
theorem Zu (p:Pn):BS p=some (goodP p):=by
 unfold BS C8 goodP
 by_cases h1:p.1≥-1000 <;> by_cases h2:p.1≤1000 <;> by_cases h3:p.2≥-1000 <;> by_cases h4:p.2≤1000 <;> simp[h1,h2,h3,h4] <;> omega
theorem Aa7 (p:Pn):Be p=some (goodP p):=by
 unfold Be AR goodP
 by_cases h1:p.1≥-1000 <;> by_cases h2:p.1≤1000 <;> by_cases h3:p.2≥-1000 <;> by_cases h4:p.2≤1000 <;> simp[h1,h2,h3,h4] <;> omega
theorem ZD (W:List Str) {i:Nat} (hi : 1≤i∧i≤2000) (ways:List Wy) {way:Wy} (hw:way.length≤1000) (p:Pn) :
  Ak (W,(i:Int),0) ways way p=some (if goodP p then ((W,(i:Int),0),ways,way ++ [p]) else ((W,((i-1:Nat):Int),6),ways,way)):=by
 unfold Ak
 simp only
 rw[show ((0:Int) != 0)=false from rfl,cF,Zu,obs]
 cases h:goodP (p.1,p.2) with
 | false =>
  rw[nF,cT,wrapI (by omega) (by omega),show (i:Int)-1=((i-1:Nat):Int) by omega]
  rfl
 | true =>
  rw[nT,cF,Bh (by simp[maxBytes]; omega) (by simp[maxBytes]; omega),obs]
  rfl
theorem Qk (W:List Str) {i c:Int} (hc:c≠0) (ways:List Wy) (way:Wy) (p:Pn):Ak (W,i,c) ways way p=some ((W,i,c),ways,way):=by
 unfold Ak
 simp only
 rw[show (c != 0)=true by simpa[bne] using hc,cT]
def encS (W:List Str) (ways:List Wy) (way:Wy):CV→(List Str×Int×Int)×List Wy×Wy
 | .inl (c,i)=>((W,(i:Int),c),ways,way)
 | .inr (i,ways',way')=>((W,(i:Int),0),ways',way')
abbrev SSt:=(List Str×Int×Int)×List Wy×Wy
noncomputable def numS1 (st:SSt) (f:Int→Pn):Option SSt :=
 (Ag (st.1.1,(st.1.2.1,st.1.2.2)) st.2.1 st.2.2).bind fun x=>(Ak (x.1.1,(x.1.2.1,x.1.2.2)) x.2.1 x.2.2.1 (f x.2.2.2)).bind fun y=>some ((y.1.1,(y.1.2.1,y.1.2.2)),(y.2.1,y.2.2))
noncomputable def numS2 (st:SSt) (f:Int→Int→Pn):Option SSt :=
 (Ag (st.1.1,(st.1.2.1,st.1.2.2)) st.2.1 st.2.2).bind fun x=>(Ag (x.1.1,(x.1.2.1,x.1.2.2)) x.2.1 x.2.2.1).bind fun x'=>(Ak (x'.1.1,(x'.1.2.1,x'.1.2.2)) x'.2.1 x'.2.2.1 (f x.2.2.2 x'.2.2.2)).bind fun y=>some ((y.1.1,(y.1.2.1,y.1.2.2)),(y.2.1,y.2.2))
section
variable {W:List Str} (hW:W.length≤1000) (hs:∀ w∈W,w.length≤1000)
include hW hs
theorem EM {i:Nat} {x:Int} (h:numAt W i=some x):i<W.length:=by
 unfold numAt at h
 cases hz:W[i]? with
 | none=>rw[hz] at h; cases h
 | some w=>exact getL hz
theorem HA {i:Nat} (hi:i≤W.length) (ways:List Wy) {way:Wy} (hw:way.length≤1000) (f:Int→Pn):numS1 ((W,(i:Int),0),ways,way) f=some (encS W ways way (one W i ways way f)):=by
 unfold numS1 one
 simp only
 rw[S7 hW hs hi,obs]
 cases hz:numAt W i with
 | none =>
  simp only
  rw[Qk W (by omega),obs]
  rfl
 | some x =>
  have:=EM hW hs hz
  simp only
  rw[ZD W (by omega) ways hw,obs]
  unfold ptV
  split <;> rfl
theorem NN {i:Nat} (hi:i≤W.length) (ways:List Wy) {way:Wy} (hw:way.length≤1000) (f:Int→Int→Pn):numS2 ((W,(i:Int),0),ways,way) f=some (encS W ways way (two W i ways way f)):=by
 unfold numS2 two
 simp only
 rw[S7 hW hs hi,obs]
 cases hz:numAt W i with
 | none =>
  simp only
  rw[Uv hW (by omega),obs]
  simp only
  rw[Qk W (by omega),obs]
  rfl
 | some x =>
  have:=EM hW hs hz
  simp only
  exact HA hW hs (by omega) ways hw (f x)
end
end
section
open Go
def KW:List Str:=[[77],[76],[108],[72],[104],[86],[118],[90]]
def lastP (way:Wy):Pn:=way.getLast?.getD (0,0)
def cmdV (W:List Str) (i:Nat) (ways:List Wy) (way:Wy) (w:Str):CV :=
 if w = [77] then (if way = [] then (if ways.length=4 then .inl (5,i) else two W (i + 1) ways way (fun x y=>(x,y))) else .inl (4,i))
 else if w∈KW then
  (if way = [] then .inl (4,i)
  else if w = [90] then (if way.length<3 then .inl (5,i) else .inr (i + 1,ways ++ [way],[]))
  else if way.length=12 then .inl (5,i)
  else if w = [76] then two W (i + 1) ways way (fun x y=>(x,y))
  else if w = [108] then two W (i + 1) ways way (fun x y=>(IntKind.wrap .i64 ((lastP way).1 + x),IntKind.wrap .i64 ((lastP way).2 + y)))
  else if w = [72] then one W (i + 1) ways way (fun x=>(x,(lastP way).2))
  else if w = [104] then one W (i + 1) ways way (fun x=>(IntKind.wrap .i64 ((lastP way).1 + x),(lastP way).2))
  else if w = [86] then one W (i + 1) ways way (fun x=>((lastP way).1,x))
  else one W (i + 1) ways way (fun x=>((lastP way).1,IntKind.wrap .i64 ((lastP way).2 + x))))
 else .inl (2,i)
theorem JM:(([77]:Str) == [77])=true:=rfl
theorem Jl:(([77]:Str) == [76])=false:=rfl
theorem Gn:(([77]:Str) == [108])=false:=rfl
theorem JA:(([77]:Str) == [72])=false:=rfl
theorem GB:(([77]:Str) == [104])=false:=rfl
theorem Jq:(([77]:Str) == [86])=false:=rfl
theorem Gh:(([77]:Str) == [118])=false:=rfl
theorem I0:(([77]:Str) == [90])=false:=rfl
theorem JO:(([76]:Str) == [77])=false:=rfl
theorem Jw:(([76]:Str) == [76])=true:=rfl
theorem Ge:(([76]:Str) == [108])=false:=rfl
theorem Jx:(([76]:Str) == [72])=false:=rfl
theorem Gu:(([76]:Str) == [104])=false:=rfl
theorem JI:(([76]:Str) == [86])=false:=rfl
theorem GC:(([76]:Str) == [118])=false:=rfl
theorem JD:(([76]:Str) == [90])=false:=rfl
theorem GY:(([108]:Str) == [77])=false:=rfl
theorem GQ:(([108]:Str) == [76])=false:=rfl
theorem Ej:(([108]:Str) == [108])=true:=rfl
theorem GJ:(([108]:Str) == [72])=false:=rfl
theorem Ey:(([108]:Str) == [104])=false:=rfl
theorem Gy:(([108]:Str) == [86])=false:=rfl
theorem EE:(([108]:Str) == [118])=false:=rfl
theorem Gd:(([108]:Str) == [90])=false:=rfl
theorem JE:(([72]:Str) == [77])=false:=rfl
theorem I4:(([72]:Str) == [76])=false:=rfl
theorem Gq:(([72]:Str) == [108])=false:=rfl
theorem I5:(([72]:Str) == [72])=true:=rfl
theorem Gx:(([72]:Str) == [104])=false:=rfl
theorem Jo:(([72]:Str) == [86])=false:=rfl
theorem GT:(([72]:Str) == [118])=false:=rfl
theorem IZ:(([72]:Str) == [90])=false:=rfl
theorem G4:(([104]:Str) == [77])=false:=rfl
theorem Gv:(([104]:Str) == [76])=false:=rfl
theorem EU:(([104]:Str) == [108])=false:=rfl
theorem GG:(([104]:Str) == [72])=false:=rfl
theorem Ep:(([104]:Str) == [104])=true:=rfl
theorem GV:(([104]:Str) == [86])=false:=rfl
theorem E4:(([104]:Str) == [118])=false:=rfl
theorem GU:(([104]:Str) == [90])=false:=rfl
theorem JN:(([86]:Str) == [77])=false:=rfl
theorem Jf:(([86]:Str) == [76])=false:=rfl
theorem GX:(([86]:Str) == [108])=false:=rfl
theorem Ji:(([86]:Str) == [72])=false:=rfl
theorem GS:(([86]:Str) == [104])=false:=rfl
theorem I7:(([86]:Str) == [86])=true:=rfl
theorem Gk:(([86]:Str) == [118])=false:=rfl
theorem Ju:(([86]:Str) == [90])=false:=rfl
theorem Gc:(([118]:Str) == [77])=false:=rfl
theorem Gr:(([118]:Str) == [76])=false:=rfl
theorem Ff:(([118]:Str) == [108])=false:=rfl
theorem Gj:(([118]:Str) == [72])=false:=rfl
theorem E5:(([118]:Str) == [104])=false:=rfl
theorem GM:(([118]:Str) == [86])=false:=rfl
theorem EK:(([118]:Str) == [118])=true:=rfl
theorem F9:(([118]:Str) == [90])=false:=rfl
theorem Lw:(([90]:Str) == [77])=false:=rfl
theorem LM:(([90]:Str) == [76])=false:=rfl
theorem IC:(([90]:Str) == [108])=false:=rfl
theorem Lf:(([90]:Str) == [72])=false:=rfl
theorem IG:(([90]:Str) == [104])=false:=rfl
theorem Lr:(([90]:Str) == [86])=false:=rfl
theorem IA:(([90]:Str) == [118])=false:=rfl
theorem K3:(([90]:Str) == [90])=true:=rfl
theorem BG {way:Wy} (h:way≠[]):getN way (way.length-1)=some (lastP way):=by
 have hp:=List.length_pos_iff.2 h
 have e:way[way.length-1]? = some (way[way.length-1]'(by omega)):=List.getElem?_eq_getElem (by omega)
 show way[way.length-1]? = _
 unfold lastP
 rw[List.getLast?_eq_getElem?,e]
 rfl
theorem BE {way:Wy} (h:way≠[]) (hl:way.length≤1000):idxI (IntKind.wrap .i64 ((way.length:Int)-1)) way.length=some (way.length-1):=by
 have hp:=List.length_pos_iff.2 h
 rw[wrapI (by omega) (by omega),show (way.length:Int)-1=((way.length-1:Nat):Int) by omega,BX (by omega)]
theorem D1 (W:List Str) (i:Int) (ways:List Wy) (way:Wy) (w:Str) (o:Bool) :
  loopM (fun (s:((List Str×(Int×Int))×(List Str×(List Wy×(Wy×(Str×(Bool×(Bool×(Int×Int)))))))) )=>Bb s.1 s.2.1 s.2.2.1 s.2.2.2.1 s.2.2.2.2.1 s.2.2.2.2.2.1 s.2.2.2.2.2.2.1 s.2.2.2.2.2.2.2.1 s.2.2.2.2.2.2.2.2)
   ((W,(i,0)),(KW,(ways,(way,(w,(o,(false,(((8:Nat):Int),(0:Int)))))))))=some ((W,(i,0)),(ways,(way,(w,(o,decide (w∈KW)))))):=by
 obtain ⟨_,h1,_⟩:=Cm (body:=fun (s:((List Str×(Int×Int))×(List Str×(List Wy×(Wy×(Str×(Bool×(Bool×(Int×Int)))))))) )=>Bb s.1 s.2.1 s.2.2.1 s.2.2.2.1 s.2.2.2.2.1 s.2.2.2.2.2.1 s.2.2.2.2.2.2.1 s.2.2.2.2.2.2.2.1 s.2.2.2.2.2.2.2.2)
  (fun k (_:Unit)=>((W,(i,0)),(KW,(ways,(way,(w,(o,(decide (w∈KW.take k),(((8:Nat):Int),(k:Int))))))))) ) (fun _=>((W,(i,0)),(ways,(way,(w,(o,decide (w∈KW))))))) (fun _ _=>True) 8 (by
   intro k _ hk _
   have he:KW[k]? = some (KW[k]'hk):=List.getElem?_eq_getElem hk
   generalize hx:(KW[k]'hk)=x at he
   refine ⟨(),?_,trivial⟩
   unfold Bb
   simp only
   rw[decide_eq_true (by omega),cT,show idxI (k:Int) KW.length=some k from BX hk,obs,show getN KW k=some x from he,obs,List.take_add_one,he,wrap1 (by omega)]
   by_cases hm:w∈KW.take k
   ·rw[decide_eq_true hm,cT,decide_eq_true (List.mem_append_left _ hm)]
   ·rw[decide_eq_false hm,cF]
    by_cases hxw:x=w
    ·subst hxw
     rw[beq_self_eq_true,decide_eq_true (List.mem_append_right _ (by simp))]
    ·rw[beq_eq_false_iff_ne.2 hxw,decide_eq_false]
     intro h
     rcases List.mem_append.1 h with h | h
     ·exact hm h
     ·simp at h; exact hxw h.symm) (by
   intro _ _
   unfold Bb
   simp only
   rw[decide_eq_false (by omega),cF]
   rfl) 0 () (by omega) trivial
 exact h1
section
variable {W:List Str} (hW:W.length≤1000) (hs:∀ w∈W,w.length≤1000)
include hW hs
theorem Yi {i:Nat} {w:Str} (he:W[i]? = some w) (hk:w ∉ KW) (ways:List Wy) {way:Wy} (hw:way.length≤1000):Ai (W,(i:Int),0) ways way=some (encS W ways way (cmdV W i ways way w)):=by
 unfold Ai
 simp only
 rw[Ah,he,obs,show ([[77],[76],[108],[72],[104],[86],[118],[90]]:List Str)=KW from rfl,D1 W _ ways way _ _,obs]
 have h77:w≠[77]:=fun h=>hk (by rw[h]; decide)
 unfold cmdV
 rw[if_neg h77,if_neg hk,decide_eq_false hk,nF]
 simp only[cond_true,Option.bind_some,Sum.elim_inr]
 rfl
theorem XI {i:Nat} (he:W[i]? = some [77]) (ways:List Wy) {way:Wy} (hw:way.length≤1000):Ai (W,(i:Int),0) ways way=some (encS W ways way (cmdV W i ways way [77])):=by
 have hlt:=getL he
 unfold Ai
 simp only
 rw[Ah,he,obs,show ([[77],[76],[108],[72],[104],[86],[118],[90]]:List Str)=KW from rfl,D1 W _ ways way _ _,obs]
 unfold cmdV
 rw[if_pos rfl,decide_eq_true (show ([77]:Str)∈KW by decide)]
 by_cases h0:way = []
 ·subst h0
  rw[if_pos rfl]
  by_cases h4:ways.length=4
  ·have h4':((ways.length:Int)==4)=true:=by simp[h4]
   rw[if_pos h4]
   simp only[JM,Jl,Gn,JA,GB,Jq,Gh,I0,h4',nT,cF,cT,List.length_nil,show decide (((0:Nat):Int)>0)=false from rfl,show (false==true)=false from rfl,obs,Sum.elim_inr,show ((5:Int) != 0)=true from rfl]
   rfl
  ·have h4':((ways.length:Int)==4)=false:=by simp; omega
   rw[if_neg h4]
   simp only[JM,Jl,Gn,JA,GB,Jq,Gh,I0,h4',nT,nF,cF,cT,List.length_nil,show decide (((0:Nat):Int)>0)=false from rfl,show (false==true)=false from rfl,obs,Sum.elim_inr,show ((0:Int) != 0)=false from rfl,show (((0:Nat):Int)==12)=false from rfl,wrap1 (show i<4611686018427387904 by omega)]
   exact NN hW hs (by omega) ways (by simp) (fun x y=>(x,y))
 ·have hp:=List.length_pos_iff.2 h0
  rw[if_neg h0]
  simp only[JM,Jl,Gn,JA,GB,Jq,Gh,I0,nT,cF,cT,decide_eq_true (show (way.length:Int)>0 by omega),show (true==true)=true from rfl,obs,Sum.elim_inr,show ((4:Int) != 0)=true from rfl]
  rfl
theorem Yo {i:Nat} (he:W[i]? = some [76]) (ways:List Wy) {way:Wy} (hw:way.length≤1000):Ai (W,(i:Int),0) ways way=some (encS W ways way (cmdV W i ways way [76])):=by
 have hlt:=getL he
 unfold Ai
 simp only
 rw[Ah,he,obs,show ([[77],[76],[108],[72],[104],[86],[118],[90]]:List Str)=KW from rfl,D1 W _ ways way _ _,obs]
 unfold cmdV
 rw[if_neg (by decide),if_pos (show ([76]:Str)∈KW by decide),decide_eq_true (show ([76]:Str)∈KW by decide)]
 by_cases h0:way = []
 ·subst h0
  rw[if_pos rfl]
  simp only[JO,Jw,Ge,Jx,Gu,JI,GC,JD,nT,cF,cT,List.length_nil,show decide (((0:Nat):Int)>0)=false from rfl,show (false==false)=true from rfl,obs,Sum.elim_inr,show ((4:Int) != 0)=true from rfl]
  rfl
 ·have hp:=List.length_pos_iff.2 h0
  rw[if_neg h0]
  rw[if_neg (by decide)]
  by_cases h12:way.length=12
  ·rw[if_pos h12]
   simp only[JO,Jw,Ge,Jx,Gu,JI,GC,JD,nT,nF,cF,cT,decide_eq_true (show (way.length:Int)>0 by omega),show (true==false)=false from rfl,obs,Sum.elim_inr,show ((way.length:Int)==12)=true by simp; omega,show ((5:Int) != 0)=true from rfl]
   rfl
  ·rw[if_neg h12,if_pos rfl]
   simp only[JO,Jw,Ge,Jx,Gu,JI,GC,JD,nT,nF,cF,cT,decide_eq_true (show (way.length:Int)>0 by omega),show (true==false)=false from rfl,obs,Sum.elim_inr,show ((way.length:Int)==12)=false by simp; omega,show ((0:Int) != 0)=false from rfl,BE h0 hw,BG h0,wrap1 (show i<4611686018427387904 by omega)]
   exact NN hW hs (by omega) ways hw (fun x y=>(x,y))
theorem WM {i:Nat} (he:W[i]? = some [108]) (ways:List Wy) {way:Wy} (hw:way.length≤1000):Ai (W,(i:Int),0) ways way=some (encS W ways way (cmdV W i ways way [108])):=by
 have hlt:=getL he
 unfold Ai
 simp only
 rw[Ah,he,obs,show ([[77],[76],[108],[72],[104],[86],[118],[90]]:List Str)=KW from rfl,D1 W _ ways way _ _,obs]
 unfold cmdV
 rw[if_neg (by decide),if_pos (show ([108]:Str)∈KW by decide),decide_eq_true (show ([108]:Str)∈KW by decide)]
 by_cases h0:way = []
 ·subst h0
  rw[if_pos rfl]
  simp only[GY,GQ,Ej,GJ,Ey,Gy,EE,Gd,nT,cF,cT,List.length_nil,show decide (((0:Nat):Int)>0)=false from rfl,show (false==false)=true from rfl,obs,Sum.elim_inr,show ((4:Int) != 0)=true from rfl]
  rfl
 ·have hp:=List.length_pos_iff.2 h0
  rw[if_neg h0]
  rw[if_neg (by decide)]
  by_cases h12:way.length=12
  ·rw[if_pos h12]
   simp only[GY,GQ,Ej,GJ,Ey,Gy,EE,Gd,nT,nF,cF,cT,decide_eq_true (show (way.length:Int)>0 by omega),show (true==false)=false from rfl,obs,Sum.elim_inr,show ((way.length:Int)==12)=true by simp; omega,show ((5:Int) != 0)=true from rfl]
   rfl
  ·rw[if_neg h12,if_neg (by decide),if_pos rfl]
   simp only[GY,GQ,Ej,GJ,Ey,Gy,EE,Gd,nT,nF,cF,cT,decide_eq_true (show (way.length:Int)>0 by omega),show (true==false)=false from rfl,obs,Sum.elim_inr,show ((way.length:Int)==12)=false by simp; omega,show ((0:Int) != 0)=false from rfl,BE h0 hw,BG h0,wrap1 (show i<4611686018427387904 by omega)]
   exact NN hW hs (by omega) ways hw (fun x y=>(IntKind.wrap .i64 ((lastP way).1 + x),IntKind.wrap .i64 ((lastP way).2 + y)))
theorem Y2 {i:Nat} (he:W[i]? = some [72]) (ways:List Wy) {way:Wy} (hw:way.length≤1000):Ai (W,(i:Int),0) ways way=some (encS W ways way (cmdV W i ways way [72])):=by
 have hlt:=getL he
 unfold Ai
 simp only
 rw[Ah,he,obs,show ([[77],[76],[108],[72],[104],[86],[118],[90]]:List Str)=KW from rfl,D1 W _ ways way _ _,obs]
 unfold cmdV
 rw[if_neg (by decide),if_pos (show ([72]:Str)∈KW by decide),decide_eq_true (show ([72]:Str)∈KW by decide)]
 by_cases h0:way = []
 ·subst h0
  rw[if_pos rfl]
  simp only[JE,I4,Gq,I5,Gx,Jo,GT,IZ,nT,cF,cT,List.length_nil,show decide (((0:Nat):Int)>0)=false from rfl,show (false==false)=true from rfl,obs,Sum.elim_inr,show ((4:Int) != 0)=true from rfl]
  rfl
 ·have hp:=List.length_pos_iff.2 h0
  rw[if_neg h0]
  rw[if_neg (by decide)]
  by_cases h12:way.length=12
  ·rw[if_pos h12]
   simp only[JE,I4,Gq,I5,Gx,Jo,GT,IZ,nT,nF,cF,cT,decide_eq_true (show (way.length:Int)>0 by omega),show (true==false)=false from rfl,obs,Sum.elim_inr,show ((way.length:Int)==12)=true by simp; omega,show ((5:Int) != 0)=true from rfl]
   rfl
  ·rw[if_neg h12,if_neg (by decide),if_neg (by decide),if_pos rfl]
   simp only[JE,I4,Gq,I5,Gx,Jo,GT,IZ,nT,nF,cF,cT,decide_eq_true (show (way.length:Int)>0 by omega),show (true==false)=false from rfl,obs,Sum.elim_inr,show ((way.length:Int)==12)=false by simp; omega,show ((0:Int) != 0)=false from rfl,BE h0 hw,BG h0,wrap1 (show i<4611686018427387904 by omega)]
   exact HA hW hs (by omega) ways hw (fun x=>(x,(lastP way).2))
theorem Wl {i:Nat} (he:W[i]? = some [104]) (ways:List Wy) {way:Wy} (hw:way.length≤1000):Ai (W,(i:Int),0) ways way=some (encS W ways way (cmdV W i ways way [104])):=by
 have hlt:=getL he
 unfold Ai
 simp only
 rw[Ah,he,obs,show ([[77],[76],[108],[72],[104],[86],[118],[90]]:List Str)=KW from rfl,D1 W _ ways way _ _,obs]
 unfold cmdV
 rw[if_neg (by decide),if_pos (show ([104]:Str)∈KW by decide),decide_eq_true (show ([104]:Str)∈KW by decide)]
 by_cases h0:way = []
 ·subst h0
  rw[if_pos rfl]
  simp only[G4,Gv,EU,GG,Ep,GV,E4,GU,nT,cF,cT,List.length_nil,show decide (((0:Nat):Int)>0)=false from rfl,show (false==false)=true from rfl,obs,Sum.elim_inr,show ((4:Int) != 0)=true from rfl]
  rfl
 ·have hp:=List.length_pos_iff.2 h0
  rw[if_neg h0]
  rw[if_neg (by decide)]
  by_cases h12:way.length=12
  ·rw[if_pos h12]
   simp only[G4,Gv,EU,GG,Ep,GV,E4,GU,nT,nF,cF,cT,decide_eq_true (show (way.length:Int)>0 by omega),show (true==false)=false from rfl,obs,Sum.elim_inr,show ((way.length:Int)==12)=true by simp; omega,show ((5:Int) != 0)=true from rfl]
   rfl
  ·rw[if_neg h12,if_neg (by decide),if_neg (by decide),if_neg (by decide),if_pos rfl]
   simp only[G4,Gv,EU,GG,Ep,GV,E4,GU,nT,nF,cF,cT,decide_eq_true (show (way.length:Int)>0 by omega),show (true==false)=false from rfl,obs,Sum.elim_inr,show ((way.length:Int)==12)=false by simp; omega,show ((0:Int) != 0)=false from rfl,BE h0 hw,BG h0,wrap1 (show i<4611686018427387904 by omega)]
   exact HA hW hs (by omega) ways hw (fun x=>(IntKind.wrap .i64 ((lastP way).1 + x),(lastP way).2))
theorem YI {i:Nat} (he:W[i]? = some [86]) (ways:List Wy) {way:Wy} (hw:way.length≤1000):Ai (W,(i:Int),0) ways way=some (encS W ways way (cmdV W i ways way [86])):=by
 have hlt:=getL he
 unfold Ai
 simp only
 rw[Ah,he,obs,show ([[77],[76],[108],[72],[104],[86],[118],[90]]:List Str)=KW from rfl,D1 W _ ways way _ _,obs]
 unfold cmdV
 rw[if_neg (by decide),if_pos (show ([86]:Str)∈KW by decide),decide_eq_true (show ([86]:Str)∈KW by decide)]
 by_cases h0:way = []
 ·subst h0
  rw[if_pos rfl]
  simp only[JN,Jf,GX,Ji,GS,I7,Gk,Ju,nT,cF,cT,List.length_nil,show decide (((0:Nat):Int)>0)=false from rfl,show (false==false)=true from rfl,obs,Sum.elim_inr,show ((4:Int) != 0)=true from rfl]
  rfl
 ·have hp:=List.length_pos_iff.2 h0
  rw[if_neg h0]
  rw[if_neg (by decide)]
  by_cases h12:way.length=12
  ·rw[if_pos h12]
   simp only[JN,Jf,GX,Ji,GS,I7,Gk,Ju,nT,nF,cF,cT,decide_eq_true (show (way.length:Int)>0 by omega),show (true==false)=false from rfl,obs,Sum.elim_inr,show ((way.length:Int)==12)=true by simp; omega,show ((5:Int) != 0)=true from rfl]
   rfl
  ·rw[if_neg h12,if_neg (by decide),if_neg (by decide),if_neg (by decide),if_neg (by decide),if_pos rfl]
   simp only[JN,Jf,GX,Ji,GS,I7,Gk,Ju,nT,nF,cF,cT,decide_eq_true (show (way.length:Int)>0 by omega),show (true==false)=false from rfl,obs,Sum.elim_inr,show ((way.length:Int)==12)=false by simp; omega,show ((0:Int) != 0)=false from rfl,BE h0 hw,BG h0,wrap1 (show i<4611686018427387904 by omega)]
   exact HA hW hs (by omega) ways hw (fun x=>((lastP way).1,x))
theorem Ww {i:Nat} (he:W[i]? = some [118]) (ways:List Wy) {way:Wy} (hw:way.length≤1000):Ai (W,(i:Int),0) ways way=some (encS W ways way (cmdV W i ways way [118])):=by
 have hlt:=getL he
 unfold Ai
 simp only
 rw[Ah,he,obs,show ([[77],[76],[108],[72],[104],[86],[118],[90]]:List Str)=KW from rfl,D1 W _ ways way _ _,obs]
 unfold cmdV
 rw[if_neg (by decide),if_pos (show ([118]:Str)∈KW by decide),decide_eq_true (show ([118]:Str)∈KW by decide)]
 by_cases h0:way = []
 ·subst h0
  rw[if_pos rfl]
  simp only[Gc,Gr,Ff,Gj,E5,GM,EK,F9,nT,cF,cT,List.length_nil,show decide (((0:Nat):Int)>0)=false from rfl,show (false==false)=true from rfl,obs,Sum.elim_inr,show ((4:Int) != 0)=true from rfl]
  rfl
 ·have hp:=List.length_pos_iff.2 h0
  rw[if_neg h0]
  rw[if_neg (by decide)]
  by_cases h12:way.length=12
  ·rw[if_pos h12]
   simp only[Gc,Gr,Ff,Gj,E5,GM,EK,F9,nT,nF,cF,cT,decide_eq_true (show (way.length:Int)>0 by omega),show (true==false)=false from rfl,obs,Sum.elim_inr,show ((way.length:Int)==12)=true by simp; omega,show ((5:Int) != 0)=true from rfl]
   rfl
  ·rw[if_neg h12,if_neg (by decide),if_neg (by decide),if_neg (by decide),if_neg (by decide),if_neg (by decide)]
   simp only[Gc,Gr,Ff,Gj,E5,GM,EK,F9,nT,nF,cF,cT,decide_eq_true (show (way.length:Int)>0 by omega),show (true==false)=false from rfl,obs,Sum.elim_inr,show ((way.length:Int)==12)=false by simp; omega,show ((0:Int) != 0)=false from rfl,BE h0 hw,BG h0,wrap1 (show i<4611686018427387904 by omega)]
   exact HA hW hs (by omega) ways hw (fun x=>((lastP way).1,IntKind.wrap .i64 ((lastP way).2 + x)))
theorem YR {i:Nat} (he:W[i]? = some [90]) (ways:List Wy) {way:Wy} (hw:way.length≤1000) (hwl:ways.length≤1000):Ai (W,(i:Int),0) ways way=some (encS W ways way (cmdV W i ways way [90])):=by
 have hlt:=getL he
 unfold Ai
 simp only
 rw[Ah,he,obs,show ([[77],[76],[108],[72],[104],[86],[118],[90]]:List Str)=KW from rfl,D1 W _ ways way _ _,obs]
 unfold cmdV
 rw[if_neg (by decide),if_pos (show ([90]:Str)∈KW by decide),decide_eq_true (show ([90]:Str)∈KW by decide)]
 by_cases h0:way = []
 ·subst h0
  rw[if_pos rfl]
  simp only[Lw,LM,IC,Lf,IG,Lr,IA,K3,nT,cF,cT,List.length_nil,show decide (((0:Nat):Int)>0)=false from rfl,show (false==false)=true from rfl,obs,Sum.elim_inr,show ((4:Int) != 0)=true from rfl]
  rfl
 ·have hp:=List.length_pos_iff.2 h0
  rw[if_neg h0]
  rw[if_pos rfl]
  by_cases h3:way.length<3
  ·rw[if_pos h3]
   simp only[Lw,LM,IC,Lf,IG,Lr,IA,K3,nT,nF,cF,cT,decide_eq_true (show (way.length:Int)>0 by omega),show (true==false)=false from rfl,obs,Sum.elim_inr,decide_eq_true (show (way.length:Int)<3 by omega),show ((5:Int) != 0)=true from rfl]
   rfl
  ·rw[if_neg h3]
   simp only[Lw,LM,IC,Lf,IG,Lr,IA,K3,nT,nF,cF,cT,decide_eq_true (show (way.length:Int)>0 by omega),show (true==false)=false from rfl,obs,Sum.elim_inr,decide_eq_false (show ¬(way.length:Int)<3 by omega),show ((0:Int) != 0)=false from rfl,BE h0 hw,BG h0,wrap1 (show i<4611686018427387904 by omega)]
   rw[Bh (by simp[maxBytes]; omega) (by simp[maxBytes]; omega),obs]
   rfl
theorem Wz {i:Nat} {w:Str} (he:W[i]? = some w) (ways:List Wy) {way:Wy} (hw:way.length≤1000) (hwl:ways.length≤1000):Ai (W,(i:Int),0) ways way=some (encS W ways way (cmdV W i ways way w)):=by
 by_cases hk:w∈KW
 ·have hk':w = [77]∨w = [76]∨w = [108]∨w = [72]∨w = [104]∨w = [86]∨w = [118]∨w = [90]:=by simpa[KW] using hk
  rcases hk' with rfl | rfl | rfl | rfl | rfl | rfl | rfl | rfl
  ·exact XI hW hs he ways hw
  ·exact Yo hW hs he ways hw
  ·exact WM hW hs he ways hw
  ·exact Y2 hW hs he ways hw
  ·exact Wl hW hs he ways hw
  ·exact YI hW hs he ways hw
  ·exact Ww hW hs he ways hw
  ·exact YR hW hs he ways hw hwl
 ·exact Yi hW hs he hk ways hw
end
end
section
open Go
abbrev ISt:=(List Str×(Int×Bool))×(List Wy×(Wy×(Int×Int)))
def EI (W:List Str):CV→ISt→Prop
 | .inl (c,i),r=>r.2.2.2=(c,(i:Int))∧c≠0
 | .inr (i,ways',way'),r=>r=((W,((i:Int),decide (way'≠[]))),(ways',(way',(0,0))))
def KWi:List Str:=[[77],[76],[108],[72],[86],[104],[118],[90]]
theorem V3 (w:Str):w∈KWi↔w∈KW:=by simp only[KWi,KW,List.mem_cons,List.not_mem_nil,or_false]; constructor <;> (intro h; rcases h with h | h | h | h | h | h | h | h <;> simp[h])
theorem DW (w:Str):Aq KWi w=some (decide (w∈KW)):=by
 unfold Aq AJ
 have key:=Hv (body:=fun s:List Str×Str×Int×Int=>Ar s.1 s.2.1 s.2.2.1 s.2.2.2) (l:=KWi) (st:=fun k=>(KWi,w,((KWi.length:Nat):Int),(k:Int))) (p:=fun x=>!(w==x)) (fin:=.inl ()) (bad:=fun k=>.inr (k:Int))
  (fun k a hk hp=>by
   have hlt:k<8:=getL hk
   have hp:(w==a)=false:=by simpa using hp
   unfold Ar
   simp only
   rw[decide_eq_true (show (k:Int)<((KWi.length:Nat):Int) by show (k:Int)<8; omega),cT,Ah,hk,obs,hp,cF,wrap1 (by omega)])
  (fun k a hk hp=>by
   have hlt:k<8:=getL hk
   have hp:(w==a)=true:=by simpa using hp
   unfold Ar
   simp only
   rw[decide_eq_true (show (k:Int)<((KWi.length:Nat):Int) by show (k:Int)<8; omega),cT,Ah,hk,obs,hp,cT])
  (by
   unfold Ar
   simp only
   rw[decide_eq_false (by omega),cF])
 by_cases hm:w∈KW
 ·have hall:KWi.all (fun x=>!(w==x))=false:=by
   rw[List.all_eq_false]
   exact ⟨w,(V3 w).2 hm,by simp⟩
  obtain ⟨k,_,h⟩:=key.2 hall
  rw[show ((0:Nat):Int)=0 from rfl] at h
  rw[h,obs]
  simp only[Sum.elim_inr]
  rw[obs,decide_eq_true hm,decide_eq_true (by omega)]
 ·have hall:KWi.all (fun x=>!(w==x))=true:=by
   rw[List.all_eq_true]
   intro x hx
   have:w≠x:=fun h=>hm ((V3 w).1 (h▸hx))
   simpa using this
  have h:=key.1 hall
  rw[show ((0:Nat):Int)=0 from rfl] at h
  rw[h,obs]
  simp only[Sum.elim_inl]
  rw[obs,decide_eq_false hm]
  rfl
theorem GL (w:Str):BQ [72,86,104,118] w=some (Lib.contains [72,86,104,118] w):=by
 unfold BQ EC
 rw[if_pos (by decide)]
noncomputable def icB:((List Str×(Int×Bool))×(List Int×(List Wy×(Wy×(Str×(Int×Int))))))→Option (((List Str×(Int×Bool))×(List Int×(List Wy×(Wy×(Str×(Int×Int)))))) ⊕ (((List Str×(Int×Bool))×(List Int×(List Wy×(Wy×Str)))) ⊕ ISt)) :=
 fun s=>BR s.1 s.2.1 s.2.2.1 s.2.2.2.1 s.2.2.2.2.1 s.2.2.2.2.2.1 s.2.2.2.2.2.2
section
variable {W:List Str} (hW:W.length≤1000) (hs:∀ w∈W,w.length≤1000)
include hW hs
theorem Y7 {i:Nat} (hi:i≤W.length) (o:Bool) (n:List Int) (hn:n.length≤10) (ways:List Wy) (way:Wy) (w:Str) {c k:Nat} (hk:k<c) (hc:c≤10) :
  icB ((W,((i:Int),o)),(n,(ways,(way,(w,((c:Int),(k:Int)))))))=match numAt W i with | none=>some (.inr (.inr ((W,((i:Int),o)),(ways,(way,(3,(i:Int))))))) | some x=>some (.inl ((W,(((i + 1:Nat):Int),o)),(n ++ [x],(ways,(way,(w,((c:Int),((k + 1:Nat):Int)))))))):=by
 unfold icB BR
 simp only
 rw[decide_eq_true (by omega),cT,Yr hW hs hi,obs]
 cases hz:numAt W i with
 | none=>rfl
 | some x =>
  simp only
  rw[nT,cF,Bh (by simp[maxBytes]; omega) (by simp[maxBytes]; omega),obs,wrap1 (by omega)]
omit hW hs in
theorem Yj (W:List Str) (i:Int) (o:Bool) (n:List Int) (ways:List Wy) (way:Wy) (w:Str) (c:Nat):icB ((W,(i,o)),(n,(ways,(way,(w,((c:Int),(c:Int)))))))=some (.inr (.inl ((W,(i,o)),(n,(ways,(way,w)))))):=by
 unfold icB BR
 simp only
 rw[decide_eq_false (by omega),cF]
theorem Ad6 {i:Nat} (hi:i≤W.length) (o:Bool) (ways:List Wy) (way:Wy) (w:Str):loopM icB ((W,((i:Int),o)),(([]:List Int),(ways,(way,(w,((1:Int),(0:Int))))))) =
  match numAt W i with | none=>some (.inr ((W,((i:Int),o)),(ways,(way,(3,(i:Int)))))) | some x=>some (.inl ((W,(((i + 1:Nat):Int),o)),([x],(ways,(way,w))))):=by
 have h1:=Y7 hW hs hi o [] (by simp) ways way w (c:=1) (k:=0) (by omega) (by omega)
 cases hz:numAt W i with
 | none=>rw[hz] at h1; exact Ap h1
 | some x =>
  rw[hz] at h1
  exact (A7 h1).trans (Ap (Yj W _ o [x] ways way w 1))
theorem Af6 {i:Nat} (hi:i≤W.length) (o:Bool) (ways:List Wy) (way:Wy) (w:Str):loopM icB ((W,((i:Int),o)),(([]:List Int),(ways,(way,(w,((2:Int),(0:Int))))))) =
  match numAt W i with | none=>some (.inr ((W,((i:Int),o)),(ways,(way,(3,(i:Int)))))) | some x=>(match numAt W (i + 1) with | none=>some (.inr ((W,(((i + 1:Nat):Int),o)),(ways,(way,(3,((i + 1:Nat):Int)))))) | some y=>some (.inl ((W,(((i + 2:Nat):Int),o)),([x,y],(ways,(way,w)))))):=by
 have h1:=Y7 hW hs hi o [] (by simp) ways way w (c:=2) (k:=0) (by omega) (by omega)
 cases hz:numAt W i with
 | none=>rw[hz] at h1; exact Ap h1
 | some x =>
  rw[hz] at h1
  have hlt:=EM hW hs hz
  have h2:=Y7 hW hs (i:=i + 1) (by omega) o [x] (by simp) ways way w (c:=2) (k:=1) (by omega) (by omega)
  refine (A7 h1).trans ?_
  simp only
  cases hz2:numAt W (i + 1) with
  | none=>rw[hz2] at h2; exact Ap h2
  | some y =>
   rw[hz2] at h2
   exact (A7 h2).trans (Ap (Yj W _ o [x,y] ways way w 2))
noncomputable def icK (w:Str):(((List Str×(Int×Bool))×(List Int×(List Wy×(Wy×Str)))) ⊕ ISt)→Option ISt:=fun x7=>Sum.elim
   (fun x8 =>
   ((Aw (x8.1.1,(x8.1.2.1,x8.1.2.2)) x8.2.2.1 x8.2.2.2.1 x8.2.2.2.2 x8.2.1)).bind fun x9 =>
   ((Be (x9.2.2.2.1,x9.2.2.2.2))).bind fun x10 =>
   bif (!x10) then
    some ((x9.1.1,(x9.1.2.1,x9.1.2.2)),(x9.2.1,(x9.2.2.1,((6:Int),(IntKind.wrap .i64 (x9.1.2.1-(1:Int)))))))
   else
   ((appL 16 2 x9.2.2.1 (List.cons (x9.2.2.2.1,x9.2.2.2.2) List.nil))).bind fun x11 =>
   some ((x9.1.1,(x9.1.2.1,true)),(x9.2.1,(x11,((0:Int),(0:Int))))))
   (fun x12 =>
   some ((x12.1.1,(x12.1.2.1,x12.1.2.2)),(x12.2.1,(x12.2.2.1,(x12.2.2.2.1,x12.2.2.2.2)))))
   x7
theorem Ab3 {i:Nat} (hi : 1≤i∧i≤2000) (o:Bool) (ways:List Wy) {way:Wy} (hw:way.length≤1000) (w:Str) (n:List Int) {p:Pn} (hn:Aw (W,((i:Int),o)) ways way w n=some ((W,((i:Int),o)),(ways,(way,p)))) :
  ∃ r,icK w (.inl ((W,((i:Int),o)),(n,(ways,(way,w)))))=some r∧EI W (ptV goodP i ways way p) r:=by
 unfold icK ptV
 simp only[Sum.elim_inl]
 rw[hn,obs]
 simp only
 rw[Aa7,obs]
 cases h:goodP (p.1,p.2) with
 | false =>
  rw[nF,cT,if_neg (by simp),wrapI (by omega) (by omega)]
  exact ⟨_,rfl,by show ((6:Int),_)=_; congr 1; omega,by omega⟩
 | true =>
  rw[nT,cF,if_pos rfl,Bh (by simp[maxBytes]; omega) (by simp[maxBytes]; omega),obs]
  refine ⟨_,rfl,?_⟩
  show _=_
  rw[decide_eq_true (show way ++ [p]≠[] by simp)]
theorem MS {i:Nat} (hi:i≤W.length) (o:Bool) (ways:List Wy) {way:Wy} (hw:way.length≤1000) (w:Str) {f:Int→Pn} (hf:∀ (j:Nat) x,Aw (W,((j:Int),o)) ways way w [x]=some ((W,((j:Int),o)),(ways,(way,f x)))) :
  ∃ r,((loopM icB ((W,((i:Int),o)),(([]:List Int),(ways,(way,(w,((1:Int),(0:Int)))))))).bind (icK w))=some r∧EI W (one W i ways way f) r:=by
 rw[Ad6 hW hs hi]
 unfold one
 cases hz:numAt W i with
 | none=>exact ⟨_,rfl,rfl,by omega⟩
 | some x =>
  have:=EM hW hs hz
  exact Ab3 hW hs (by omega) o ways hw w [x] (hf (i + 1) x)
theorem Rf {i:Nat} (hi:i≤W.length) (o:Bool) (ways:List Wy) {way:Wy} (hw:way.length≤1000) (w:Str) {f:Int→Int→Pn} (hf:∀ (j:Nat) x y,Aw (W,((j:Int),o)) ways way w [x,y]=some ((W,((j:Int),o)),(ways,(way,f x y)))) :
  ∃ r,((loopM icB ((W,((i:Int),o)),(([]:List Int),(ways,(way,(w,((2:Int),(0:Int)))))))).bind (icK w))=some r∧EI W (two W i ways way f) r:=by
 rw[Af6 hW hs hi]
 unfold two one
 cases hz:numAt W i with
 | none=>exact ⟨_,rfl,rfl,by omega⟩
 | some x =>
  have:=EM hW hs hz
  simp only
  cases hz2:numAt W (i + 1) with
  | none=>exact ⟨_,rfl,rfl,by omega⟩
  | some y =>
   have:=EM hW hs hz2
   exact Ab3 hW hs (by omega) o ways hw w [x,y] (hf (i + 2) x y)
theorem YE {i:Nat} {w:Str} (he:W[i]? = some w) (hk:w ∉ KW) (o:Bool) (ways:List Wy) (way:Wy):∃ r,Aj (W,((i:Int),o)) ways way=some r∧EI W (cmdV W i ways way w) r:=by
 have h77:w≠[77]:=fun h=>hk (by rw[h]; decide)
 unfold Aj Ay
 simp only
 rw[Ah,he,obs,show ([[77],[76],[108],[72],[86],[104],[118],[90]]:List Str)=KWi from rfl,DW,obs,decide_eq_false hk,nF,cT,obs]
 unfold cmdV
 rw[if_neg h77,if_neg hk]
 exact ⟨_,rfl,rfl,by omega⟩
theorem Yw {i:Nat} (he:W[i]? = some [77]) (ways:List Wy) {way:Wy} (hw:way.length≤1000) (hwl:ways.length≤1000):∃ r,Aj (W,((i:Int),decide (way≠[]))) ways way=some r∧EI W (cmdV W i ways way [77]) r:=by
 have hlt:=getL he
 unfold Aj Ay
 simp only
 rw[Ah,he,obs,show ([[77],[76],[108],[72],[86],[104],[118],[90]]:List Str)=KWi from rfl,DW,obs,decide_eq_true (show ([77]:Str)∈KW by decide)]
 unfold cmdV
 by_cases h0:way = []
 ·subst h0
  by_cases h4:ways.length=4
  ·have h4':((ways.length:Int)==4)=true:=by simp[h4]
   rw[if_pos rfl,if_pos rfl,if_pos h4]
   simp only[JM,Jl,Gn,JA,GB,Jq,Gh,I0,nT,nF,cF,cT,obs,h4',show decide (([]:Wy)≠[])=false from rfl,show (true==false)=false from rfl,show ((5:Int) != 0)=true from rfl]
   exact ⟨_,rfl,rfl,by omega⟩
  ·have h4':((ways.length:Int)==4)=false:=by simp; omega
   rw[if_pos rfl,if_pos rfl,if_neg h4]
   simp only[JM,Jl,Gn,JA,GB,Jq,Gh,I0,nT,nF,cF,cT,obs,h4',show decide (([]:Wy)≠[])=false from rfl,show (true==false)=false from rfl,show ((0:Int) != 0)=false from rfl,wrap1 (show i<4611686018427387904 by omega),GL,show Lib.contains [72,86,104,118] [77]=false from by decide,Sum.elim_inr]
   refine Rf hW hs (by omega) false ways (way:=[]) (by simp) [77] (f:=fun x y=>(x,y)) fun j x y=>?_
   unfold Aw
   simp only[JM,Jl,Gn,JA,GB,Jq,Gh,I0,List.length_nil,show decide (((0:Nat):Int)>0)=false from rfl,cF,obs,Sum.elim_inr]
   rfl
 ·have hp:=List.length_pos_iff.2 h0
  rw[if_pos rfl,if_neg h0]
  simp only[JM,Jl,Gn,JA,GB,Jq,Gh,I0,nT,nF,cF,cT,obs,show decide (way≠[])=true from decide_eq_true h0,show (true==true)=true from rfl,show ((4:Int) != 0)=true from rfl]
  exact ⟨_,rfl,rfl,by omega⟩
theorem XP {i:Nat} (he:W[i]? = some [76]) (ways:List Wy) {way:Wy} (hw:way.length≤1000) (hwl:ways.length≤1000):∃ r,Aj (W,((i:Int),decide (way≠[]))) ways way=some r∧EI W (cmdV W i ways way [76]) r:=by
 have hlt:=getL he
 unfold Aj Ay
 simp only
 rw[Ah,he,obs,show ([[77],[76],[108],[72],[86],[104],[118],[90]]:List Str)=KWi from rfl,DW,obs,decide_eq_true (show ([76]:Str)∈KW by decide)]
 unfold cmdV
 rw[if_neg (by decide),if_pos (show ([76]:Str)∈KW by decide)]
 by_cases h0:way = []
 ·subst h0
  rw[if_pos rfl]
  simp only[JO,Jw,Ge,Jx,Gu,JI,GC,JD,nT,nF,cF,cT,obs,show decide (([]:Wy)≠[])=false from rfl,show (false==false)=true from rfl,show ((4:Int) != 0)=true from rfl]
  exact ⟨_,rfl,rfl,by omega⟩
 ·have hp:=List.length_pos_iff.2 h0
  rw[if_neg h0]
  rw[if_neg (by decide)]
  by_cases h12:way.length=12
  ·rw[if_pos h12]
   simp only[JO,Jw,Ge,Jx,Gu,JI,GC,JD,nT,nF,cF,cT,obs,show decide (way≠[])=true from decide_eq_true h0,show (false==true)=false from rfl,show ((way.length:Int)==12)=true by simp; omega,show ((5:Int) != 0)=true from rfl]
   exact ⟨_,rfl,rfl,by omega⟩
  ·rw[if_neg h12,if_pos rfl]
   simp only[JO,Jw,Ge,Jx,Gu,JI,GC,JD,nT,nF,cF,cT,obs,show decide (way≠[])=true from decide_eq_true h0,show (false==true)=false from rfl,show ((way.length:Int)==12)=false by simp; omega,show ((0:Int) != 0)=false from rfl,wrap1 (show i<4611686018427387904 by omega),GL,show Lib.contains [72,86,104,118] [76]=false from by decide,Sum.elim_inr]
   refine Rf hW hs (by omega) true ways hw [76] (f:=fun x y=>(x,y)) fun j x y=>?_
   unfold Aw
   simp only[JO,Jw,Ge,Jx,Gu,JI,GC,JD,decide_eq_true (show (way.length:Int)>0 by omega),cT,cF,BE h0 hw,BG h0,obs,Sum.elim_inr]
   rfl
theorem Wh {i:Nat} (he:W[i]? = some [108]) (ways:List Wy) {way:Wy} (hw:way.length≤1000) (hwl:ways.length≤1000):∃ r,Aj (W,((i:Int),decide (way≠[]))) ways way=some r∧EI W (cmdV W i ways way [108]) r:=by
 have hlt:=getL he
 unfold Aj Ay
 simp only
 rw[Ah,he,obs,show ([[77],[76],[108],[72],[86],[104],[118],[90]]:List Str)=KWi from rfl,DW,obs,decide_eq_true (show ([108]:Str)∈KW by decide)]
 unfold cmdV
 rw[if_neg (by decide),if_pos (show ([108]:Str)∈KW by decide)]
 by_cases h0:way = []
 ·subst h0
  rw[if_pos rfl]
  simp only[GY,GQ,Ej,GJ,Ey,Gy,EE,Gd,nT,nF,cF,cT,obs,show decide (([]:Wy)≠[])=false from rfl,show (false==false)=true from rfl,show ((4:Int) != 0)=true from rfl]
  exact ⟨_,rfl,rfl,by omega⟩
 ·have hp:=List.length_pos_iff.2 h0
  rw[if_neg h0]
  rw[if_neg (by decide)]
  by_cases h12:way.length=12
  ·rw[if_pos h12]
   simp only[GY,GQ,Ej,GJ,Ey,Gy,EE,Gd,nT,nF,cF,cT,obs,show decide (way≠[])=true from decide_eq_true h0,show (false==true)=false from rfl,show ((way.length:Int)==12)=true by simp; omega,show ((5:Int) != 0)=true from rfl]
   exact ⟨_,rfl,rfl,by omega⟩
  ·rw[if_neg h12,if_neg (by decide),if_pos rfl]
   simp only[GY,GQ,Ej,GJ,Ey,Gy,EE,Gd,nT,nF,cF,cT,obs,show decide (way≠[])=true from decide_eq_true h0,show (false==true)=false from rfl,show ((way.length:Int)==12)=false by simp; omega,show ((0:Int) != 0)=false from rfl,wrap1 (show i<4611686018427387904 by omega),GL,show Lib.contains [72,86,104,118] [108]=false from by decide,Sum.elim_inr]
   refine Rf hW hs (by omega) true ways hw [108] (f:=fun x y=>(IntKind.wrap .i64 ((lastP way).1 + x),IntKind.wrap .i64 ((lastP way).2 + y))) fun j x y=>?_
   unfold Aw
   simp only[GY,GQ,Ej,GJ,Ey,Gy,EE,Gd,decide_eq_true (show (way.length:Int)>0 by omega),cT,cF,BE h0 hw,BG h0,obs,Sum.elim_inr]
   rfl
theorem Zd {i:Nat} (he:W[i]? = some [72]) (ways:List Wy) {way:Wy} (hw:way.length≤1000) (hwl:ways.length≤1000):∃ r,Aj (W,((i:Int),decide (way≠[]))) ways way=some r∧EI W (cmdV W i ways way [72]) r:=by
 have hlt:=getL he
 unfold Aj Ay
 simp only
 rw[Ah,he,obs,show ([[77],[76],[108],[72],[86],[104],[118],[90]]:List Str)=KWi from rfl,DW,obs,decide_eq_true (show ([72]:Str)∈KW by decide)]
 unfold cmdV
 rw[if_neg (by decide),if_pos (show ([72]:Str)∈KW by decide)]
 by_cases h0:way = []
 ·subst h0
  rw[if_pos rfl]
  simp only[JE,I4,Gq,I5,Gx,Jo,GT,IZ,nT,nF,cF,cT,obs,show decide (([]:Wy)≠[])=false from rfl,show (false==false)=true from rfl,show ((4:Int) != 0)=true from rfl]
  exact ⟨_,rfl,rfl,by omega⟩
 ·have hp:=List.length_pos_iff.2 h0
  rw[if_neg h0]
  rw[if_neg (by decide)]
  by_cases h12:way.length=12
  ·rw[if_pos h12]
   simp only[JE,I4,Gq,I5,Gx,Jo,GT,IZ,nT,nF,cF,cT,obs,show decide (way≠[])=true from decide_eq_true h0,show (false==true)=false from rfl,show ((way.length:Int)==12)=true by simp; omega,show ((5:Int) != 0)=true from rfl]
   exact ⟨_,rfl,rfl,by omega⟩
  ·rw[if_neg h12,if_neg (by decide),if_neg (by decide),if_pos rfl]
   simp only[JE,I4,Gq,I5,Gx,Jo,GT,IZ,nT,nF,cF,cT,obs,show decide (way≠[])=true from decide_eq_true h0,show (false==true)=false from rfl,show ((way.length:Int)==12)=false by simp; omega,show ((0:Int) != 0)=false from rfl,wrap1 (show i<4611686018427387904 by omega),GL,show Lib.contains [72,86,104,118] [72]=true from by decide,Sum.elim_inr]
   refine MS hW hs (by omega) true ways hw [72] (f:=fun x=>(x,(lastP way).2)) fun j x=>?_
   unfold Aw
   simp only[JE,I4,Gq,I5,Gx,Jo,GT,IZ,decide_eq_true (show (way.length:Int)>0 by omega),cT,cF,BE h0 hw,BG h0,obs,Sum.elim_inr]
   rfl
theorem Wq {i:Nat} (he:W[i]? = some [104]) (ways:List Wy) {way:Wy} (hw:way.length≤1000) (hwl:ways.length≤1000):∃ r,Aj (W,((i:Int),decide (way≠[]))) ways way=some r∧EI W (cmdV W i ways way [104]) r:=by
 have hlt:=getL he
 unfold Aj Ay
 simp only
 rw[Ah,he,obs,show ([[77],[76],[108],[72],[86],[104],[118],[90]]:List Str)=KWi from rfl,DW,obs,decide_eq_true (show ([104]:Str)∈KW by decide)]
 unfold cmdV
 rw[if_neg (by decide),if_pos (show ([104]:Str)∈KW by decide)]
 by_cases h0:way = []
 ·subst h0
  rw[if_pos rfl]
  simp only[G4,Gv,EU,GG,Ep,GV,E4,GU,nT,nF,cF,cT,obs,show decide (([]:Wy)≠[])=false from rfl,show (false==false)=true from rfl,show ((4:Int) != 0)=true from rfl]
  exact ⟨_,rfl,rfl,by omega⟩
 ·have hp:=List.length_pos_iff.2 h0
  rw[if_neg h0]
  rw[if_neg (by decide)]
  by_cases h12:way.length=12
  ·rw[if_pos h12]
   simp only[G4,Gv,EU,GG,Ep,GV,E4,GU,nT,nF,cF,cT,obs,show decide (way≠[])=true from decide_eq_true h0,show (false==true)=false from rfl,show ((way.length:Int)==12)=true by simp; omega,show ((5:Int) != 0)=true from rfl]
   exact ⟨_,rfl,rfl,by omega⟩
  ·rw[if_neg h12,if_neg (by decide),if_neg (by decide),if_neg (by decide),if_pos rfl]
   simp only[G4,Gv,EU,GG,Ep,GV,E4,GU,nT,nF,cF,cT,obs,show decide (way≠[])=true from decide_eq_true h0,show (false==true)=false from rfl,show ((way.length:Int)==12)=false by simp; omega,show ((0:Int) != 0)=false from rfl,wrap1 (show i<4611686018427387904 by omega),GL,show Lib.contains [72,86,104,118] [104]=true from by decide,Sum.elim_inr]
   refine MS hW hs (by omega) true ways hw [104] (f:=fun x=>(IntKind.wrap .i64 ((lastP way).1 + x),(lastP way).2)) fun j x=>?_
   unfold Aw
   simp only[G4,Gv,EU,GG,Ep,GV,E4,GU,decide_eq_true (show (way.length:Int)>0 by omega),cT,cF,BE h0 hw,BG h0,obs,Sum.elim_inr]
   rfl
theorem Yc {i:Nat} (he:W[i]? = some [86]) (ways:List Wy) {way:Wy} (hw:way.length≤1000) (hwl:ways.length≤1000):∃ r,Aj (W,((i:Int),decide (way≠[]))) ways way=some r∧EI W (cmdV W i ways way [86]) r:=by
 have hlt:=getL he
 unfold Aj Ay
 simp only
 rw[Ah,he,obs,show ([[77],[76],[108],[72],[86],[104],[118],[90]]:List Str)=KWi from rfl,DW,obs,decide_eq_true (show ([86]:Str)∈KW by decide)]
 unfold cmdV
 rw[if_neg (by decide),if_pos (show ([86]:Str)∈KW by decide)]
 by_cases h0:way = []
 ·subst h0
  rw[if_pos rfl]
  simp only[JN,Jf,GX,Ji,GS,I7,Gk,Ju,nT,nF,cF,cT,obs,show decide (([]:Wy)≠[])=false from rfl,show (false==false)=true from rfl,show ((4:Int) != 0)=true from rfl]
  exact ⟨_,rfl,rfl,by omega⟩
 ·have hp:=List.length_pos_iff.2 h0
  rw[if_neg h0]
  rw[if_neg (by decide)]
  by_cases h12:way.length=12
  ·rw[if_pos h12]
   simp only[JN,Jf,GX,Ji,GS,I7,Gk,Ju,nT,nF,cF,cT,obs,show decide (way≠[])=true from decide_eq_true h0,show (false==true)=false from rfl,show ((way.length:Int)==12)=true by simp; omega,show ((5:Int) != 0)=true from rfl]
   exact ⟨_,rfl,rfl,by omega⟩
  ·rw[if_neg h12,if_neg (by decide),if_neg (by decide),if_neg (by decide),if_neg (by decide),if_pos rfl]
   simp only[JN,Jf,GX,Ji,GS,I7,Gk,Ju,nT,nF,cF,cT,obs,show decide (way≠[])=true from decide_eq_true h0,show (false==true)=false from rfl,show ((way.length:Int)==12)=false by simp; omega,show ((0:Int) != 0)=false from rfl,wrap1 (show i<4611686018427387904 by omega),GL,show Lib.contains [72,86,104,118] [86]=true from by decide,Sum.elim_inr]
   refine MS hW hs (by omega) true ways hw [86] (f:=fun x=>((lastP way).1,x)) fun j x=>?_
   unfold Aw
   simp only[JN,Jf,GX,Ji,GS,I7,Gk,Ju,decide_eq_true (show (way.length:Int)>0 by omega),cT,cF,BE h0 hw,BG h0,obs,Sum.elim_inr]
   rfl
theorem Wg {i:Nat} (he:W[i]? = some [118]) (ways:List Wy) {way:Wy} (hw:way.length≤1000) (hwl:ways.length≤1000):∃ r,Aj (W,((i:Int),decide (way≠[]))) ways way=some r∧EI W (cmdV W i ways way [118]) r:=by
 have hlt:=getL he
 unfold Aj Ay
 simp only
 rw[Ah,he,obs,show ([[77],[76],[108],[72],[86],[104],[118],[90]]:List Str)=KWi from rfl,DW,obs,decide_eq_true (show ([118]:Str)∈KW by decide)]
 unfold cmdV
 rw[if_neg (by decide),if_pos (show ([118]:Str)∈KW by decide)]
 by_cases h0:way = []
 ·subst h0
  rw[if_pos rfl]
  simp only[Gc,Gr,Ff,Gj,E5,GM,EK,F9,nT,nF,cF,cT,obs,show decide (([]:Wy)≠[])=false from rfl,show (false==false)=true from rfl,show ((4:Int) != 0)=true from rfl]
  exact ⟨_,rfl,rfl,by omega⟩
 ·have hp:=List.length_pos_iff.2 h0
  rw[if_neg h0]
  rw[if_neg (by decide)]
  by_cases h12:way.length=12
  ·rw[if_pos h12]
   simp only[Gc,Gr,Ff,Gj,E5,GM,EK,F9,nT,nF,cF,cT,obs,show decide (way≠[])=true from decide_eq_true h0,show (false==true)=false from rfl,show ((way.length:Int)==12)=true by simp; omega,show ((5:Int) != 0)=true from rfl]
   exact ⟨_,rfl,rfl,by omega⟩
  ·rw[if_neg h12,if_neg (by decide),if_neg (by decide),if_neg (by decide),if_neg (by decide),if_neg (by decide)]
   simp only[Gc,Gr,Ff,Gj,E5,GM,EK,F9,nT,nF,cF,cT,obs,show decide (way≠[])=true from decide_eq_true h0,show (false==true)=false from rfl,show ((way.length:Int)==12)=false by simp; omega,show ((0:Int) != 0)=false from rfl,wrap1 (show i<4611686018427387904 by omega),GL,show Lib.contains [72,86,104,118] [118]=true from by decide,Sum.elim_inr]
   refine MS hW hs (by omega) true ways hw [118] (f:=fun x=>((lastP way).1,IntKind.wrap .i64 ((lastP way).2 + x))) fun j x=>?_
   unfold Aw
   simp only[Gc,Gr,Ff,Gj,E5,GM,EK,F9,decide_eq_true (show (way.length:Int)>0 by omega),cT,cF,BE h0 hw,BG h0,obs,Sum.elim_inr]
   rfl
theorem Ys {i:Nat} (he:W[i]? = some [90]) (ways:List Wy) {way:Wy} (hw:way.length≤1000) (hwl:ways.length≤1000):∃ r,Aj (W,((i:Int),decide (way≠[]))) ways way=some r∧EI W (cmdV W i ways way [90]) r:=by
 have hlt:=getL he
 unfold Aj Ay
 simp only
 rw[Ah,he,obs,show ([[77],[76],[108],[72],[86],[104],[118],[90]]:List Str)=KWi from rfl,DW,obs,decide_eq_true (show ([90]:Str)∈KW by decide)]
 unfold cmdV
 rw[if_neg (by decide),if_pos (show ([90]:Str)∈KW by decide)]
 by_cases h0:way = []
 ·subst h0
  rw[if_pos rfl]
  simp only[Lw,LM,IC,Lf,IG,Lr,IA,K3,nT,nF,cF,cT,obs,show decide (([]:Wy)≠[])=false from rfl,show (false==false)=true from rfl,show ((4:Int) != 0)=true from rfl]
  exact ⟨_,rfl,rfl,by omega⟩
 ·have hp:=List.length_pos_iff.2 h0
  rw[if_neg h0]
  rw[if_pos rfl]
  by_cases h3:way.length<3
  ·rw[if_pos h3]
   simp only[Lw,LM,IC,Lf,IG,Lr,IA,K3,nT,nF,cF,cT,obs,show decide (way≠[])=true from decide_eq_true h0,show (false==true)=false from rfl,decide_eq_true (show (way.length:Int)<3 by omega),show ((5:Int) != 0)=true from rfl]
   exact ⟨_,rfl,rfl,by omega⟩
  ·rw[if_neg h3]
   simp only[Lw,LM,IC,Lf,IG,Lr,IA,K3,nT,nF,cF,cT,obs,show decide (way≠[])=true from decide_eq_true h0,show (false==true)=false from rfl,decide_eq_false (show ¬(way.length:Int)<3 by omega),show ((0:Int) != 0)=false from rfl,wrap1 (show i<4611686018427387904 by omega)]
   rw[Bh (by simp[maxBytes]; omega) (by simp[maxBytes]; omega),obs]
   exact ⟨_,rfl,rfl⟩
theorem Xy {i:Nat} {w:Str} (he:W[i]? = some w) (ways:List Wy) {way:Wy} (hw:way.length≤1000) (hwl:ways.length≤1000):∃ r,Aj (W,((i:Int),decide (way≠[]))) ways way=some r∧EI W (cmdV W i ways way w) r:=by
 by_cases hk:w∈KW
 ·have hk':w = [77]∨w = [76]∨w = [108]∨w = [72]∨w = [104]∨w = [86]∨w = [118]∨w = [90]:=by simpa[KW] using hk
  rcases hk' with rfl | rfl | rfl | rfl | rfl | rfl | rfl | rfl
  ·exact Yw hW hs he ways hw hwl
  ·exact XP hW hs he ways hw hwl
  ·exact Wh hW hs he ways hw hwl
  ·exact Zd hW hs he ways hw hwl
  ·exact Wq hW hs he ways hw hwl
  ·exact Yc hW hs he ways hw hwl
  ·exact Wg hW hs he ways hw hwl
  ·exact Ys hW hs he ways hw hwl
 ·exact YE hW hs he hk _ ways way
end
end
section
open Go
def CF (W:List Str) (i:Nat) (ways:List Wy) (way:Wy):CV→Prop
 | .inl (c,_)=>c≠0
 | .inr (j,ways',way')=>i<j∧j≤W.length∧ways'.length≤ways.length + 1∧way'.length≤way.length + 1
section
variable {W:List Str} (hW:W.length≤1000) (hs:∀ w∈W,w.length≤1000)
include hW hs
theorem Ag2 {i j:Nat} (hi:i<j) (hj:j≤W.length) (ways:List Wy) (way:Wy) (p:Pn):CF W i ways way (ptV goodP j ways way p):=by
 unfold ptV
 split
 ·exact ⟨hi,hj,by omega,by simp⟩
 ·show (6:Int)≠0; omega
theorem X9 {i j:Nat} (hi:i<j) (ways:List Wy) (way:Wy) (f:Int→Pn):CF W i ways way (one W j ways way f):=by
 unfold one
 cases hz:numAt W j with
 | none=>show (3:Int)≠0; omega
 | some x=>exact Ag2 hW hs (by omega) (EM hW hs hz) ways way _
theorem Af7 {i j:Nat} (hi:i<j) (ways:List Wy) (way:Wy) (f:Int→Int→Pn):CF W i ways way (two W j ways way f):=by
 unfold two
 cases hz:numAt W j with
 | none=>show (3:Int)≠0; omega
 | some x=>exact X9 hW hs (by omega) ways way _
theorem Za {i:Nat} {w:Str} (he:W[i]? = some w) (ways:List Wy) (way:Wy):CF W i ways way (cmdV W i ways way w):=by
 have hlt:=getL he
 unfold cmdV
 repeat' split
 all_goals first
  | exact Af7 hW hs (by omega) ways way _
  | exact X9 hW hs (by omega) ways way _
  | (show (5:Int)≠0; omega)
  | (show (4:Int)≠0; omega)
  | (show (2:Int)≠0; omega)
  | exact ⟨by omega,by omega,by simp,by simp⟩
def parse (W:List Str):Nat→Nat→List Wy→Wy→(Int×Nat) ⊕ (List Wy×Wy)
 | 0,_,ways,way=>.inr (ways,way)
 | n + 1,i,ways,way=>match W[i]? with | none=>.inr (ways,way) | some w=>(match cmdV W i ways way w with | .inl e=>.inl e | .inr (j,ways',way')=>parse W n j ways' way')
abbrev SP:=(List Str×Int×Int)×List Wy×Wy
noncomputable def spB:SP→Option (SP ⊕ SP):=fun s=>Bj s.1 s.2.1 s.2.2
def SEnd (W:List Str):((Int×Nat) ⊕ (List Wy×Wy))→SP→Prop
 | .inl (c,i),r=>r.1.2=((i:Int),c)∧c≠0
 | .inr (ways,way),r=>r=((W,((W.length:Int),0)),(ways,way))
omit hW hs in
theorem Af2 (W:List Str) (i c:Int) (hc:c≠0) (ways:List Wy) (way:Wy):loopM spB ((W,(i,c)),(ways,way))=some ((W,(i,c)),(ways,way)):=by
 refine Ap ?_
 unfold spB Bj
 simp only
 by_cases h:i<(W.length:Int)
 ·rw[decide_eq_true h,cT,show (c==0)=false by simpa using hc,cF]
 ·rw[decide_eq_false h,cF]
theorem ZM:∀ (n i:Nat) (ways:List Wy) (way:Wy),W.length<n + i→i≤W.length→ways.length≤i→way.length≤i→∃ r,loopM spB ((W,((i:Int),0)),(ways,way))=some r∧SEnd W (parse W n i ways way) r:=by
 intro n
 induction n with
 | zero=>intro i ways way h1 h2; omega
 | succ n ih =>
  intro i ways way h1 h2 h3 h4
  unfold parse
  by_cases hi:i=W.length
  ·subst hi
   rw[List.getElem?_eq_none (Nat.le_refl _)]
   refine ⟨_,Ap (r:=((W,((W.length:Int),0)),(ways,way))) ?_,rfl⟩
   unfold spB Bj
   simp only
   rw[decide_eq_false (by omega),cF]
  ·have he:W[i]? = some (W[i]'(by omega)):=List.getElem?_eq_getElem (by omega)
   generalize (W[i]'(by omega))=w at he
   have hc:=Wz hW hs he ways (way:=way) (by omega) (by omega)
   have hf:=Za hW hs he ways way
   rw[he]
   simp only
   have hgo:spB ((W,((i:Int),0)),(ways,way))=some (.inl (encS W ways way (cmdV W i ways way w))):=by
    unfold spB Bj
    simp only
    rw[decide_eq_true (by omega),cT,show ((0:Int)==0)=true from rfl,cT,hc,obs]
   rw[A7 hgo]
   cases hz:cmdV W i ways way w with
   | inl e =>
    obtain ⟨c,j⟩:=e
    rw[hz] at hf
    exact ⟨_,Af2 W _ c hf ways way,rfl,hf⟩
   | inr v =>
    obtain ⟨j,ways',way'⟩:=v
    rw[hz] at hf
    obtain ⟨f1,f2,f3,f4⟩:=hf
    exact ih j ways' way' (by omega) f2 (by omega) (by omega)
abbrev IP:=(List Str×Int×Bool)×List Wy×Wy
noncomputable def ipB:IP→Option (IP ⊕ (IP ⊕ (List Wy×Int×Int×Bool))):=fun s=>BY s.1 s.2.1 s.2.2
def IEnd (W:List Str):((Int×Nat) ⊕ (List Wy×Wy))→(IP ⊕ (List Wy×Int×Int×Bool))→Prop
 | .inl (c,i),r=>r = .inr ([],c,(i:Int),false)
 | .inr (ways,way),r=>r = .inl ((W,((W.length:Int),decide (way≠[]))),(ways,way))
theorem ZS:∀ (n i:Nat) (ways:List Wy) (way:Wy),W.length<n + i→i≤W.length→ways.length≤i→way.length≤i→∃ r,loopM ipB ((W,((i:Int),decide (way≠[]))),(ways,way))=some r∧IEnd W (parse W n i ways way) r:=by
 intro n
 induction n with
 | zero=>intro i ways way h1 h2; omega
 | succ n ih =>
  intro i ways way h1 h2 h3 h4
  unfold parse
  by_cases hi:i=W.length
  ·subst hi
   rw[List.getElem?_eq_none (Nat.le_refl _)]
   refine ⟨.inl ((W,((W.length:Int),decide (way≠[]))),(ways,way)),Ap ?_,rfl⟩
   unfold ipB BY
   simp only
   rw[decide_eq_false (show ¬(W.length:Int)<(W.length:Int) by omega),cF]
  ·have he:W[i]? = some (W[i]'(by omega)):=List.getElem?_eq_getElem (by omega)
   generalize (W[i]'(by omega))=w at he
   obtain ⟨r,hc,hE⟩:=Xy hW hs he ways (way:=way) (by omega) (by omega)
   have hf:=Za hW hs he ways way
   rw[he]
   simp only
   have hgo:ipB ((W,((i:Int),decide (way≠[]))),(ways,way))=bif (r.2.2.2.1 != 0) then some (.inr (.inr ([],(r.2.2.2.1,(r.2.2.2.2,false))))) else some (.inl ((r.1.1,(r.1.2.1,r.1.2.2)),(r.2.1,r.2.2.1))):=by
    unfold ipB BY
    simp only
    rw[decide_eq_true (show (i:Int)<(W.length:Int) by omega),cT,hc,obs]
   cases hz:cmdV W i ways way w with
   | inl e =>
    obtain ⟨c,j⟩:=e
    rw[hz] at hf hE
    have hE:r.2.2.2=(c,(j:Int))∧c≠0:=hE
    rw[hE.1,show (c != 0)=true by simpa[bne] using hE.2,cT] at hgo
    exact ⟨_,Ap hgo,rfl⟩
   | inr v =>
    obtain ⟨j,ways',way'⟩:=v
    rw[hz] at hf hE
    obtain ⟨f1,f2,f3,f4⟩:=hf
    have hE:r=((W,((j:Int),decide (way'≠[]))),(ways',(way',(0,0)))):=hE
    subst hE
    simp only at hgo
    rw[show ((0:Int) != 0)=false from rfl,cF] at hgo
    rw[A7 hgo]
    exact ih j ways' way' (by omega) f2 (by omega) (by omega)
end
def pathV (s:Str):List Wy×Int×Int×Bool :=
 if 1≤s.length∧s.length≤400 then (match parse (parts 32 s) ((parts 32 s).length + 1) 0 [] [] with
  | .inl (c,i)=>([],c,(i:Int),false)
  | .inr (ways,way)=>if way≠[] then ([],7,((parts 32 s).length:Int),false) else (ways,0,0,true)) else ([],1,0,false)
theorem LU {c:UInt8}:∀ (n:Nat) (s:Str),s.length≤n→(parts c s).length≤s.length + 1:=by
 intro n
 induction n with
 | zero =>
  intro s hs
  have:s = []:=List.eq_nil_of_length_eq_zero (by omega)
  subst this
  rw[CE (by simp)]
  simp
 | succ n ih =>
  intro s hs
  rcases UX c s with h | ⟨x,r,rfl,h⟩
  ·rw[CE h]; simp
  ·rw[Fm h]
   rw[List.length_append,List.length_cons] at hs ⊢
   have:=ih r (by omega)
   rw[List.length_cons]
   omega
theorem Hj {s:Str} (hs:s.length<4611686018427387904):Bu s=some (pathV s):=by
 unfold Bu pathV
 by_cases h0:s.length=0
 ·rw[show ((s.length:Int)==0)=true by simp[h0],cT,if_neg (by omega)]
 rw[show ((s.length:Int)==0)=false from beq_eq_false_iff_ne.2 (by omega),cF]
 by_cases h1 : 400<s.length
 ·rw[decide_eq_true (by omega),cT,if_neg (by omega)]
 rw[decide_eq_false (by omega),cF,Ui (by omega),obs,if_pos (by omega)]
 have hc:=LU (c:=32) s.length s (Nat.le_refl _)
 have hl:∀ w∈parts 32 s,w.length≤1000:=fun w hw=>by have:=P7 s.length s (Nat.le_refl _) w hw; omega
 obtain ⟨r,h2,h3⟩:=ZM (W:=parts 32 s) (by omega) hl ((parts 32 s).length + 1) 0 [] [] (by omega) (by omega) (by simp) (by simp)
 have h2':loopM (fun (s:(((List Str)×(Int×Int))×((List Wy)×Wy)))=>Bj s.1 s.2.1 s.2.2) ((parts 32 s,((0:Int),(0:Int))),(([]:List Wy),([]:Wy)))=some r:=h2
 rw[h2',obs]
 cases hz:parse (parts 32 s) ((parts 32 s).length + 1) 0 [] [] with
 | inl e =>
  obtain ⟨c,i⟩:=e
  rw[hz] at h3
  have h3:r.1.2=((i:Int),c)∧c≠0:=h3
  simp only[h3.1]
  rw[show (c==0)=false by simpa using h3.2,cF,obs]
  simp only[Sum.elim_inr]
  rw[show (c != 0)=true by simpa[bne] using h3.2,cT]
 | inr v =>
  obtain ⟨ways,way⟩:=v
  rw[hz] at h3
  have h3:r=((parts 32 s,(((parts 32 s).length:Int),0)),(ways,way)):=h3
  subst h3
  simp only
  rw[show ((0:Int)==0)=true from rfl,cT]
  by_cases hw:way = []
  ·subst hw
   rw[show decide (((([]:Wy).length:Nat):Int)>0)=false from rfl,cF,obs,if_neg (by simp)]
   rfl
  ·have hp:=List.length_pos_iff.2 hw
   rw[decide_eq_true (by omega),cT,obs,if_pos hw]
   rfl
theorem HB {s:Str} (hs:s.length<4294967281):A8 s=some (pathV s):=by
 unfold A8 pathV
 have hin:AR (s.length:Int) 1 400=some (decide (1≤s.length∧s.length≤400)):=by
  unfold AR
  by_cases h:(s.length:Int)≥1
  ·rw[decide_eq_true h,cT]; congr 1; rw[decide_eq_decide]; omega
  ·rw[decide_eq_false h,cF]; congr 1; symm; rw[decide_eq_false]; omega
 rw[hin,obs]
 by_cases h : 1≤s.length∧s.length≤400
 ·rw[decide_eq_true h,nT,cF,if_pos h]
  unfold DP
  rw[Yn hs,obs]
  have hc:=LU (c:=32) s.length s (Nat.le_refl _)
  have hl:∀ w∈parts 32 s,w.length≤1000:=fun w hw=>by have:=P7 s.length s (Nat.le_refl _) w hw; omega
  obtain ⟨r,h2,h3⟩:=ZS (W:=parts 32 s) (by omega) hl ((parts 32 s).length + 1) 0 [] [] (by omega) (by omega) (by simp) (by simp)
  have h2':loopM (fun (s:(((List Str)×(Int×Bool))×((List Wy)×Wy)))=>BY s.1 s.2.1 s.2.2) ((parts 32 s,((0:Int),false)),(([]:List Wy),([]:Wy)))=some r:=h2
  rw[h2',obs]
  cases hz:parse (parts 32 s) ((parts 32 s).length + 1) 0 [] [] with
  | inl e =>
   obtain ⟨c,i⟩:=e
   rw[hz] at h3
   have h3:r = .inr ([],c,(i:Int),false):=h3
   subst h3
   rfl
  | inr v =>
   obtain ⟨ways,way⟩:=v
   rw[hz] at h3
   have h3:r = .inl ((parts 32 s,(((parts 32 s).length:Int),decide (way≠[]))),(ways,way)):=h3
   subst h3
   simp only[Sum.elim_inl]
   by_cases hw:way = []
   ·subst hw; rw[show decide (([]:Wy)≠[])=false from rfl,cF,if_neg (by simp)]
   ·rw[decide_eq_true hw,cT,if_pos hw]
 ·rw[decide_eq_false h,nF,cT,if_neg h]
end
section
open Go
theorem wrap8 {n:Int} (h1 : 0≤n) (h2:n<256):IntKind.wrap .u8 n=n:=by rw[IntKind.wrap_u8]; omega
theorem NQ {n:Nat} (h:n<10):strOf [IntKind.wrap .u8 (IntKind.wrap .i64 ((48:Int) + (n:Int)))] = [UInt8.ofNat (48 + n)]:=by
 rw[wrapI (by omega) (by omega),wrap8 (by omega) (by omega)]
 unfold strOf
 simp only[List.map_cons,List.map_nil]
 congr 2
theorem VM:∀ (f n:Nat),n<f→n<9223372036854775808→Dr f (n:Int)=some (Lib.decDigits n)
 | 0,n,h,_=>by omega
 | f + 1,n,h,h1=>by
  unfold Dr Lu
  by_cases hn:n<10
  ·rw[decide_eq_true (by omega),cT,NQ hn,Lib.decDigits,dif_pos hn]
  ·have e1:Int.tdiv (n:Int) 10=((n/10:Nat):Int):=by rw[Int.tdiv_eq_ediv_of_nonneg (by omega)]; omega
   have e2:Int.tmod (n:Int) 10=((n%10:Nat):Int):=by rw[Int.tmod_eq_emod_of_nonneg (by omega)]; omega
   rw[decide_eq_false (by omega),cF,e1,wrapI (by omega) (by omega),VM f (n/10) (by omega) (by omega),obs,e2,NQ (by omega),AG (by
    have:=Dw (n:=n/10) (by omega)
    simp; omega),obs]
   conv=>rhs; rw[Lib.decDigits,dif_neg hn]
theorem Vw {n:Nat} (h:n<9223372036854775808):FT (n:Int)=some (Lib.decDigits n):=by
 unfold FT
 exact VM _ n (by omega) h
end
section
open Go
theorem FQ {n:Int} (h0 : -9223372036854775808<n) (h1:n<9223372036854775808):Bs n=some (Lib.itoa n):=by
 unfold Bs Lib.itoa
 by_cases hn:n<0
 ·obtain ⟨m,rfl⟩:∃ m:Nat,n = -(m:Int):=⟨n.natAbs,by omega⟩
  rw[decide_eq_true hn,cT,if_pos hn,wrapI (by omega) (by omega),show (0:Int) - -(m:Int)=(m:Int) by omega,Vw (by omega),obs,AG (by
   have:=Dw (n:=m) (by omega)
   simp; omega),obs]
  rw[Int.natAbs_neg,Int.natAbs_natCast]
  rfl
 ·obtain ⟨m,rfl⟩:∃ m:Nat,n=(m:Int):=⟨n.toNat,by omega⟩
  rw[decide_eq_false hn,cF,if_neg hn,Vw (by omega),obs,Int.toNat_natCast]
end
section
open Go
theorem Zc {c:Nat}:∀ {xs:List Str},(∀ x∈xs,x.length≤c)→∀ b,(Lib.join xs [b]).length≤(c + 1)*xs.length
 | [],_,b=>by simp[Lib.join_nil]
 | x::xs,h,b=>by
  rw[Lib.join_cons]
  have ht:∀ ys:List Str,(∀ y∈ys,y.length≤c)→(Lib.joinTail [b] ys).length≤(c + 1)*ys.length:=by
   intro ys
   induction ys with
   | nil=>intro _; simp[Lib.joinTail]
   | cons y ys ih =>
    intro hy
    have h1:=ih (fun z hz=>hy z (List.mem_cons_of_mem _ hz))
    have h2:=hy y (List.mem_cons_self ..)
    simp only[Lib.joinTail,List.map_cons,List.flatten_cons,List.length_append,List.length_cons,List.length_nil] at h1 ⊢
    rw[Nat.mul_add]
    omega
  have h1:=ht xs (fun z hz=>h z (List.mem_cons_of_mem _ hz))
  have h2:=h x (List.mem_cons_self ..)
  rw[List.length_append,List.length_cons,Nat.mul_add]
  omega
theorem Ae4 {l:List Str} {sep:Str} (h1:l.length≤140737488355328) (h2:(Lib.join l sep).length≤140737488355328):C2 l sep=some (Lib.join l sep):=by
 unfold C2 Oh
 rw[if_pos ⟨h1,h2⟩]
end
section
open Go
abbrev Ways:=List (List (Int×Int))
def goodWays (l:Ways):Bool:=l.all isWay&&(decide (1≤l.length)&&decide (l.length≤4))
theorem wlen (n:Nat):within (n:Int) 1 4=(decide (1≤n)&&decide (n≤4)):=by
 unfold within
 congr 1 <;> (apply decide_eq_decide.2; omega)
theorem UG {l:Ways} (hl:Short l) (hs:∀ w∈l,Short w):C0 l=some (goodWays l):=by
 unfold C0 goodWays
 have hl':=hl
 unfold Short at hl'
 have key:=Hv (body:=fun s:Ways×Ways×Int×Int=>Cg s.1 s.2.1 s.2.2.1 s.2.2.2) (l:=l) (st:=fun k=>(l,l,(l.length:Int),(k:Int))) (p:=isWay) (fin:=.inl l) (bad:=fun k=>.inr false)
  (fun k a hk hp=>by
   have:=getL hk
   unfold Cg
   simp only[Et hk,cond_true,Ah,hk,Option.bind_some,Rh (hs a (List.mem_of_getElem? hk)),hp,Bool.not_true,cond_false,wrap1 (show k<4611686018427387904 by omega)])
  (fun k a hk hp=>by
   unfold Cg
   simp only[Et hk,cond_true,Ah,hk,Option.bind_some,Rh (hs a (List.mem_of_getElem? hk)),hp,Bool.not_false])
  (by unfold Cg; simp only[JG,cond_false])
 cases hall:l.all isWay with
 | true =>
  have h:=key.1 hall
  rw[show ((0:Nat):Int)=0 from rfl] at h
  simp only[h,Option.bind_some,Sum.elim_inl,Vk,wlen,Bool.true_and]
 | false =>
  obtain ⟨k,_,h⟩:=key.2 hall
  rw[show ((0:Nat):Int)=0 from rfl] at h
  simp only[h,Option.bind_some,Sum.elim_inr,Bool.false_and]
theorem UU {l:Ways} (hl:Short l) (hs:∀ w∈l,Short w):C3 l=some (goodWays l):=by
 unfold C3 goodWays Ax AF
 have hl':=hl
 unfold Short at hl'
 have key:=Hv (body:=fun s:Ways×Int×Int=>Ao s.1 s.2.1 s.2.2) (l:=l) (st:=fun k=>(l,(l.length:Int),(k:Int))) (p:=isWay) (fin:=.inl ()) (bad:=fun k=>.inr (k:Int))
  (fun k a hk hp=>by
   have:=getL hk
   unfold Ao Ca
   simp only[Et hk,cond_true,Ah,hk,Option.bind_some,Q8 (hs a (List.mem_of_getElem? hk)),hp,Bool.not_true,cond_false,wrap1 (show k<4611686018427387904 by omega)])
  (fun k a hk hp=>by
   unfold Ao Ca
   simp only[Et hk,cond_true,Ah,hk,Option.bind_some,Q8 (hs a (List.mem_of_getElem? hk)),hp,Bool.not_false])
  (by unfold Ao; simp only[JG,cond_false])
 rw[NC,obs,wlen]
 cases hw:(decide (1≤l.length)&&decide (l.length≤4)) with
 | false=>rw[cF,Bool.and_false]
 | true =>
  rw[cT,Bool.and_true]
  cases hall:l.all isWay with
  | true =>
   have h:=key.1 hall
   rw[show ((0:Nat):Int)=0 from rfl] at h
   simp only[h,Option.bind_some,Sum.elim_inl]
   rfl
  | false =>
   obtain ⟨k,_,h⟩:=key.2 hall
   rw[show ((0:Nat):Int)=0 from rfl] at h
   simp only[h,Option.bind_some,Sum.elim_inr]
   have:decide ((k:Int)≥0)=true:=by simp
   rw[this]; rfl
theorem C1 {l:Ways} (h:goodWays l=true):l.length≤4∧∀ w∈l,w.length≤12∧3≤w.length∧∀ p∈w,-1000≤p.1∧p.1≤1000∧-1000≤p.2∧p.2≤1000:=by
 unfold goodWays at h
 rw[Bool.and_eq_true,Bool.and_eq_true,List.all_eq_true] at h
 refine ⟨by simpa using h.2.2,fun w hw=>?_⟩
 have h1:=h.1 w hw
 unfold isWay at h1
 simp only[Bool.and_eq_true,decide_eq_true_eq,List.all_eq_true] at h1
 exact ⟨h1.1.2,h1.1.1,fun p hp=>Dm.1 (h1.2 p hp)⟩
end
section
open Go
def ptW (k:Nat) (p:P2):List Str:=[if k=0 then [77] else [76],Lib.itoa p.1,Lib.itoa p.2]
def ptsW (w:List P2) (k:Nat):List Str:=((List.range k).map fun i=>match w[i]? with | some p=>ptW i p | none=>[]).flatten
def wayW (w:List P2):List Str:=ptsW w w.length ++ [[90]]
def waysW (l:Ways) (k:Nat):List Str:=((l.take k).map wayW).flatten
def sp (ws:List Str):Str:=(ws.map (· ++ [32])).flatten
theorem K7 (a b:List Str):sp (a++b)=sp a++sp b:=by unfold sp; simp
theorem M0 (a:List Str) (z:Str):Lib.join (a ++ [z]) [32]=sp a++z:=by
 induction a with
 | nil=>rw[List.nil_append,Lib.join_one]; rfl
 | cons x a ih =>
  have e:∀ (y:Str) (r:List Str),Lib.join (x::y::r) [32]=x++32::Lib.join (y::r) [32]:=by
   intro y r
   rw[Lib.join_cons,Lib.join_cons]
   simp[Lib.joinTail]
  cases a with
  | nil =>
   rw[List.nil_append] at ih
   rw[List.cons_append,List.nil_append,e,ih]
   simp[sp]
  | cons y r =>
   rw[List.cons_append] at ih
   rw[List.cons_append,List.cons_append,e,ih]
   unfold sp
   simp
theorem D5 {w:List P2} {k:Nat} {p:P2} (h:w[k]? = some p):ptsW w (k + 1)=ptsW w k++ptW k p:=by
 unfold ptsW
 rw[List.range_succ,List.map_append,List.flatten_append]
 simp[h]
theorem CC {l:Ways} {k:Nat} {w:List P2} (h:l[k]? = some w):waysW l (k + 1)=waysW l k++wayW w:=by
 unfold waysW
 rw[List.take_add_one,h]
 simp
theorem Fc (w:List P2):∀ k,(ptsW w k).length≤3*k
 | 0=>by simp[ptsW]
 | k + 1=>by
  cases h:w[k]? with
  | some p =>
   have:=Fc w k
   rw[D5 h,List.length_append]
   simp[ptW]; omega
  | none =>
   have:=Fc w k
   have e:ptsW w (k + 1)=ptsW w k:=by
    unfold ptsW
    rw[List.range_succ,List.map_append,List.flatten_append]
    simp[h]
   rw[e]; omega
theorem Y8 (w:List P2):(wayW w).length≤3*w.length + 1:=by
 have:=Fc w w.length
 unfold wayW
 rw[List.length_append]
 simp; omega
theorem Ef {l:Ways} (h:∀ w∈l,w.length≤12):∀ k,(waysW l k).length≤37*k
 | 0=>by simp[waysW]
 | k + 1=>by
  have:=Ef h k
  cases hk:l[k]? with
  | some w =>
   have h1:=Y8 w
   have h2:=h w (List.mem_of_getElem? hk)
   rw[CC hk,List.length_append]
   omega
  | none =>
   unfold waysW at this ⊢
   rw[List.take_add_one,hk]
   simp at this ⊢; omega
def SW (ws:List Str):Prop:=∀ x∈ws,x.length≤21
theorem SW.append {a b:List Str} (ha:SW a) (hb:SW b):SW (a++b):=fun x hx=>(List.mem_append.1 hx).elim (ha x) (hb x)
theorem Ae0 {k:Nat} {p:P2} (h : -1000≤p.1∧p.1≤1000∧-1000≤p.2∧p.2≤1000):SW (ptW k p):=by
 intro x hx
 unfold ptW at hx
 rcases List.mem_cons.1 hx with rfl | hx
 ·split <;> simp
 rcases List.mem_cons.1 hx with rfl | hx
 ·exact F0 (by omega) (by omega)
 cases List.mem_singleton.1 hx
 exact F0 (by omega) (by omega)
theorem M1 {w:List P2} (h:∀ p∈w,-1000≤p.1∧p.1≤1000∧-1000≤p.2∧p.2≤1000):∀ k,k≤w.length→SW (ptsW w k)
 | 0,_=>fun x hx=>by simp[ptsW] at hx
 | k + 1,hk=>by
  have he:w[k]? = some w[k]:=List.getElem?_eq_getElem (by omega)
  rw[D5 he]
  exact (M1 h k (by omega)).append (Ae0 (h _ (List.getElem_mem _)))
theorem Zx {w:List P2} (h:∀ p∈w,-1000≤p.1∧p.1≤1000∧-1000≤p.2∧p.2≤1000):SW (wayW w) :=
 (M1 h w.length (Nat.le_refl _)).append (fun x hx=>by cases List.mem_singleton.1 hx; simp)
theorem NE {l:Ways} (h:∀ w∈l,∀ p∈w,-1000≤p.1∧p.1≤1000∧-1000≤p.2∧p.2≤1000) (k:Nat):SW (waysW l k):=by
 intro x hx
 unfold waysW at hx
 obtain ⟨ws,hws,hx⟩:=List.mem_flatten.1 hx
 obtain ⟨w,hw,rfl⟩:=List.mem_map.1 hws
 exact Zx (h w (List.mem_of_mem_take hw)) x hx
theorem UZ {ws:List Str} (h:SW ws):(sp ws).length≤22*ws.length:=by
 induction ws with
 | nil=>simp[sp]
 | cons x ws ih =>
  have h1:=ih (fun y hy=>h y (List.mem_cons_of_mem _ hy))
  have h2:=h x (List.mem_cons_self ..)
  unfold sp at h1 ⊢
  rw[List.map_cons,List.flatten_cons,List.length_append,List.length_append,List.length_cons]
  simp only[List.length_cons,List.length_nil]
  omega
def printW (l:Ways):Str:=Lib.join (waysW l l.length) [32]
def preW (l:Ways) (k:Nat):Str:=Lib.join (waysW l k) [32]
theorem ZC {l:Ways} {k:Nat} (hk:k<l.length) (h0:k≠0):preW l k ++ [32]=sp (waysW l k):=by
 obtain ⟨j,rfl⟩:∃ j,k=j + 1:=⟨k-1,by omega⟩
 have he:l[j]? = some l[j]:=List.getElem?_eq_getElem (by omega)
 unfold preW
 rw[CC he]
 unfold wayW
 rw[←List.append_assoc,M0,K7 (waysW l j++ptsW l[j] l[j].length),List.append_assoc]
 rfl
section
variable {l:Ways} (hl:l.length≤4) (hw:∀ w∈l,w.length≤12∧3≤w.length∧∀ p∈w,-1000≤p.1∧p.1≤1000∧-1000≤p.2∧p.2≤1000)
include hl hw
theorem Ab7 {j:Nat} (hj:j<l.length) {w:List P2} (hjw:l[j]? = some w) (a b:Int) :
  loopM (fun (s:(Str×(Ways×(Int×(Int×(List P2×(Int×Int)))))))=>Cd s.1 s.2.1 s.2.2.1 s.2.2.2.1 s.2.2.2.2.1 s.2.2.2.2.2.1 s.2.2.2.2.2.2) (sp (waysW l j),(l,(a,(b,(w,((w.length:Int),(0:Int))))))) =
   some (sp (waysW l j++ptsW w w.length),(l,(a,b))):=by
 have hin:=hw w (List.mem_of_getElem? hjw)
 have hsw:=NE (l:=l) (fun w hw'=>(hw w hw').2.2) j
 have hwl:=Ef (l:=l) (fun w hw'=>(hw w hw').1) j
 obtain ⟨_,h1,_⟩:=Cm (body:=fun (s:(Str×(Ways×(Int×(Int×(List P2×(Int×Int)))))))=>Cd s.1 s.2.1 s.2.2.1 s.2.2.2.1 s.2.2.2.2.1 s.2.2.2.2.2.1 s.2.2.2.2.2.2)
  (fun k (_:Unit)=>(sp (waysW l j++ptsW w k),l,a,b,w,(w.length:Int),(k:Int))) (fun _=>(sp (waysW l j++ptsW w w.length),l,a,b)) (fun _ _=>True) w.length (by
   intro k _ hk _
   have he:w[k]? = some w[k]:=List.getElem?_eq_getElem hk
   generalize w[k]=p at he
   have hp:=hin.2.2 p (List.mem_of_getElem? he)
   have n1:=F0 (n:=p.1) (by omega) (by omega)
   have n2:=F0 (n:=p.2) (by omega) (by omega)
   have hsl:=UZ (hsw.append (M1 hin.2.2 k (by omega)))
   have hpl:=Fc w k
   rw[List.length_append] at hsl
   refine ⟨(),?_,trivial⟩
   unfold Cd
   simp only
   rw[decide_eq_true (by omega),cT,Ah,he,obs,D5 he]
   by_cases hk0:k=0
   ·subst hk0
    rw[show (((0:Nat):Int)==0)=true from rfl,cT,AG (by simp; omega),obs,obs]
    simp only[Sum.elim_inr]
    rw[FQ (by omega) (by omega),obs,AG (by simp; omega),obs,FQ (by omega) (by omega),obs,AG (by simp; omega),obs,AG (by simp; omega),obs,AG (by simp; omega),obs,wrap1 (by omega),
     ←List.append_assoc (waysW l j),K7 (waysW l j++ptsW w _)]
    simp[ptW,sp]
   ·rw[show ((k:Int)==0)=false by simp; omega,cF,AG (by simp; omega),obs,obs]
    simp only[Sum.elim_inr]
    rw[FQ (by omega) (by omega),obs,AG (by simp; omega),obs,FQ (by omega) (by omega),obs,AG (by simp; omega),obs,AG (by simp; omega),obs,AG (by simp; omega),obs,wrap1 (by omega),
     ←List.append_assoc (waysW l j),K7 (waysW l j++ptsW w _)]
    simp[ptW,sp,hk0]) (by
   intro _ _
   unfold Cd
   simp) 0 () (by omega) trivial
 have e0:ptsW w 0 = []:=by simp[ptsW]
 rw[e0,List.append_nil] at h1
 exact h1
theorem Vl:CS l=some (printW l):=by
 unfold CS
 obtain ⟨_,h1,_⟩:=Cm (body:=fun (s:(Str×(Ways×(Int×Int))))=>Cb s.1 s.2.1 s.2.2.1 s.2.2.2)
  (fun k (_:Unit)=>(preW l k,l,(l.length:Int),(k:Int))) (fun _=>printW l) (fun _ _=>True) l.length (by
   intro k _ hk _
   have he:l[k]? = some l[k]:=List.getElem?_eq_getElem hk
   generalize l[k]=w at he
   have hin:=hw w (List.mem_of_getElem? he)
   have hsw:=NE (l:=l) (fun w hw'=>(hw w hw').2.2) k
   have hwl:=Ef (l:=l) (fun w hw'=>(hw w hw').1) k
   have hsl:=UZ hsw
   have hsl2:=UZ (hsw.append (M1 hin.2.2 w.length (Nat.le_refl _)))
   have hpl:=Fc w w.length
   rw[List.length_append] at hsl2
   refine ⟨(),?_,trivial⟩
   unfold Cb
   simp only
   rw[decide_eq_true (by omega),cT,Ah,he,obs]
   by_cases hk0:k=0
   ·subst hk0
    rw[show decide (((0:Nat):Int)>0)=false from rfl,cF]
    have e0:preW l 0=sp (waysW l 0):=by simp[preW,waysW,sp,Lib.join_nil]
    rw[e0]
    rw[obs]
    simp only[Sum.elim_inr]
    rw[Ab7 hl hw hk he,obs]
    simp only
    rw[AG (by simp; omega),obs,wrap1 (by omega)]
    congr 3
    unfold preW
    rw[CC he]
    unfold wayW
    rw[←List.append_assoc,M0]
   ·have hps:=ZC hk hk0
    have hlen:=congrArg List.length hps
    rw[List.length_append] at hlen
    rw[decide_eq_true (by omega),cT,AG (by simp at hlen ⊢; omega),obs,hps]
    rw[obs]
    simp only[Sum.elim_inr]
    rw[Ab7 hl hw hk he,obs]
    simp only
    rw[AG (by simp; omega),obs,wrap1 (by omega)]
    congr 3
    unfold preW
    rw[CC he]
    unfold wayW
    rw[←List.append_assoc,M0]) (by
   intro _ _
   unfold Cb
   simp[preW,printW]) 0 () (by omega) trivial
 have e0:preW l 0 = []:=by simp[preW,waysW,Lib.join_nil]
 rw[e0] at h1
 have h1':loopM (fun (s:(Str×(Ways×(Int×Int))))=>Cb s.1 s.2.1 s.2.2.1 s.2.2.2) (([]:Str),l,(l.length:Int),(0:Int))=_:=h1
 rw[h1',obs]
theorem Ag7 {j:Nat} (hj:j<l.length) {w:List P2} (hjw:l[j]? = some w) (a b:Int) :
  loopM (fun (s:(List Str×(Ways×(Int×(Int×(List P2×(Int×Int)))))))=>BV s.1 s.2.1 s.2.2.1 s.2.2.2.1 s.2.2.2.2.1 s.2.2.2.2.2.1 s.2.2.2.2.2.2) (waysW l j,(l,(a,(b,(w,((w.length:Int),(0:Int))))))) =
   some (waysW l j++ptsW w w.length,(l,(a,b))):=by
 have hin:=hw w (List.mem_of_getElem? hjw)
 have hwl:=Ef (l:=l) (fun w hw'=>(hw w hw').1) j
 obtain ⟨_,h1,_⟩:=Cm (body:=fun (s:(List Str×(Ways×(Int×(Int×(List P2×(Int×Int)))))))=>BV s.1 s.2.1 s.2.2.1 s.2.2.2.1 s.2.2.2.2.1 s.2.2.2.2.2.1 s.2.2.2.2.2.2)
  (fun k (_:Unit)=>(waysW l j++ptsW w k,l,a,b,w,(w.length:Int),(k:Int))) (fun _=>(waysW l j++ptsW w w.length,l,a,b)) (fun _ _=>True) w.length (by
   intro k _ hk _
   have he:w[k]? = some w[k]:=List.getElem?_eq_getElem hk
   generalize w[k]=p at he
   have hp:=hin.2.2 p (List.mem_of_getElem? he)
   have hpl:=Fc w k
   refine ⟨(),?_,trivial⟩
   unfold BV
   simp only
   rw[decide_eq_true (by omega),cT,Ah,he,obs,D5 he]
   by_cases hk0:k=0
   ·subst hk0
    rw[show (((0:Nat):Int)==0)=true from rfl,cT,obs]
    simp only[Sum.elim_inr]
    rw[Ot (by omega) (by omega),obs,Ot (by omega) (by omega),obs,Bh (by simp[maxBytes]; omega) (by simp[maxBytes]; omega),obs,wrap1 (by omega)]
    simp[ptW]
   ·rw[show ((k:Int)==0)=false by simp; omega,cF,obs]
    simp only[Sum.elim_inr]
    rw[Ot (by omega) (by omega),obs,Ot (by omega) (by omega),obs,Bh (by simp[maxBytes]; omega) (by simp[maxBytes]; omega),obs,wrap1 (by omega)]
    simp[ptW,hk0]) (by
   intro _ _
   unfold BV
   simp) 0 () (by omega) trivial
 have e0:ptsW w 0 = []:=by simp[ptsW]
 rw[e0,List.append_nil] at h1
 exact h1
theorem ZI:loopM (fun (s:(List Str×(Ways×(Int×Int))))=>BW s.1 s.2.1 s.2.2.1 s.2.2.2) (([]:List Str),(l,((l.length:Int),(0:Int))))=some (waysW l l.length):=by
 obtain ⟨_,h1,_⟩:=Cm (body:=fun (s:(List Str×(Ways×(Int×Int))))=>BW s.1 s.2.1 s.2.2.1 s.2.2.2)
  (fun k (_:Unit)=>(waysW l k,l,(l.length:Int),(k:Int))) (fun _=>waysW l l.length) (fun _ _=>True) l.length (by
   intro k _ hk _
   have he:l[k]? = some l[k]:=List.getElem?_eq_getElem hk
   generalize l[k]=w at he
   have hin:=hw w (List.mem_of_getElem? he)
   have hwl:=Ef (l:=l) (fun w hw'=>(hw w hw').1) k
   have hpl:=Fc w w.length
   refine ⟨(),?_,trivial⟩
   unfold BW
   simp only
   rw[decide_eq_true (by omega),cT,Ah,he,obs,Ag7 hl hw hk he,obs,Bh (by simp[maxBytes]; omega) (by simp[maxBytes]; omega),obs,wrap1 (by omega),CC he]
   simp[wayW]) (by
   intro _ _
   unfold BW
   simp) 0 () (by omega) trivial
 have e0:waysW l 0 = []:=by simp[waysW]
 rw[e0] at h1
 exact h1
end
def printV (l:Ways):Str×Bool:=if goodWays l then (if (printW l).length≤400 then (printW l,true) else ([],false)) else ([],false)
theorem LS {l:Ways} (hl:Short l) (hs:∀ w∈l,Short w):B2 l=some (printV l):=by
 unfold B2 printV
 rw[UG hl hs,obs]
 cases hg:goodWays l with
 | false=>rfl
 | true =>
  obtain ⟨h1,h2⟩:=C1 hg
  rw[nT,cF,Vl h1 h2,obs,if_pos rfl]
  by_cases h:(printW l).length≤400
  ·rw[decide_eq_false (by omega),cF,if_pos h]
  ·rw[decide_eq_true (by omega),cT,if_neg h]
theorem L2 {l:Ways} (hl:Short l) (hs:∀ w∈l,Short w):Bt l=some (printV l):=by
 unfold Bt printV
 rw[UU hl hs,obs]
 cases hg:goodWays l with
 | false=>rfl
 | true =>
  obtain ⟨h1,h2⟩:=C1 hg
  have hwl:=Ef (l:=l) (fun w hw'=>(h2 w hw').1) l.length
  have hsw:=NE (l:=l) (fun w hw'=>(h2 w hw').2.2) l.length
  have hj:=Zc (c:=21) (xs:=waysW l l.length) hsw 32
  rw[nT,cF,ZI h1 h2,obs,Ae4 (by omega) (by omega),obs,if_pos rfl]
  show (bif decide (((printW l).length:Int)>400) then _ else some (printW l,true))=_
  by_cases h:(printW l).length≤400
  ·rw[decide_eq_false (by omega),cF,if_pos h]
  ·rw[decide_eq_true (by omega),cT,if_neg h]
end
section
open Go
theorem T3 (u:Nat):(32:UInt8) ∉ Lib.decDigits u:=fun h=>by
 have:=Co.1 ((Ee u).1.1 _ h)
 rw[show (32:UInt8).toNat=32 from rfl] at this
 omega
theorem QI (n:Int):(32:UInt8) ∉ Lib.itoa n:=by
 unfold Lib.itoa
 split
 ·intro h
  rcases List.mem_cons.1 h with h | h
  ·cases h
  ·exact T3 _ h
 ·exact T3 _
theorem YP (k:Nat) (p:P2):∀ x∈ptW k p,(32:UInt8) ∉ x:=by
 intro x hx
 unfold ptW at hx
 rcases List.mem_cons.1 hx with rfl | hx
 ·split <;> decide
 rcases List.mem_cons.1 hx with rfl | hx
 ·exact QI _
 cases List.mem_singleton.1 hx
 exact QI _
theorem P4 (w:List P2):∀ k,k≤w.length→∀ x∈ptsW w k,(32:UInt8) ∉ x
 | 0,_=>fun x hx=>by simp[ptsW] at hx
 | k + 1,hk=>by
  have he:w[k]? = some w[k]:=List.getElem?_eq_getElem (by omega)
  rw[D5 he]
  intro x hx
  rcases List.mem_append.1 hx with hx | hx
  ·exact P4 w k (by omega) x hx
  ·exact YP _ _ x hx
theorem Uc (l:Ways) (k:Nat):∀ x∈waysW l k,(32:UInt8) ∉ x:=by
 intro x hx
 unfold waysW at hx
 obtain ⟨ws,hws,hx⟩:=List.mem_flatten.1 hx
 obtain ⟨w,hw,rfl⟩:=List.mem_map.1 hws
 unfold wayW at hx
 rcases List.mem_append.1 hx with hx | hx
 ·exact P4 w _ (Nat.le_refl _) x hx
 ·cases List.mem_singleton.1 hx; decide
def tailW (w:List P2):Nat→Nat→List Str
 | 0,_=>[[90]]
 | n + 1,k=>(match w[k]? with | some p=>ptW k p | none=>[])++tailW w n (k + 1)
theorem TG (w:List P2):∀ n k,k + n=w.length→ptsW w k++tailW w n k=wayW w
 | 0,k,h=>by
  rw[show k=w.length by omega]; rfl
 | n + 1,k,h=>by
  have he:w[k]? = some w[k]:=List.getElem?_eq_getElem (by omega)
  rw[←TG w n (k + 1) (by omega),D5 he,tailW,he,List.append_assoc]
theorem WE (w:List P2):tailW w w.length 0=wayW w:=by
 rw[←TG w w.length 0 (by omega)]
 simp[ptsW]
def SmPn (p:Pn):Prop:=-1000≤p.1∧p.1≤1000∧-1000≤p.2∧p.2≤1000
theorem XH {p:Pn} (h:SmPn p):goodP p=true:=by
 unfold goodP
 obtain ⟨a,b,c,d⟩:=h
 rw[decide_eq_true ⟨a,b⟩,decide_eq_true ⟨c,d⟩]; rfl
theorem OK {W:List Str} {i:Nat} {n:Int} (h:W[i]? = some (Lib.itoa n)) (hn : -9999≤n∧n≤9999):numAt W i=some n:=by
 unfold numAt
 rw[h]
 simp only
 rw[TL hn]
 rfl
theorem Ku {W:List Str} {i:Nat} {x:Str} {r:List Str} (h:W.drop i=x::r):W[i]? = some x∧W.drop (i + 1)=r:=by
 have h1:(W.drop i)[0]? = some x:=by rw[h]; rfl
 rw[List.getElem?_drop,Nat.add_zero] at h1
 refine ⟨h1,?_⟩
 have h2:(W.drop i).drop 1=r:=by rw[h]; rfl
 rw[List.drop_drop] at h2
 exact h2
theorem Ni {W:List Str} {w:List P2} (hw:∀ p∈w,SmPn p) (h3 : 3≤w.length) (h12:w.length≤12) {ways:List Wy} (h4:ways.length<4) {rest:List Str}:∀ (n k i m:Nat),k + n=w.length→W.drop i=tailW w n k++rest →
  parse W (m + n + 1) i ways (w.take k)=parse W m (i + 3*n + 1) (ways ++ [w]) []
 | 0,k,i,m,hk,hd=>by
  have hd:W.drop i = [90]::rest:=hd
  obtain ⟨g1,_⟩:=Ku hd
  rw[show m + 0 + 1=m + 1 by omega,parse,g1]
  simp only
  have hne:w.take k≠[]:=by
     intro h
     have:=congrArg List.length h
     rw[List.length_take,List.length_nil] at this
     omega
  have e:cmdV W i ways (w.take k) [90] = .inr (i + 1,ways ++ [w],[]):=by
   unfold cmdV
   rw[if_neg (by decide),if_pos (by decide),if_neg hne,if_pos rfl,if_neg (by rw[List.length_take]; omega),List.take_of_length_le (by omega)]
  rw[e]
 | n + 1,k,i,m,hk,hd=>by
  have he:w[k]? = some w[k]:=List.getElem?_eq_getElem (by omega)
  have hp:=hw _ (List.mem_of_getElem? he)
  have hsn:=List.take_add_one (l:=w) (i:=k)
  rw[he] at hsn
  rw[tailW,he] at hd
  generalize w[k]=p at he hp hd hsn
  have hd:W.drop i=(if k=0 then [77] else [76])::Lib.itoa p.1::Lib.itoa p.2::(tailW w n (k + 1)++rest):=by
   rw[hd]; rfl
  obtain ⟨g1,d1⟩:=Ku hd
  obtain ⟨g2,d2⟩:=Ku d1
  obtain ⟨g3,d3⟩:=Ku d2
  obtain ⟨p1,p2,p3,p4⟩:=hp
  have n1:=OK g2 (n:=p.1) (by omega)
  have n2:=OK g3 (n:=p.2) (by omega)
  have tw:two W (i + 1) ways (w.take k) (fun x y=>(x,y)) = .inr (i + 3,ways,w.take (k + 1)):=by
   unfold two
   rw[n1]
   simp only
   unfold one
   rw[n2]
   simp only
   unfold ptV
   rw[if_pos (XH ⟨p1,p2,p3,p4⟩),hsn]
   rfl
  have e:cmdV W i ways (w.take k) (if k=0 then [77] else [76]) = .inr (i + 3,ways,w.take (k + 1)):=by
   unfold cmdV
   by_cases hk0:k=0
   ·rw[if_pos hk0,if_pos rfl,if_pos (by rw[hk0]; rfl),if_neg (by omega),tw]
   ·have hne:w.take k≠[]:=by
     intro h
     have:=congrArg List.length h
     rw[List.length_take,List.length_nil] at this
     omega
    rw[if_neg hk0,if_neg (by decide),if_pos (by decide),if_neg hne,if_neg (by decide),if_neg (by rw[List.length_take]; omega),if_pos rfl,tw]
  rw[show m + (n + 1) + 1=(m + n + 1) + 1 by omega,parse,g1]
  simp only
  rw[e]
  simp only
  rw[Ni hw h3 h12 h4 n (k + 1) (i + 3) m (by omega) (by rw[show i + 3=i + 1 + 1 + 1 by omega]; exact d3),show i + 3 + 3*n + 1=i + 3*(n + 1) + 1 by omega]
theorem Ix {w:List P2}:∀ n k,k + n=w.length→(tailW w n k).length=3*n + 1
 | 0,k,_=>rfl
 | n + 1,k,h=>by
  have he:w[k]? = some w[k]:=List.getElem?_eq_getElem (by omega)
  rw[tailW,he,List.length_append,Ix n (k + 1) (by omega)]
  show 3 + _=_
  omega
theorem OF {W:List Str} {l:Ways} (hl:l.length≤4) (hw:∀ w∈l,w.length≤12∧3≤w.length∧∀ p∈w,SmPn p):∀ (n k i m:Nat),k + n=l.length→W.drop i=((l.drop k).map wayW).flatten→W.length≤m + i→parse W (m + 1) i (l.take k) [] = .inr (l,[])
 | 0,k,i,m,hk,hd,hm=>by
  rw[List.drop_eq_nil_of_le (show l.length≤k by omega)] at hd
  have hi:W.length≤i:=by
   have:=congrArg List.length hd
   simp at this
   omega
  rw[parse,List.getElem?_eq_none hi,List.take_of_length_le (by omega)]
 | n + 1,k,i,m,hk,hd,hm=>by
  have he:l[k]? = some l[k]:=List.getElem?_eq_getElem (by omega)
  have hdk:l.drop k=l[k]::l.drop (k + 1):=List.drop_eq_getElem_cons (by omega)
  have hsn:=List.take_add_one (l:=l) (i:=k)
  rw[he] at hsn
  have hin:=hw _ (List.mem_of_getElem? he)
  generalize l[k]=w at he hdk hin hsn
  rw[hdk,List.map_cons,List.flatten_cons,←WE] at hd
  have hlen:=congrArg List.length hd
  rw[List.length_append,Ix (w:=w) w.length 0 (by omega),List.length_drop] at hlen
  obtain ⟨m',hm'⟩:∃ m',m + 1=(m' + 1) + w.length + 1:=⟨m-w.length-1,by omega⟩
  have h0:w.take 0 = []:=List.take_zero
  rw[hm',←h0,Ni hin.2.2 hin.2.1 hin.1 (by rw[List.length_take]; omega) w.length 0 i (m' + 1) (by omega) hd]
  have hsn':l.take k ++ [w]=l.take (k + 1):=by rw[hsn]; rfl
  rw[hsn']
  refine OF hl hw n (k + 1) _ _ (by omega) ?_ (by omega)
  have h2:(W.drop i).drop (3*w.length + 1)=((l.drop (k + 1)).map wayW).flatten:=by
   rw[hd,List.drop_append_of_le_length (by rw[Ix (w:=w) w.length 0 (by omega)]; omega),List.drop_eq_nil_of_le (by rw[Ix (w:=w) w.length 0 (by omega)]; omega),List.nil_append]
  rw[List.drop_drop] at h2
  rw[show i + 3*w.length + 1=i + (3*w.length + 1) by omega]
  exact h2
theorem Xj {l:Ways} (hg:goodWays l=true) (h400:(printW l).length≤400):pathV (printW l)=(l,0,0,true):=by
 obtain ⟨h1,h2⟩:=C1 hg
 have h0 : 1≤l.length:=by
  unfold goodWays at hg
  simp only[Bool.and_eq_true,decide_eq_true_eq] at hg
  omega
 have hne:waysW l l.length≠[]:=by
  obtain ⟨j,hj⟩:∃ j,l.length=j + 1:=⟨l.length-1,by omega⟩
  have he:l[j]? = some l[j]:=List.getElem?_eq_getElem (by omega)
  rw[hj,CC he]
  intro h
  have:=congrArg List.length h
  unfold wayW at this
  simp at this
 have hp:parts 32 (printW l)=waysW l l.length:=O4 _ hne (Uc l _)
 have hpos : 1≤(printW l).length:=by
  obtain ⟨j,hj⟩:∃ j,l.length=j + 1:=⟨l.length-1,by omega⟩
  have he:l[j]? = some l[j]:=List.getElem?_eq_getElem (by omega)
  unfold printW
  rw[hj,CC he]
  unfold wayW
  rw[←List.append_assoc,M0,List.length_append]
  simp
 unfold pathV
 rw[if_pos ⟨hpos,h400⟩,hp]
 have key:=OF (W:=waysW l l.length) (l:=l) h1 (fun w hw=>h2 w hw) l.length 0 0 (waysW l l.length).length (by omega) (by
  unfold waysW
  rw[List.take_length,List.drop_zero,List.drop_zero]) (by omega)
 rw[List.take_zero] at key
 rw[key]
 rfl
theorem XE {i:Nat} {ways:List Wy} {way:Wy} {p:Pn} {j:Nat} {ways':List Wy} {way':Wy} (h:ptV goodP i ways way p = .inr (j,ways',way')):ways'=ways∧way'=way ++ [p]∧goodP p=true:=by
 unfold ptV at h
 split at h
 ·rename_i hg
  cases h
  exact ⟨rfl,rfl,hg⟩
 ·cases h
theorem FU {W:List Str} {i:Nat} {ways:List Wy} {way:Wy} {f:Int→Pn} {j:Nat} {ways':List Wy} {way':Wy} (h:one W i ways way f = .inr (j,ways',way')):ways'=ways∧∃ p,way'=way ++ [p]∧goodP p=true:=by
 unfold one at h
 split at h
 ·cases h
 ·obtain ⟨a,b,c⟩:=XE h
  exact ⟨a,_,b,c⟩
theorem KM {W:List Str} {i:Nat} {ways:List Wy} {way:Wy} {f:Int→Int→Pn} {j:Nat} {ways':List Wy} {way':Wy} (h:two W i ways way f = .inr (j,ways',way')):ways'=ways∧∃ p,way'=way ++ [p]∧goodP p=true:=by
 unfold two at h
 split at h
 ·cases h
 ·exact FU h
structure PInv (ways:List Wy) (way:Wy):Prop where
 len:ways.length≤4
 ok:∀ w∈ways,isWay w=true
 pts:∀ p∈way,goodPt p=true
 short:way.length≤12
 four:way≠[]→ways.length<4
theorem Y9 (p:Pn):goodP p=goodPt p:=by
 unfold goodP goodPt within
 rw[Bool.eq_iff_iff]
 simp
theorem W0 {ways:List Wy} {way:Wy} {p:Pn} (h:PInv ways way) (h4:ways.length<4) (h12:way.length<12) (hp:goodP p=true):PInv ways (way ++ [p]):=by
 refine ⟨h.len,h.ok,fun q hq=>?_,by rw[List.length_append,List.length_singleton]; omega,fun _=>h4⟩
 rcases List.mem_append.1 hq with hq | hq
 ·exact h.pts q hq
 ·rw[List.mem_singleton.1 hq,←Y9]; exact hp
theorem Zm {W:List Str} {i:Nat} {w:Str} {ways:List Wy} {way:Wy} {j:Nat} {ways':List Wy} {way':Wy} (h:PInv ways way) (hc:cmdV W i ways way w = .inr (j,ways',way')):PInv ways' way':=by
 have key:∀ (x:CV),(∀ j ways' way',x = .inr (j,ways',way')→ways'=ways∧∃ p,way'=way ++ [p]∧goodP p=true)→ways.length<4→way.length<12→x = .inr (j,ways',way')→PInv ways' way':=by
  intro x hx h4 h12 he
  obtain ⟨a,p,b,c⟩:=hx _ _ _ he
  rw[a,b]
  exact W0 h h4 h12 c
 have hlen:=h.short
 unfold cmdV at hc
 split at hc
 ·split at hc
  ·rename_i hway
   split at hc
   ·cases hc
   ·rename_i h4
    have:=h.len
    exact key _ (fun _ _ _=>KM) (by omega) (by rw[hway]; simp) hc
  ·cases hc
 ·split at hc
  ·split at hc
   ·cases hc
   ·rename_i hne
    have h4:=h.four hne
    split at hc
    ·split at hc
     ·cases hc
     ·rename_i h3
      cases hc
      refine ⟨by rw[List.length_append,List.length_singleton]; omega,fun v hv=>?_,fun p hp=>(by cases hp),by decide,fun h=>absurd rfl h⟩
      rcases List.mem_append.1 hv with hv | hv
      ·exact h.ok v hv
      ·rw[List.mem_singleton.1 hv]
       exact B8.2 ⟨⟨by omega,h.short⟩,h.pts⟩
    ·split at hc
     ·cases hc
     ·rename_i h12
      have h12:way.length<12:=by omega
      split at hc
      ·exact key _ (fun _ _ _=>KM) h4 h12 hc
      ·split at hc
       ·exact key _ (fun _ _ _=>KM) h4 h12 hc
       ·split at hc
        ·exact key _ (fun _ _ _=>FU) h4 h12 hc
        ·split at hc
         ·exact key _ (fun _ _ _=>FU) h4 h12 hc
         ·split at hc
          ·exact key _ (fun _ _ _=>FU) h4 h12 hc
          ·exact key _ (fun _ _ _=>FU) h4 h12 hc
  ·cases hc
theorem PX {W:List Str}:∀ (n i:Nat) (ways:List Wy) (way:Wy),PInv ways way→∀ ways' way',parse W n i ways way = .inr (ways',way')→PInv ways' way'
 | 0,i,ways,way,h,ways',way',he=>by
  rw[parse] at he
  cases he
  exact h
 | n + 1,i,ways,way,h,ways',way',he=>by
  rw[parse] at he
  split at he
  ·cases he; exact h
  ·rename_i w hw
   cases hc:cmdV W i ways way w with
   | inl e=>rw[hc] at he; cases he
   | inr v =>
    obtain ⟨j,a,b⟩:=v
    rw[hc] at he
    exact PX n j a b (Zm h hc) _ _ he
theorem SN {W:List Str} {i:Nat} {w:Str} {ways:List Wy} {way:Wy} {j:Nat} {ways':List Wy} {way':Wy} (hc:cmdV W i ways way w = .inr (j,ways',way')):way'≠[]∨1≤ways'.length:=by
 have k2:∀ f:Int→Int→Pn,two W (i + 1) ways way f = .inr (j,ways',way')→way'≠[]∨1≤ways'.length:=fun f h=>by
  obtain ⟨_,p,b,_⟩:=KM h
  left; rw[b]; simp
 have k1:∀ f:Int→Pn,one W (i + 1) ways way f = .inr (j,ways',way')→way'≠[]∨1≤ways'.length:=fun f h=>by
  obtain ⟨_,p,b,_⟩:=FU h
  left; rw[b]; simp
 unfold cmdV at hc
 repeat' split at hc
 all_goals first
  | exact k2 _ hc
  | exact k1 _ hc
  | (cases hc; right; simp)
  | cases hc
theorem Pd {W:List Str}:∀ (n i:Nat) (ways:List Wy) (way:Wy),(way≠[]∨1≤ways.length)→∀ ways' way',parse W n i ways way = .inr (ways',way')→way'≠[]∨1≤ways'.length
 | 0,i,ways,way,h,ways',way',he=>by
  rw[parse] at he
  cases he
  exact h
 | n + 1,i,ways,way,h,ways',way',he=>by
  rw[parse] at he
  split at he
  ·cases he; exact h
  ·rename_i w hw
   cases hc:cmdV W i ways way w with
   | inl e=>rw[hc] at he; cases he
   | inr v =>
    obtain ⟨j,a,b⟩:=v
    rw[hc] at he
    exact Pd n j a b (SN hc) _ _ he
theorem Xd {s:Str} {l:List Wy} {c at_:Int} (h:pathV s=(l,c,at_,true)):goodWays l=true∧c=0∧at_=0:=by
 unfold pathV at h
 split at h
 ·split at h
  ·cases h
  ·rename_i ways way hp
   split at h
   ·cases h
   ·rename_i hw
    have hw:way = []:=Classical.byContradiction fun h=>hw h
    have inv:=PX _ _ _ _ (⟨by simp,by simp,by simp,by simp,fun h=>absurd rfl h⟩:PInv [] []) _ _ hp
    have h1 : 1≤ways.length:=by
     have hne:=XT 32 s
     obtain ⟨x,r,hx⟩:∃ x r,parts 32 s=x::r:=List.exists_cons_of_ne_nil hne
     rw[parse,hx] at hp
     simp only[List.getElem?_cons_zero] at hp
     cases hc:cmdV (x::r) 0 [] [] x with
     | inl e=>rw[hc] at hp; cases hp
     | inr v =>
      obtain ⟨j,a,b⟩:=v
      rw[hc] at hp
      rcases Pd _ _ _ _ (SN hc) _ _ hp with h | h
      ·exact absurd hw h
      ·exact h
    cases h
    refine ⟨?_,rfl,rfl⟩
    unfold goodWays
    rw[Bool.and_eq_true,Bool.and_eq_true,decide_eq_true_eq,decide_eq_true_eq]
    exact ⟨List.all_eq_true.2 inv.ok,h1,inv.len⟩
 ·cases h
theorem YY {W:List Str} {i:Nat} {w:Str} {ways:List Wy} {way:Wy} {c:Int} {j:Nat} (hc:cmdV W i ways way w = .inl (c,j)):c≠0:=by
 have kp:∀ (a:Nat) (p:Pn),ptV goodP a ways way p = .inl (c,j)→c≠0:=fun a p h=>by
  unfold ptV at h
  split at h <;> cases h
  omega
 have k1:∀ (a:Nat) (f:Int→Pn),one W a ways way f = .inl (c,j)→c≠0:=fun a f h=>by
  unfold one at h
  split at h
  ·cases h; omega
  ·exact kp _ _ h
 have k2:∀ (a:Nat) (f:Int→Int→Pn),two W a ways way f = .inl (c,j)→c≠0:=fun a f h=>by
  unfold two at h
  split at h
  ·cases h; omega
  ·exact k1 _ _ h
 unfold cmdV at hc
 repeat' split at hc
 all_goals first
  | exact k2 _ _ hc
  | exact k1 _ _ hc
  | (cases hc; omega)
  | cases hc
theorem Ob {W:List Str}:∀ (n i:Nat) (ways:List Wy) (way:Wy) (c:Int) (j:Nat),parse W n i ways way = .inl (c,j)→c≠0
 | 0,i,ways,way,c,j,he=>by rw[parse] at he; cases he
 | n + 1,i,ways,way,c,j,he=>by
  rw[parse] at he
  split at he
  ·cases he
  ·rename_i w hw
   cases hc:cmdV W i ways way w with
   | inl e=>rw[hc] at he; cases he; exact YY hc
   | inr v =>
    obtain ⟨j',a,b⟩:=v
    rw[hc] at he
    exact Ob n j' a b c j he
theorem Yk {s:Str} {l:List Wy} {c at_:Int} (h:pathV s=(l,c,at_,false)):c≠0∧l = []:=by
 unfold pathV at h
 split at h
 ·split at h
  ·rename_i c' i hp
   cases h
   exact ⟨Ob _ _ _ _ _ _ hp,rfl⟩
  ·split at h <;> cases h
   exact ⟨by omega,rfl⟩
 ·cases h; exact ⟨by omega,rfl⟩
end
section
open Go
theorem W8 (l:List Int):(strOf l).length=l.length:=by unfold strOf; simp
theorem W3 {B':Nat} {c:List Int×Int×Int} (h:Cur B' c) (hB:B'≤90000000) (t w:Str) (ht:t.length≤100000) (hw : 1≤w.length) (hw2:w.length≤1000):∃ c' r,AZ c t w=some (c',r)∧Cur (B' + 100) c'∧r.length≤t.length + 3:=by
 unfold AZ
 obtain ⟨c0,v0,e0,q0,a0,b0⟩:=AK h (by omega) 3
 have b0:=b0 (by omega)
 obtain ⟨r,e1,q1,n1⟩:=KN (f:=fun (s:((List Int×Int×Int)×((List UInt8)×((List UInt8)×Int))))=>BT s.1 s.2.1 s.2.2.1 s.2.2.2) (I:=fun s=>s.2.2.1=w∧0≤s.2.2.2∧s.2.2.2≤3∧Cur (B' + 50-6*s.2.2.2.toNat) s.1∧s.2.1.length + s.2.2.2.toNat≤t.length + 3)
  (R:=fun s=>Cur (B' + 100) s.1∧s.2.length≤t.length + 3) (fun s=>s.2.2.2.toNat)
  (by
   rintro ⟨c,s,w',n⟩ ⟨i1,i2,i3,i4,i5⟩
   simp only at i1 i2 i3 i4 i5
   subst i1
   simp only
   unfold BT
   by_cases hn : 0<n
   ·rw[decide_eq_true (show n>0 from hn),cT]
    by_cases hs : 0<s.length
    ·rw[decide_eq_true (show ((s.length:Nat):Int)>0 by omega),cT]
     obtain ⟨c1,v1,e1,q1,a1,b1⟩:=AK i4 (by omega) (s.length:Int)
     obtain ⟨c2,v2,e2,q2,a2,b2⟩:=AK q1 (by omega) (w'.length:Int)
     obtain ⟨c3,v3,e3,q3,a3,b3⟩:=AK q2 (by omega) 3
     have b1:=b1 (by omega)
     have b2:=b2 (by omega)
     have b3:=b3 (by omega)
     obtain ⟨x,hx,_⟩:=MX a2 b2
     have s1:subI (0:Int) v1 s.length=some (0,v1.toNat):=by unfold subI; rw[if_pos (by omega)]; rfl
     have s2:subI v1 (s.length:Int) s.length=some (v1.toNat,s.length):=by unfold subI; rw[if_pos (by omega)]; rfl
     have s3:subI (v1 + 1) (s.length:Int) s.length=some ((v1 + 1).toNat,s.length):=by unfold subI; rw[if_pos (by omega)]; rfl
     simp only[peta,e1,e2,e3,hx,obs,s1,s2,wrapI (n:=v1 + 1) (by omega) (by omega),s3,wrapI (n:=n-1) (by omega) (by omega)]
     have len1:(strOf [((UInt8.toNat x:Nat):Int)]).length=1:=by rw[W8]; rfl
     have fin:∀ (y:Str),y.length≤s.length + 1→(∃ s',(some (Sum.inl (c3,(y,(w',n-1)))):Option (((List Int×Int×Int)×(Str×(Str×Int))) ⊕ ((List Int×Int×Int)×Str)))=some (Sum.inl s')∧(s'.2.2.1=w'∧0≤s'.2.2.2∧s'.2.2.2≤3∧Cur (B' + 50-6*s'.2.2.2.toNat) s'.1∧s'.2.1.length + s'.2.2.2.toNat≤t.length + 3)∧s'.2.2.2.toNat<n.toNat):=by
      intro y hy
      exact ⟨_,rfl,⟨rfl,by simp only; omega,by simp only; omega,q3.mono (by simp only; omega),by simp only; omega⟩,by simp only; omega⟩
     by_cases h0:v3=0
     ·rw[show (v3==0)=true by simp[h0],cT,AG (by simp[len1]; omega),obs,AG (by simp[len1]; omega),obs]
      exact .inl (fin _ (by simp[len1]; omega))
     ·rw[show (v3==0)=false from beq_eq_false_iff_ne.2 h0,cF]
      by_cases h1:v3=1
      ·rw[show (v3==1)=true by simp[h1],cT,AG (by simp[len1]; omega),obs,AG (by simp[len1]; omega),obs]
       exact .inl (fin _ (by simp[len1]; omega))
      ·rw[show (v3==1)=false from beq_eq_false_iff_ne.2 h1,cF,AG (by simp; omega),obs]
       exact .inl (fin _ (by simp; omega))
    ·rw[decide_eq_false (show ¬((s.length:Nat):Int)>0 by omega),cF]
     exact .inr ⟨_,rfl,i4.mono (by omega),by simp only; omega⟩
   ·rw[decide_eq_false (show ¬n>0 by omega),cF]
    exact .inr ⟨_,rfl,i4.mono (by omega),by simp only; omega⟩) (c0,t,w,v0) ⟨rfl,by simp only; omega,by simp only; omega,q0.mono (by simp only; omega),by simp only; omega⟩
 simp only[e0,obs,peta]
 have e1':loopM (fun (s:((List Int×Int×Int)×((List UInt8)×((List UInt8)×Int))))=>BT s.1 s.2.1 s.2.2.1 s.2.2.2) (c0,(t,(w,v0)))=some r:=e1
 rw[e1',obs]
 exact ⟨r.1,r.2,by rw[peta],q1,n1⟩
end
section
open Go
abbrev CuP:=List Int×Int×Int
theorem ZG {B':Nat} {c:CuP} (h:Cur B' c) (hB:B'≤90000000):∃ c' l,Cc c=some (c',l)∧Cur (B' + 10000) c'∧l.length≤10∧∀ w∈l,w.length≤13:=by
 unfold Cc
 obtain ⟨c0,v0,e0,q0,a0,b0⟩:=AK h (by omega) 2
 obtain ⟨c1,v1,e1,q1⟩:=Jz q0 (by omega) 20
 have b0:=b0 (by omega)
 simp only[peta]
 rw[e0,obs,e1,obs]
 have loop:∀ (n:Nat) (B1:Nat) (c:CuP) (l:Ways),Cur B1 c→B1 + 500*n≤100000000→l.length + n≤10→(∀ w∈l,w.length≤13) →
   ∃ c' l',loopM (fun (s:(CuP×(Ways×Int)))=>AO s.1 s.2.1 s.2.2) (c,(l,(n:Int)))=some (c',l')∧Cur (B1 + 500*n) c'∧l'.length≤10∧∀ w∈l',w.length≤13:=by
  intro n
  induction n with
  | zero =>
   intro B1 c l hc _ hl hw
   refine ⟨c,l,Ap ?_,hc.mono (by omega),by omega,hw⟩
   show AO c l ((0:Nat):Int)=_
   unfold AO
   rfl
  | succ n ih =>
   intro B1 c l hc hB1 hl hw
   obtain ⟨c1,w,e1,q1,g1⟩:=Ac8 hc (by omega)
   obtain ⟨c',l',i1,i2,i3,i4⟩:=ih (B1 + 500) c1 (l ++ [w]) q1 (by omega) (by simp; omega) (by
    intro x hx
    rcases List.mem_append.1 hx with hx | hx
    ·exact hw x hx
    ·rw[List.mem_singleton.1 hx]; exact g1.hi)
   refine ⟨c',l',?_,i2.mono (by omega),i3,i4⟩
   have hgo:AO c l ((n + 1:Nat):Int)=some (.inl (c1,(l ++ [w],(n:Int)))):=by
    unfold AO
    rw[decide_eq_true (by omega)]
    simp only[cT,peta]
    rw[e1,obs,Bh (by simp[maxBytes]; omega) (by simp[maxBytes]; omega),obs,wrapI (by omega) (by omega),show ((n + 1:Nat):Int)-1=(n:Int) by omega]
   exact (A7 (f:=fun (s:(CuP×(Ways×Int)))=>AO s.1 s.2.1 s.2.2) (s:=(c,(l,((n + 1:Nat):Int)))) hgo).trans i1
 have fin:∀ (c3:CuP) (v:Int),Cur (B' + 100) c3→0≤v→v≤8→∃ c' l,((loopM (fun (s:(CuP×(Ways×Int)))=>AO s.1 s.2.1 s.2.2) (c3,(([]:Ways),v))).bind fun x6=>some x6)=some (c',l)∧Cur (B' + 10000) c'∧l.length≤10∧∀ w∈l,w.length≤13:=by
  intro c3 v q3 hv0 hv1
  obtain ⟨n,rfl⟩:∃ n:Nat,v=(n:Int):=⟨v.toNat,by omega⟩
  obtain ⟨c',l,h1,h2,h3,h4⟩:=loop n (B' + 100) c3 [] q3 (by omega) (by simp; omega) (by simp)
  rw[h1,obs]
  exact ⟨c',l,rfl,h2.mono (by omega),h3,h4⟩
 cases v1 with
 | true =>
  obtain ⟨c2,v2,e2,q2,a2,b2⟩:=AK q1 (by omega) 6
  have b2:=b2 (by omega)
  simp only[cT]
  rw[e2,obs,obs,sEr]
  exact fin c2 v2 (q2.mono (by omega)) (by omega) (by omega)
 | false =>
  simp only[cF]
  rw[obs,sEr,wrapI (by omega) (by omega)]
  exact fin c1 (1 + v0) (q1.mono (by omega)) (by omega) (by omega)
theorem Ac0 {B':Nat} {c:CuP} (h:Cur B' c) (hB:B'≤800000000) (l:List Str) (h1 : 1≤l.length) (h2:l.length<1000000):∃ c' v,BO c l=some (c',v)∧Cur (B' + 2) c'∧v∈l:=by
 unfold BO
 obtain ⟨c1,v1,e1,q1,b1,b2⟩:=AK h (by omega) (l.length:Int)
 have:=b2 (by omega)
 obtain ⟨a,ha,hm⟩:=MX b1 this
 simp only[peta]
 rw[e1,obs]
 simp only
 rw[ha,obs]
 exact ⟨c1,a,rfl,q1,List.mem_of_getElem? hm⟩
theorem SM {v:Str} {l:List Str} {n:Nat} (hl:l.all (fun x=>decide (x.length≤n))=true) (h:v∈l):v.length≤n:=of_decide_eq_true (List.all_eq_true.1 hl v h)
theorem PY:∀ (n:Nat) (B':Nat) (c:CuP) (t:Str),Cur B' c→B' + 2*n≤100000000→t.length + 7*n≤100000→∃ c' t',loopM (fun (s:(CuP×(Str×Int)))=>AP s.1 s.2.1 s.2.2) (c,(t,(n:Int)))=some (c',t')∧Cur (B' + 2*n) c'∧t'.length≤t.length + 7*n
 | 0,B',c,t,hc,_,_=>by
  refine ⟨c,t,Ap ?_,hc.mono (by omega),by omega⟩
  show AP c t ((0:Nat):Int)=_
  unfold AP
  rfl
 | n + 1,B',c,t,hc,hB,ht=>by
  obtain ⟨c1,v,e1,q1,hv⟩:=Ac0 hc (by omega) [[32,76,32,52,32,49],[32,108,32,50,32,51],[32,108,32,45,49,32,50],[32,72,32,53],[32,104,32,45,50],[32,86,32,51],[32,118,32,50],[32,76,32,48,32,48],[32,104,32,49]] (by simp) (by simp)
  have hv7:v.length≤7:=SM (by decide) hv
  obtain ⟨c',t',h1,h2,h3⟩:=PY n (B' + 2) c1 (t++v) q1 (by omega) (by rw[List.length_append]; omega)
  refine ⟨c',t',?_,h2.mono (by omega),by rw[List.length_append] at h3; omega⟩
  have hgo:AP c t ((n + 1:Nat):Int)=some (.inl (c1,(t++v,(n:Int)))):=by
   unfold AP
   rw[decide_eq_true (by omega)]
   simp only[cT,peta]
   rw[e1,obs]
   simp only
   rw[AG (by omega),obs,wrapI (by omega) (by omega),show ((n + 1:Nat):Int)-1=(n:Int) by omega]
  exact (A7 (f:=fun (s:(CuP×(Str×Int)))=>AP s.1 s.2.1 s.2.2) (s:=(c,(t,((n + 1:Nat):Int)))) hgo).trans h1
theorem Vm (l:Ways):(printV l).1.length≤400:=by
 unfold printV
 split
 ·split
  ·assumption
  ·simp
 ·simp
theorem shorts {l:Ways} (h1:l.length≤1000) (h2:∀ w∈l,w.length≤1000):Short l∧∀ w∈l,Short w:=⟨by unfold Short; omega,fun w hw=>by have:=h2 w hw; unfold Short; omega⟩
theorem Ab0 {B':Nat} {c:CuP} (h:Cur B' c) (hB:B'≤10000000):∃ c' t,B9 c=some (c',t)∧Cur (B' + 30000) c'∧t.length≤1000:=by
 unfold B9
 obtain ⟨c0,v0,e0,q0⟩:=Jz h (by omega) 3
 simp only[peta]
 rw[e0,obs]
 have main:∀ c1:CuP,Cur (B' + 20000) c1→∃ c' t,(((Ab c1 (5:Int))).bind fun x6 =>
  ((Bs x6.2)).bind fun x7 =>
  ((catS (List.cons 77 (List.cons 32 (List.nil:List UInt8))) x7)).bind fun x8 =>
  ((catS x8 (List.cons 32 (List.nil:List UInt8)))).bind fun x9 =>
  ((Ab x6.1 (5:Int))).bind fun x10 =>
  ((Bs x10.2)).bind fun x11 =>
  ((catS x9 x11)).bind fun x12 =>
  ((Ab x10.1 (4:Int))).bind fun x13 =>
  (loopM (fun (s:(((List Int)×(Int×Int))×((List UInt8)×Int)))=>AP s.1 s.2.1 s.2.2) (x13.1,(x12,(IntKind.wrap .i64 ((2:Int) + x13.2))))).bind fun x14 =>
  ((catS x14.2 (List.cons 32 (List.cons 90 (List.nil:List UInt8))))).bind fun x15 =>
  (((An x14.1 (4:Int))).bind fun x16 =>
   bif x16.2 then
    ((catS x15 (List.cons 32 (List.cons 77 (List.cons 32 (List.cons 48 (List.cons 32 (List.cons 48 (List.cons 32 (List.cons 72 (List.cons 32 (List.cons 51 (List.cons 32 (List.cons 118 (List.cons 32 (List.cons 50 (List.cons 32 (List.cons 90 (List.nil:List UInt8))))))))))))))))))).bind fun x17 =>
    some (Sum.inr (x16.1,x17))
   else
   some (Sum.inr (x16.1,x15))).bind fun x18 =>
  Sum.elim
   (fun (x19:CuP×Str) =>
   some x19)
   (fun x20 =>
   (((An x20.1 (8:Int))).bind fun x21 =>
    bif x21.2 then
     ((AZ x21.1 x20.2 (List.cons 77 (List.cons 76 (List.cons 90 (List.cons 32 (List.cons 48 (List.cons 45 (List.cons 57 (List.nil:List UInt8)))))))))).bind fun x22 =>
     some (Sum.inr x22)
    else
    some (Sum.inr (x21.1,x20.2))).bind fun x23 =>
   Sum.elim
    (fun (x24:CuP×Str) =>
    some x24)
    (fun x25 =>
    ((An x25.1 (12:Int))).bind fun x26 =>
    bif x26.2 then
     ((BO x26.1 (List.cons (List.cons 32 (List.cons 77 (List.cons 32 (List.cons 49 (List.cons 32 (List.cons 49 (List.nil:List UInt8))))))) (List.cons (List.cons 32 (List.cons 76 (List.cons 32 (List.cons 49 (List.cons 32 (List.cons 49 (List.nil:List UInt8))))))) (List.cons (List.cons 32 (List.cons 81 (List.nil:List UInt8))) (List.cons (List.cons 32 (List.cons 77 (List.cons 32 (List.cons 49 (List.nil:List UInt8))))) (List.cons (List.cons 32 (List.cons 77 (List.cons 32 (List.cons 57 (List.cons 57 (List.cons 57 (List.cons 57 (List.cons 32 (List.cons 48 (List.nil:List UInt8)))))))))) (List.cons (List.nil:List UInt8) (List.nil:List (List UInt8)))))))))).bind fun x27 =>
     ((catS x25.2 x27.2)).bind fun x28 =>
     some (x27.1,x28)
    else
    some (x26.1,x25.2))
    x23)
   x18)=some (c',t)∧Cur (B' + 30000) c'∧t.length≤1000:=by
  intro c1 q1
  obtain ⟨c2,v2,e2,q2,a2,b2⟩:=AK q1 (by omega) 5
  obtain ⟨c3,v3,e3,q3,a3,b3⟩:=AK q2 (by omega) 5
  obtain ⟨c4,v4,e4,q4,a4,b4⟩:=AK q3 (by omega) 4
  have b2:=b2 (by omega); have b3:=b3 (by omega); have b4:=b4 (by omega)
  have n2:=F0 (n:=v2) (by omega) (by omega)
  have n3:=F0 (n:=v3) (by omega) (by omega)
  obtain ⟨k,hk⟩:∃ k:Nat,2 + v4=(k:Int):=⟨(2 + v4).toNat,by omega⟩
  obtain ⟨c5,t5,e5,q5,l5⟩:=PY k (B' + 20006) c4 ((([77,32]++Lib.itoa v2) ++ [32])++Lib.itoa v3) (q4.mono (by omega)) (by omega) (by simp; omega)
  have hl0:(([77,32]++Lib.itoa v2 ++ [32])++Lib.itoa v3:Str).length≤45:=by simp; omega
  rw[e2,obs]
  simp only
  rw[FQ (by omega) (by omega),obs,AG (by simp; omega),obs,AG (by simp; omega),obs,e3,obs]
  simp only
  rw[FQ (by omega) (by omega),obs,AG (by simp; omega),obs,e4,obs]
  simp only
  rw[wrapI (by omega) (by omega),hk]
  rw[e5,obs]
  simp only
  rw[AG (by simp; omega),obs]
  obtain ⟨c6,v6,e6,q6⟩:=Jz q5 (by omega) 4
  have st6:∃ t6:Str,(((An c5 (4:Int))).bind fun x16 =>
   bif x16.2 then
    ((catS (t5 ++ [32,90]) (List.cons 32 (List.cons 77 (List.cons 32 (List.cons 48 (List.cons 32 (List.cons 48 (List.cons 32 (List.cons 72 (List.cons 32 (List.cons 51 (List.cons 32 (List.cons 118 (List.cons 32 (List.cons 50 (List.cons 32 (List.cons 90 (List.nil:List UInt8))))))))))))))))))).bind fun x17 =>
    some (Sum.inr (x16.1,x17))
   else
   some (Sum.inr (x16.1,(t5 ++ [32,90]))))=(some (Sum.inr (c6,t6)):Option ((CuP×Str) ⊕ (CuP×Str)))∧t6.length≤200:=by
   rw[e6,obs]
   cases v6 with
   | true=>exact ⟨_,by simp only[cT]; rw[AG (by simp; omega),obs],by simp; omega⟩
   | false=>exact ⟨_,by simp only[cF]; rfl,by simp; omega⟩
  obtain ⟨t6,e6',l6⟩:=st6
  rw[e6',obs,sEr]
  simp only
  obtain ⟨c7,v7,e7,q7⟩:=Jz q6 (by omega) 8
  have st7:∃ (c8:CuP) (t8:Str),(((An c6 (8:Int))).bind fun x21 =>
    bif x21.2 then
     ((AZ x21.1 t6 (List.cons 77 (List.cons 76 (List.cons 90 (List.cons 32 (List.cons 48 (List.cons 45 (List.cons 57 (List.nil:List UInt8)))))))))).bind fun x22 =>
     some (Sum.inr x22)
    else
    some (Sum.inr (x21.1,t6)))=(some (Sum.inr (c8,t8)):Option ((CuP×Str) ⊕ (CuP×Str)))∧Cur (B' + 20400) c8∧t8.length≤300:=by
   rw[e7,obs]
   cases v7 with
   | true =>
    obtain ⟨c8,t8,e8,q8,l8⟩:=W3 q7 (by omega) t6 [77,76,90,32,48,45,57] (by omega) (by simp) (by simp)
    exact ⟨c8,t8,by simp only[cT]; rw[e8,obs],q8.mono (by omega),by omega⟩
   | false=>exact ⟨c7,t6,by simp only[cF],q7.mono (by omega),by omega⟩
  obtain ⟨c8,t8,e8,q8,l8⟩:=st7
  rw[e8,obs,sEr]
  simp only
  obtain ⟨c9,v9,e9,q9⟩:=Jz q8 (by omega) 12
  rw[e9,obs]
  cases v9 with
  | true =>
   obtain ⟨c10,v10,e10,q10,hm⟩:=Ac0 q9 (by omega) [[32,77,32,49,32,49],[32,76,32,49,32,49],[32,81],[32,77,32,49],[32,77,32,57,57,57,57,32,48],[]] (by simp) (by simp)
   have:=SM (n:=9) (by decide) hm
   simp only[cT]
   rw[e10,obs]
   simp only
   rw[AG (by omega),obs]
   exact ⟨c10,_,rfl,q10.mono (by omega),by simp; omega⟩
  | false=>exact ⟨c9,t8,by simp only[cF],q9.mono (by omega),by omega⟩
 cases v0 with
 | true =>
  obtain ⟨c1,l,e1,q1,l1,w1⟩:=ZG q0 (by omega)
  obtain ⟨sh1,sh2⟩:=shorts (l:=l) (by omega) (fun w hw=>by have:=w1 w hw; omega)
  simp only[cT]
  rw[e1,obs]
  simp only
  rw[LS sh1 sh2,obs]
  cases hp:(printV l).2 with
  | true =>
   have:=Vm l
   rw[cT,obs,sEl]
   exact ⟨c1,_,rfl,q1.mono (by omega),by omega⟩
  | false =>
   rw[cF,obs,sEr]
   exact main c1 (q1.mono (by omega))
 | false =>
  simp only[cF]
  rw[obs,sEr]
  exact main c0 (q0.mono (by omega))
end
section
open Go
theorem T0 {l:List P2} {d:P2} (hd:goodPt d=true) (hg:∀ p∈l,goodPt p=true) (hl:l.length≤1000) :
  loopM (fun (s:((Int×Int)×((List (Int×Int))×((List (Int×Int))×(Int×Int)))))=>Ct s.1 s.2.1 s.2.2.1 s.2.2.2.1 s.2.2.2.2) ((d.1,d.2),(List.nil,(l,(((l.length:Nat):Int),(0:Int)))))=some (l.map fun p=>(p.1 + d.1,p.2 + d.2)):=by
 obtain ⟨h1,h2⟩:=Iw (l:=l) (body:=fun (s:((Int×Int)×((List (Int×Int))×((List (Int×Int))×(Int×Int)))))=>Ct s.1 s.2.1 s.2.2.1 s.2.2.2.1 s.2.2.2.2)
  (st:=fun k (b:List P2)=>((d.1,d.2),(b,(l,((l.length:Int),(k:Int)))))) (step:=fun b p=>b ++ [(p.1 + d.1,p.2 + d.2)]) (fin:=fun b=>b) (I:=fun k b=>b=(l.take k).map fun p=>(p.1 + d.1,p.2 + d.2))
  (by
   rintro k b p hk rfl
   have hp:=hg p (List.mem_of_getElem? hk)
   rw[Dm] at hp hd
   have hkl:=getL hk
   unfold Ct
   simp only[Et hk,cond_true,Ah,hk,Option.bind_some,wrap1 (show k<4611686018427387904 by omega)]
   rw[wrapI (n:=p.1 + d.1) (by omega) (by omega),wrapI (n:=p.2 + d.2) (by omega) (by omega),Bh (by simp[maxBytes]; omega) (by simp[maxBytes]; omega)]
   refine ⟨rfl,?_⟩
   rw[List.take_add_one,hk]
   simp)
  (by
   rintro b rfl
   unfold Ct
   simp only[JG,cond_false]) [] (by simp)
 rw[show ((0:Nat):Int)=0 from rfl] at h1
 rw[h1,h2,List.take_length]
theorem WX {l:List P2} {d:P2} (hl:Short l):DK l d=some (if isWay l=true∧goodPt d=true∧(l.map fun p=>(p.1 + d.1,p.2 + d.2)).all goodPt=true then (l.map fun p=>(p.1 + d.1,p.2 + d.2),true) else ([],false)):=by
 unfold DK
 simp only[Q8 hl,Option.bind_some,Kz]
 cases hw:isWay l with
 | false=>simp
 | true =>
  cases hd:goodPt d with
  | false=>simp
  | true =>
   obtain ⟨⟨_,w1⟩,w2⟩:=B8.1 hw
   simp only[Bool.not_true,cond_false,T0 hd w2 (by omega),Option.bind_some]
   rw[Sn (by unfold Short; simp; omega)]
   simp only[Option.bind_some]
   cases (l.map fun p=>(p.1 + d.1,p.2 + d.2)).all goodPt <;> simp
theorem SK {l:List P2} {d:P2} (hd:goodPt d=true) (hg:∀ p∈l,goodPt p=true) (hl:l.length≤1000) :
  loopM (fun (s:((Int×Int)×((List (Int×Int))×((List (Int×Int))×(Int×Int)))))=>Cz s.1 s.2.1 s.2.2.1 s.2.2.2.1 s.2.2.2.2) ((d.1,d.2),(List.nil,(l,(((l.length:Nat):Int),(0:Int)))))=some (l.map fun p=>(p.1 + d.1,p.2 + d.2)):=by
 obtain ⟨h1,h2⟩:=Iw (l:=l) (body:=fun (s:((Int×Int)×((List (Int×Int))×((List (Int×Int))×(Int×Int)))))=>Cz s.1 s.2.1 s.2.2.1 s.2.2.2.1 s.2.2.2.2)
  (st:=fun k (b:List P2)=>((d.1,d.2),(b,(l,((l.length:Int),(k:Int)))))) (step:=fun b p=>b ++ [(p.1 + d.1,p.2 + d.2)]) (fin:=fun b=>b) (I:=fun k b=>b=(l.take k).map fun p=>(p.1 + d.1,p.2 + d.2))
  (by
   rintro k b p hk rfl
   have hp:=hg p (List.mem_of_getElem? hk)
   rw[Dm] at hp hd
   have hkl:=getL hk
   unfold Cz
   simp only[Et hk,cond_true,Ah,hk,Option.bind_some,wrap1 (show k<4611686018427387904 by omega)]
   rw[wrapI (n:=p.1 + d.1) (by omega) (by omega),wrapI (n:=p.2 + d.2) (by omega) (by omega),Bh (by simp[maxBytes]; omega) (by simp[maxBytes]; omega)]
   refine ⟨rfl,?_⟩
   rw[List.take_add_one,hk]
   simp)
  (by
   rintro b rfl
   unfold Cz
   simp only[JG,cond_false]) [] (by simp)
 rw[show ((0:Nat):Int)=0 from rfl] at h1
 rw[h1,h2,List.take_length]
theorem Xs {l:List P2} {d:P2} (hl:Short l):Dy l d=some (if isWay l=true∧goodPt d=true∧(l.map fun p=>(p.1 + d.1,p.2 + d.2)).all goodPt=true then (l.map fun p=>(p.1 + d.1,p.2 + d.2),true) else ([],false)):=by
 unfold Dy
 simp only[Rh hl,Option.bind_some,OA]
 cases hw:isWay l with
 | false=>simp
 | true =>
  cases hd:goodPt d with
  | false=>simp
  | true =>
   obtain ⟨⟨_,w1⟩,w2⟩:=B8.1 hw
   simp only[Bool.not_true,cond_false,SK hd w2 (by omega),Option.bind_some]
   rw[VN (by unfold Short; simp; omega)]
   simp only[Option.bind_some]
   cases (l.map fun p=>(p.1 + d.1,p.2 + d.2)).all goodPt <;> simp
end
section
open Go
def mvW (d:P2) (w:List P2):List P2:=w.map fun p=>(p.1 + d.1,p.2 + d.2)
def canMv (d:P2) (w:List P2):Prop:=isWay w=true∧goodPt d=true∧(mvW d w).all goodPt=true
instance (d:P2) (w:List P2):Decidable (canMv d w):=by unfold canMv; infer_instance
def mvStep (d:P2) (out:Ways) (w:List P2):(Ways ⊕ (Str×Bool)) ⊕ Ways:=if canMv d w then .inr (out ++ [mvW d w]) else .inl (.inr ([],false))
def mvR (d:P2) (l:Ways):Ways ⊕ (Str×Bool):=Sum.elim id (fun o=>.inl o) (foldX (mvStep d) [] l)
section
variable {l:Ways} {d:P2} (hl:l.length≤1000) (hs:∀ w∈l,Short w)
include hl hs
theorem WR:loopM (fun (s:(P2×(Ways×(Ways×(Int×Int)))))=>A4 s.1 s.2.1 s.2.2.1 s.2.2.2.1 s.2.2.2.2) (d,(([]:Ways),(l,((l.length:Int),(0:Int)))))=some (mvR d l):=by
 obtain ⟨h1,h2⟩:=Si (l:=l) (body:=fun (s:(P2×(Ways×(Ways×(Int×Int)))))=>A4 s.1 s.2.1 s.2.2.1 s.2.2.2.1 s.2.2.2.2)
  (st:=fun k (b:Ways)=>(d,(b,(l,((l.length:Int),(k:Int)))))) (step:=mvStep d) (fin:=fun b=>.inl b) (I:=fun k b=>b.length=k)
  (by
   rintro k b w hk hb
   have hkl:=getL hk
   have hw:=hs w (List.mem_of_getElem? hk)
   have key:A4 d b l (l.length:Int) (k:Int)=if canMv d w then some (.inl (d,(b ++ [mvW d w],(l,((l.length:Int),((k + 1:Nat):Int)))))) else some (.inr (.inr ([],false))):=by
    unfold A4
    rw[decide_eq_true (show (k:Int)<(l.length:Int) by omega),cT,BX hkl,obs,show getN l k=some w from hk,obs,Xs hw,obs]
    by_cases h:canMv d w
    ·rw[if_pos h,if_pos (show isWay w=true∧goodPt (d.1,d.2)=true∧(w.map fun p=>(p.1 + (d.1,d.2).1,p.2 + (d.1,d.2).2)).all goodPt=true from h)]
     simp only[nT,cF]
     rw[show (w.map fun p=>(p.1 + d.1,p.2 + d.2))=mvW d w from rfl]
     rw[Bh (by simp[maxBytes]; omega) (by simp[maxBytes]; omega),obs,wrap1 (by omega)]
    ·rw[if_neg h,if_neg (show ¬(isWay w=true∧goodPt (d.1,d.2)=true∧(w.map fun p=>(p.1 + (d.1,d.2).1,p.2 + (d.1,d.2).2)).all goodPt=true) from h)]
     rfl
   unfold mvStep
   by_cases h:canMv d w
   ·rw[if_pos h] at key ⊢; exact .inl ⟨_,rfl,key,by simp[hb]⟩
   ·rw[if_neg h] at key ⊢; exact .inr ⟨_,rfl,key⟩)
  (by
   rintro b _
   show A4 d b l (l.length:Int) (l.length:Int)=_
   unfold A4
   rw[decide_eq_false (by omega)]
   rfl) [] rfl
 exact h1
theorem Xg:loopM (fun (s:(P2×(Ways×(Ways×(Int×Int)))))=>A2 s.1 s.2.1 s.2.2.1 s.2.2.2.1 s.2.2.2.2) (d,(([]:Ways),(l,((l.length:Int),(0:Int)))))=some (mvR d l):=by
 obtain ⟨h1,h2⟩:=Si (l:=l) (body:=fun (s:(P2×(Ways×(Ways×(Int×Int)))))=>A2 s.1 s.2.1 s.2.2.1 s.2.2.2.1 s.2.2.2.2)
  (st:=fun k (b:Ways)=>(d,(b,(l,((l.length:Int),(k:Int)))))) (step:=mvStep d) (fin:=fun b=>.inl b) (I:=fun k b=>b.length=k)
  (by
   rintro k b w hk hb
   have hkl:=getL hk
   have hw:=hs w (List.mem_of_getElem? hk)
   have key:A2 d b l (l.length:Int) (k:Int)=if canMv d w then some (.inl (d,(b ++ [mvW d w],(l,((l.length:Int),((k + 1:Nat):Int)))))) else some (.inr (.inr ([],false))):=by
    unfold A2
    rw[decide_eq_true (show (k:Int)<(l.length:Int) by omega),cT,Ah,hk,obs,WX hw,obs]
    by_cases h:canMv d w
    ·rw[if_pos h,if_pos (show isWay w=true∧goodPt (d.1,d.2)=true∧(w.map fun p=>(p.1 + (d.1,d.2).1,p.2 + (d.1,d.2).2)).all goodPt=true from h)]
     simp only[nT,cF]
     rw[show (w.map fun p=>(p.1 + d.1,p.2 + d.2))=mvW d w from rfl]
     rw[Bh (by simp[maxBytes]; omega) (by simp[maxBytes]; omega),obs,wrap1 (by omega)]
    ·rw[if_neg h,if_neg (show ¬(isWay w=true∧goodPt (d.1,d.2)=true∧(w.map fun p=>(p.1 + (d.1,d.2).1,p.2 + (d.1,d.2).2)).all goodPt=true) from h)]
     rfl
   unfold mvStep
   by_cases h:canMv d w
   ·rw[if_pos h] at key ⊢; exact .inl ⟨_,rfl,key,by simp[hb]⟩
   ·rw[if_neg h] at key ⊢; exact .inr ⟨_,rfl,key⟩)
  (by
   rintro b _
   show A2 d b l (l.length:Int) (l.length:Int)=_
   unfold A2
   rw[decide_eq_false (by omega)]
   rfl) [] rfl
 exact h1
end
theorem Tx (d:P2):∀ (l out:Ways),foldX (mvStep d) out l=if (l.all fun w=>decide (canMv d w))=true then .inr (out++l.map (mvW d)) else .inl (.inr ([],false))
 | [],out=>by simp[foldX]
 | w::l,out=>by
  unfold foldX mvStep
  by_cases hc:canMv d w
  ·rw[if_pos hc]
   show foldX (mvStep d) (out ++ [mvW d w]) l=_
   rw[Tx d l,List.all_cons,decide_eq_true hc,Bool.true_and]
   simp
  ·rw[if_neg hc,List.all_cons,decide_eq_false hc,Bool.false_and]
   rfl
theorem Zj (d:P2) (l:Ways):mvR d l=if (l.all fun w=>decide (canMv d w))=true then .inl (l.map (mvW d)) else .inr ([],false):=by
 unfold mvR
 rw[Tx]
 split <;> rfl
def mvV (s:Str) (d:P2):Str×Bool:=if (pathV s).2.2.2=true∧((pathV s).1.all fun w=>decide (canMv d w))=true then printV ((pathV s).1.map (mvW d)) else ([],false)
theorem EX (s:Str):(∃ l,pathV s=(l,0,0,true)∧goodWays l=true)∨∃ c a,pathV s=([],c,a,false)∧c≠0:=by
 have hv:∃ w c a ok,pathV s=(w,c,a,ok):=⟨_,_,_,_,rfl⟩
 obtain ⟨w,c,a,ok,e⟩:=hv
 cases ok with
 | true =>
  obtain ⟨h1,h2,h3⟩:=Xd e
  exact .inl ⟨w,by rw[e,h2,h3],h1⟩
 | false =>
  obtain ⟨h1,h2⟩:=Yk e
  exact .inr ⟨c,a,by rw[e,h2],h1⟩
theorem Ri {l:Ways} (h:goodWays l=true) : 1≤l.length∧l.length≤4:=by
 unfold goodWays at h
 simp only[Bool.and_eq_true,decide_eq_true_eq] at h
 exact h.2
theorem Fa {l:Ways} (h:goodWays l=true):l.length≤1000∧∀ w∈l,Short w:=by
 obtain ⟨h1,h2⟩:=C1 h
 exact ⟨by omega,fun w hw=>by have:=(h2 w hw).1; unfold Short; omega⟩
theorem Vx {l:Ways} {d:P2} (h:goodWays l=true) (hm:(l.all fun w=>decide (canMv d w))=true):goodWays (l.map (mvW d))=true:=by
 unfold goodWays at h ⊢
 simp only[Bool.and_eq_true,List.all_eq_true,decide_eq_true_eq,List.length_map] at h ⊢
 refine ⟨fun w hw=>?_,h.2⟩
 obtain ⟨u,hu,rfl⟩:=List.mem_map.1 hw
 have hc:=of_decide_eq_true (List.all_eq_true.1 hm u hu)
 obtain ⟨c1,c2,c3⟩:=hc
 have hlen:=(B8.1 c1).1
 refine B8.2 ⟨by unfold mvW; rw[List.length_map]; exact hlen,fun p hp=>List.all_eq_true.1 c3 p hp⟩
theorem V2 {s:Str} (hs:s.length≤1048576) (d:P2):BP s d=some (mvV s d):=by
 unfold BP mvV
 rw[HB (by omega),obs]
 rcases EX s with ⟨l,e,hg⟩ | ⟨c,a,e,hc⟩
 ·rw[e]
  simp only
  rw[nT,cF,Kz,obs]
  obtain ⟨g1,g2⟩:=Fa hg
  have hn:=Ri hg
  have e2:loopM (fun (s:(P2×(Ways×(Ways×(Int×Int)))))=>A2 s.1 s.2.1 s.2.2.1 s.2.2.2.1 s.2.2.2.2) ((d.1,d.2),(([]:Ways),(l,((l.length:Int),(0:Int)))))=some (mvR d l):=Xg g1 g2
  cases hd:goodPt d with
  | false =>
   rw[nF,cT,if_neg]
   rintro ⟨_,h⟩
   obtain ⟨w,r,hl⟩:∃ w r,l=w::r:=List.exists_cons_of_ne_nil (fun h=>by rw[h] at hn; simp at hn)
   rw[hl,List.all_cons,Bool.and_eq_true] at h
   have hc:=of_decide_eq_true h.1
   rw[hc.2.1] at hd
   cases hd
  | true =>
   rw[nT,cF,e2,obs,Zj]
   by_cases hm:(l.all fun w=>decide (canMv d w))=true
   ·have hgm:=Vx hg hm
    obtain ⟨k1,k2⟩:=Fa hgm
    rw[if_pos hm,if_pos ⟨trivial,hm⟩,sEl,L2 (by unfold Short; omega) k2]
    rfl
   ·rw[if_neg hm,if_neg (fun h=>hm h.2),sEr]
 ·rw[e]
  simp only
  rw[nF,cT,if_neg (fun h=>by cases h.1)]
theorem Zz {s:Str} (hs:s.length≤1048576) (d:P2):CR s d=some (mvV s d):=by
 unfold CR mvV
 rw[Hj (by omega),obs]
 rcases EX s with ⟨l,e,hg⟩ | ⟨c,a,e,hc⟩
 ·rw[e]
  simp only
  obtain ⟨g1,g2⟩:=Fa hg
  have e2:loopM (fun (s:(P2×(Ways×(Ways×(Int×Int)))))=>A4 s.1 s.2.1 s.2.2.1 s.2.2.2.1 s.2.2.2.2) ((d.1,d.2),(([]:Ways),(l,((l.length:Int),(0:Int)))))=some (mvR d l):=WR g1 g2
  rw[nT,cF,e2,obs,Zj]
  by_cases hm:(l.all fun w=>decide (canMv d w))=true
  ·have hgm:=Vx hg hm
   obtain ⟨k1,k2⟩:=Fa hgm
   rw[if_pos hm,if_pos ⟨trivial,hm⟩,sEl,LS (by unfold Short; omega) k2]
   rfl
  ·rw[if_neg hm,if_neg (fun h=>hm h.2),sEr]
 ·rw[e]
  simp only
  rw[nF,cT,if_neg (fun h=>by cases h.1)]
theorem Ag5 {l:Ways} (h:(printV l).2=true):goodWays l=true∧printV l=(printW l,true)∧(printW l).length≤400:=by
 unfold printV at h ⊢
 split at h
 ·rename_i hg
  split at h
  ·rename_i hl
   rw[if_pos hg,if_pos hl]
   exact ⟨hg,rfl,hl⟩
  ·cases h
 ·cases h
theorem XM {s:Str} {d:P2} (h:(mvV s d).2=true):∃ l,pathV s=(l,0,0,true)∧goodWays l=true∧(∀ w∈l,canMv d w)∧goodWays (l.map (mvW d))=true∧mvV s d=(printW (l.map (mvW d)),true)∧pathV (printW (l.map (mvW d)))=(l.map (mvW d),0,0,true)∧(printW (l.map (mvW d))).length≤400:=by
 unfold mvV at h ⊢
 rcases EX s with ⟨l,e,hg⟩ | ⟨c,a,e,hc⟩
 ·rw[e] at h ⊢
  simp only at h ⊢
  by_cases hm:(l.all fun w=>decide (canMv d w))=true
  ·rw[if_pos ⟨trivial,hm⟩] at h ⊢
   obtain ⟨k1,k2,k3⟩:=Ag5 h
   exact ⟨l,rfl,hg,fun w hw=>of_decide_eq_true (List.all_eq_true.1 hm w hw),k1,k2,Xj k1 k3,k3⟩
  ·rw[if_neg (fun h=>hm h.2)] at h; cases h
 ·rw[e] at h
  simp only at h
  rw[if_neg (fun h=>by cases h.1)] at h
  cases h
theorem TS (d:P2) (w:List P2):mvW (-d.1,-d.2) (mvW d w)=w:=by
 unfold mvW
 rw[List.map_map]
 conv=>rhs; rw[←List.map_id w]
 refine List.map_congr_left fun p _=>?_
 show (p.1 + d.1 + -d.1,p.2 + d.2 + -d.2)=p
 rw[show p.1 + d.1 + -d.1=p.1 by omega,show p.2 + d.2 + -d.2=p.2 by omega]
theorem UR {d:P2} {w:List P2} (h:canMv d w):canMv (-d.1,-d.2) (mvW d w):=by
 obtain ⟨h1,h2,h3⟩:=h
 have hl:=(B8.1 h1).1
 rw[Dm] at h2
 refine ⟨B8.2 ⟨by unfold mvW; rw[List.length_map]; exact hl,fun p hp=>List.all_eq_true.1 h3 p hp⟩,?_,?_⟩
 ·rw[Dm]
  simp only
  omega
 ·rw[TS,List.all_eq_true]
  exact (B8.1 h1).2
theorem UQ {l:Ways} {d:P2} (hc:∀ w∈l,canMv d w) {m:Str} (hm:pathV m=(l.map (mvW d),0,0,true)):mvV m (-d.1,-d.2)=printV l:=by
 unfold mvV
 rw[hm]
 simp only
 rw[if_pos]
 ·rw[List.map_map]
  have e:l.map (mvW (-d.1,-d.2)∘mvW d)=l:=by
   conv=>rhs; rw[←List.map_id l]
   exact List.map_congr_left fun w _=>TS d w
  rw[e]
 ·refine ⟨trivial,List.all_eq_true.2 fun w hw=>?_⟩
  obtain ⟨u,hu,rfl⟩:=List.mem_map.1 hw
  exact decide_eq_true (UR (hc u hu))
def cnt (l:List Wy):Int:=l.foldl (fun a w=>IntKind.wrap .i64 (a + (w.length:Int))) 0
theorem Sw {l:List Wy} {k:Nat} {w:Wy} (h:l[k]? = some w):cnt (l.take (k + 1))=IntKind.wrap .i64 (cnt (l.take k) + (w.length:Int)):=by
 unfold cnt
 rw[List.take_add_one,h,List.foldl_append]
 rfl
theorem Ag6 {l:List Wy} (hl:l.length≤1000):loopM (fun (s:((List Wy)×(Int×(Int×Int))))=>Cv s.1 s.2.1 s.2.2.1 s.2.2.2) (l,((0:Int),((l.length:Int),(0:Int))))=some (l,cnt l):=by
 obtain ⟨_,h1,_⟩:=Cm (body:=fun (s:((List Wy)×(Int×(Int×Int))))=>Cv s.1 s.2.1 s.2.2.1 s.2.2.2) (fun k (_:Unit)=>(l,cnt (l.take k),(l.length:Int),(k:Int))) (fun _=>(l,cnt l)) (fun _ _=>True) l.length (by
  intro k _ hk _
  have he:l[k]? = some l[k]:=List.getElem?_eq_getElem hk
  generalize l[k]=w at he
  refine ⟨(),?_,trivial⟩
  unfold Cv
  simp only
  rw[decide_eq_true (by omega),cT,BX hk,obs,show getN l k=some w from he,obs,Sw he,wrap1 (by omega)]) (by
  intro _ _
  unfold Cv
  simp) 0 () (by omega) trivial
 exact h1
theorem Ag3 {l:List Wy} (hl:l.length≤1000):loopM (fun (s:((List Wy)×(Int×((List Wy)×(Int×Int)))))=>Cq s.1 s.2.1 s.2.2.1 s.2.2.2.1 s.2.2.2.2) (l,((0:Int),(l,((l.length:Int),(0:Int)))))=some (l,cnt l):=by
 obtain ⟨_,h1,_⟩:=Cm (body:=fun (s:((List Wy)×(Int×((List Wy)×(Int×Int)))))=>Cq s.1 s.2.1 s.2.2.1 s.2.2.2.1 s.2.2.2.2) (fun k (_:Unit)=>(l,cnt (l.take k),l,(l.length:Int),(k:Int))) (fun _=>(l,cnt l)) (fun _ _=>True) l.length (by
  intro k _ hk _
  have he:l[k]? = some l[k]:=List.getElem?_eq_getElem hk
  generalize l[k]=w at he
  refine ⟨(),?_,trivial⟩
  unfold Cq
  simp only
  rw[decide_eq_true (by omega),cT,Ah,he,obs,Sw he,wrap1 (by omega)]) (by
  intro _ _
  unfold Cq
  simp) 0 () (by omega) trivial
 exact h1
def cntV (s:Str):Int×Int×Bool:=if (pathV s).2.2.2=true then (((pathV s).1.length:Int),cnt (pathV s).1,true) else (0,0,false)
theorem QC {s:Str} (hs:s.length≤1048576):Ck s=some (cntV s):=by
 unfold Ck cntV
 rw[HB (by omega),obs]
 rcases EX s with ⟨l,e,hg⟩ | ⟨c,a,e,hc⟩
 ·rw[e]
  simp only
  obtain ⟨g1,g2⟩:=Fa hg
  rw[nT,cF,Ag3 g1,obs,if_pos trivial]
 ·rw[e]
  simp only
  rw[nF,cT,if_neg (by simp)]
theorem Xk {s:Str} (hs:s.length≤1048576):DC s=some (cntV s):=by
 unfold DC cntV
 rw[Hj (by omega),obs]
 rcases EX s with ⟨l,e,hg⟩ | ⟨c,a,e,hc⟩
 ·rw[e]
  simp only
  obtain ⟨g1,g2⟩:=Fa hg
  rw[nT,cF,Ag6 g1,obs,if_pos trivial]
 ·rw[e]
  simp only
  rw[nF,cT,if_neg (by simp)]
theorem Ad4 (d:P2) (l:Ways):cnt (l.map (mvW d))=cnt l:=by
 unfold cnt
 rw[List.foldl_map]
 congr 1
 funext a w
 unfold mvW
 rw[List.length_map]
end
section
open Go
def B:Nat→Int
 | 0=>1
 | n + 1=>65536*B n
theorem ET:∀ n,0<B n
 | 0=>by decide
 | n + 1=>by have:=ET n; simp only[B]; omega
theorem Ql:∀ m n,B (m + n)=B m*B n
 | 0,n=>by simp[B]
 | m + 1,n=>by rw[show m + 1 + n=(m + n) + 1 by omega]; simp only[B]; rw[Ql m n,Int.mul_assoc]
theorem N8 {m n:Nat} (h:m≤n):B m≤B n:=by
 induction h with
 | refl=>exact Int.le_refl _
 | @step n h ih=>have:=ET n; simp only[B]; omega
def val:List Int→Int
 | []=>0
 | x::l=>x + 65536*val l
def LB (l:List Int):Prop:=∀ x∈l,0≤x∧x<65536
theorem LB.nil:LB []:=fun _ h=>absurd h (List.not_mem_nil)
theorem LB.head {x:Int} {l:List Int} (h:LB (x::l)) : 0≤x∧x<65536:=h x (List.mem_cons_self ..)
theorem LB.tail {x:Int} {l:List Int} (h:LB (x::l)):LB l:=fun y hy=>h y (List.mem_cons_of_mem _ hy)
theorem LB.cons {x:Int} {l:List Int} (hx : 0≤x∧x<65536) (h:LB l):LB (x::l):=fun y hy=>by
 rcases List.mem_cons.1 hy with rfl | hy
 ·exact hx
 ·exact h y hy
theorem LB.append {l m:List Int} (h:LB l) (h':LB m):LB (l++m):=fun y hy=>(List.mem_append.1 hy).elim (h y) (h' y)
theorem LB.take {l:List Int} (h:LB l) (n:Nat):LB (l.take n):=fun y hy=>h y (List.mem_of_mem_take hy)
theorem LB.drop {l:List Int} (h:LB l) (n:Nat):LB (l.drop n):=fun y hy=>h y (List.mem_of_mem_drop hy)
theorem LB.get {l:List Int} (h:LB l) {k:Nat} {x:Int} (hk:l[k]? = some x) : 0≤x∧x<65536:=h x (List.mem_of_getElem? hk)
theorem LB.set {l:List Int} (h:LB l) {k:Nat} {x:Int} (hx : 0≤x∧x<65536):LB (l.set k x):=fun y hy=>by
 rcases List.mem_or_eq_of_mem_set hy with hy | rfl
 ·exact h y hy
 ·exact hx
theorem LB.zeros (n:Nat):LB (List.replicate n 0):=fun y hy=>by have:=List.eq_of_mem_replicate hy; omega
theorem AH:∀ {l:List Int},LB l→0≤val l
 | [],_=>Int.le_refl _
 | x::l,h=>by have:=h.head; have:=AH h.tail; simp only[val]; omega
theorem K9:∀ {l:List Int},LB l→val l<B l.length
 | [],_=>by decide
 | x::l,h=>by have:=h.head; have:=K9 h.tail; simp only[val,List.length_cons,B]; omega
theorem JJ:∀ (l m:List Int),val (l++m)=val l + B l.length*val m
 | [],m=>by simp[val,B]
 | x::l,m=>by
  simp only[List.cons_append,val,List.length_cons,B,JJ l m]
  rw[Int.mul_add,Int.mul_assoc]
  omega
theorem D8:∀ n,val (List.replicate n 0)=0
 | 0=>rfl
 | n + 1=>by simp only[List.replicate_succ,val,D8 n]; omega
theorem R9 (l:List Int) (x:Int):val (l ++ [x])=val l + B l.length*x:=by rw[JJ]; simp[val]
theorem LG (l:List Int) (n:Nat) (h:n≤l.length):val l=val (l.take n) + B n*val (l.drop n):=by
 have:=JJ (l.take n) (l.drop n)
 rw[List.take_append_drop,List.length_take,Nat.min_eq_left h] at this
 exact this
theorem Fs:∀ {l:List Int} {k:Nat} {x y:Int},l[k]? = some x→val (l.set k y)=val l + B k*(y-x)
 | [],k,x,y,h=>by simp at h
 | a::l,0,x,y,h=>by
  simp at h
  subst h
  simp only[List.set_cons_zero,val,B]
  omega
 | a::l,k + 1,x,y,h=>by
  simp only[List.getElem?_cons_succ] at h
  simp only[List.set_cons_succ,val,B,Fs (y:=y) h]
  rw[Int.mul_add,Int.mul_assoc]
  omega
def NB (l:List Int):Prop:=∀ x,l.getLast? = some x→x≠0
theorem NB.nil:NB []:=fun x h=>by simp at h
theorem NB.tail {x:Int} {l:List Int} (h:NB (x::l)):NB l:=fun y hy=>by
 cases l with
 | nil=>simp at hy
 | cons a t=>exact h y (by rw[List.getLast?_cons_cons]; exact hy)
theorem Rp:∀ {l:List Int},LB l→NB l→l≠[]→B (l.length-1)≤val l
 | [],_,_,h=>absurd rfl h
 | [x],h,hn,_=>by
  have h1:=h.head
  have h2:=hn x rfl
  simp only[val,List.length_cons,List.length_nil,B]
  simp[B]
  omega
 | x::y::l,h,hn,_=>by
  have h1:=h.head
  have h2:=Rp h.tail hn.tail (by simp)
  simp only[List.length_cons,Nat.add_sub_cancel] at h2 ⊢
  rw[val]
  simp only[B]
  omega
theorem Sv {l:List Int} (h:LB l) (hn:NB l) (h0:val l=0):l = []:=by
 cases l with
 | nil=>rfl
 | cons x l =>
  have h1:=Rp h hn (by simp)
  have h2:=ET ((x::l).length-1)
  omega
theorem Vz:∀ {l m:List Int},LB l→NB l→LB m→NB m→val l=val m→l=m
 | [],m,_,_,hm,nm,h=>by
  have:val m=0:=by rw[←h]; rfl
  exact (Sv hm nm this).symm
 | x::l,[],hl,nl,_,_,h=>Sv hl nl (by rw[h]; rfl)
 | x::l,y::m,hl,nl,hm,nm,h=>by
  have h1:=hl.head
  have h2:=hm.head
  simp only[val] at h
  have hx:x=y:=by omega
  have hv:val l=val m:=by omega
  rw[hx,Vz hl.tail nl.tail hm.tail nm.tail hv]
def lim (n:Nat):List Int:=if h:n=0 then [] else ((n%65536:Nat):Int)::lim (n/65536)
termination_by n
decreasing_by omega
theorem DF:lim 0 = []:=by unfold lim; simp
theorem BA (n:Nat):LB (lim n):=by
 induction n using Nat.strongRecOn with
 | _ n ih =>
  unfold lim
  split
  ·exact LB.nil
  ·exact LB.cons (by omega) (ih (n/65536) (by omega))
theorem Bi (n:Nat):val (lim n)=n:=by
 induction n using Nat.strongRecOn with
 | _ n ih =>
  unfold lim
  split
  ·rename_i h; rw[h]; rfl
  ·simp only[val,ih (n/65536) (by omega)]
   omega
theorem MP {n:Nat}:lim n = []↔n=0:=by
 constructor
 ·intro h
  have:=Bi n
  rw[h] at this
  simp only[val] at this
  omega
 ·rintro rfl; exact DF
theorem O1 (n:Nat):NB (lim n):=by
 induction n using Nat.strongRecOn with
 | _ n ih =>
  unfold lim
  split
  ·exact NB.nil
  ·rename_i hn
   intro x hx
   by_cases h0:n/65536=0
   ·rw[h0,DF] at hx
    simp at hx
    omega
   ·have hne:lim (n/65536)≠[]:=fun h=>h0 (MP.1 h)
    cases hl:lim (n/65536) with
    | nil=>exact absurd hl hne
    | cons a t =>
     rw[hl,List.getLast?_cons_cons] at hx
     exact ih (n/65536) (by omega) x (by rw[hl]; exact hx)
theorem Ac2 {l:List Int} (h:LB l) (hn:NB l):l=lim (val l).toNat:=Vz h hn (BA _) (O1 _) (by rw[Bi]; have:=AH h; omega)
theorem AX {n k:Nat}:(lim n).length≤k↔(n:Int)<B k:=by
 constructor
 ·intro h
  have h1:=K9 (BA n)
  rw[Bi] at h1
  have:=N8 h
  omega
 ·intro h
  rcases Nat.lt_or_ge k (lim n).length with hk | hk
  ·exfalso
   have hne:lim n≠[]:=by intro h0; rw[h0] at hk; simp at hk
   have h1:=Rp (BA n) (O1 n) hne
   rw[Bi] at h1
   have:=N8 (show k≤(lim n).length-1 by omega)
   omega
  ·exact hk
def strip:List Int→List Int
 | []=>[]
 | x::l=>match strip l with | []=>if x=0 then [] else [x] | m=>x::m
theorem N4:∀ {l:List Int},LB l→LB (strip l)∧NB (strip l)∧val (strip l)=val l
 | [],_=>⟨LB.nil,NB.nil,rfl⟩
 | x::l,h=>by
  obtain ⟨h1,h2,h3⟩:=N4 h.tail
  simp only[strip]
  cases hs:strip l with
  | nil =>
   rw[hs] at h3
   simp only[val] at h3
   simp only
   split
   ·rename_i hx; subst hx; exact ⟨LB.nil,NB.nil,by simp only[val]; omega⟩
   ·rename_i hx
    exact ⟨LB.cons h.head LB.nil,fun y hy=>by simp at hy; subst hy; exact hx,by simp only[val]; omega⟩
  | cons a t =>
   rw[hs] at h1 h2 h3
   simp only
   exact ⟨LB.cons h.head h1,fun y hy=>h2 y (by rw[List.getLast?_cons_cons] at hy; exact hy),by rw[val,h3]; rfl⟩
theorem Dh {l:List Int} (h:LB l):strip l=lim (val l).toNat:=by
 obtain ⟨h1,h2,h3⟩:=N4 h
 rw[Ac2 h1 h2,h3]
theorem Hc:∀ (l:List Int),strip (l ++ [0])=strip l
 | []=>rfl
 | x::l=>by simp only[List.cons_append,strip,Hc l]
theorem JV:∀ {l:List Int},NB l→strip l=l
 | [],_=>rfl
 | x::l,h=>by
  simp only[strip,JV h.tail]
  cases l with
  | nil=>simp only; rw[if_neg (h x rfl)]
  | cons a t=>rfl
theorem Qi:∀ (l:List Int),(strip l).length≤l.length
 | []=>Nat.le_refl _
 | x::l=>by
  have:=Qi l
  simp only[strip]
  split
  ·split <;> simp
  ·rename_i m hm; simp only[List.length_cons] at *; omega
end
section
open Go
def Brief (l:List Int):Prop:=l.length≤100000000
theorem ZY {l:List Int} (h:l≠[]):∃ m x,l=m ++ [x]:=⟨l.dropLast,l.getLast h,(List.dropLast_concat_getLast h).symm⟩
theorem Aa5 {m:List Int} {x:Int} (h:x≠0):NB (m ++ [x]):=fun y hy=>by
 rw[List.getLast?_append] at hy
 simp at hy
 subst hy
 exact h
theorem room1 {n:Nat} (h:n≤200000000):roomI n 8 1=true:=by unfold roomI; rw[decide_eq_true (by unfold maxBytes; omega),decide_eq_true (by unfold maxBytes; omega)]; rfl
theorem D3 {l:List Int} (hb:Brief l):Ba l=some (strip l):=by
 have key:∀ (n:Nat) (l:List Int),l.length=n→n≤100000000→loopM (fun (s:(List Int))=>Fw s) l=some (strip l):=by
  intro n
  induction n with
  | zero =>
   intro l hl _
   have:l = []:=List.eq_nil_of_length_eq_zero hl
   subst this
   exact Ap rfl
  | succ n ih =>
   intro l hl hn
   obtain ⟨m,x,rfl⟩:=ZY (l:=l) (by intro h; subst h; simp at hl)
   have hm:m.length=n:=by simpa using hl
   have hlen:(((m ++ [x]).length:Nat):Int)=(n:Int) + 1:=by simp[hm]
   have hg:getI (m ++ [x]) (n:Int)=some x:=by rw[Ah,←hm]; simp
   have hstep:Fw (m ++ [x])=if x=0 then some (Sum.inl m) else some (Sum.inr (m ++ [x])):=by
    unfold Fw
    rw[hlen,wrapI (by omega) (by omega),show (n:Int) + 1-1=(n:Int) by omega,hg,decide_eq_true (by omega)]
    simp only[cond_true,Option.bind_some]
    by_cases hx:x=0
    ·rw[if_pos hx,beq_iff_eq.2 hx]
     have:subI 0 (n:Int) (m ++ [x]).length=some (0,n):=by unfold subI; simp[hm]; omega
     rw[this]
     simp[←hm]
    ·rw[if_neg hx,beq_eq_false_iff_ne.2 hx]
     rfl
   by_cases hx:x=0
   ·rw[if_pos hx] at hstep
    rw[A7 hstep,ih m hm (by omega),hx,Hc]
   ·rw[if_neg hx] at hstep
    rw[Ap hstep,JV (Aa5 hx)]
 unfold Ba
 have h:=Qi l
 unfold Brief at hb
 rw[key _ l rfl hb]
 simp only[Option.bind_some,room1 (show (strip l).length≤200000000 by omega),cond_true]
theorem L5 (l:List Int):decide (((l.length:Nat):Int)>0) = !l.isEmpty:=by cases l <;> simp <;> omega
theorem Qu (n:Nat):(!(lim n).isEmpty)=decide (n≠0):=by
 cases h:lim n with
 | nil=>rw[MP.1 h]; rfl
 | cons a t=>simp; intro h0; rw[h0,DF] at h; cases h
theorem FJ {l:List Int} (h:LB l) (hb:Brief l) (neg:Bool):A0 neg l=some (lim (val l).toNat,neg&&decide ((val l).toNat≠0)):=by
 unfold A0
 simp only[D3 hb,Option.bind_some,L5]
 rw[Dh h,Qu]
 cases neg <;> rfl
def big (z:Int):Bool×List Int:=(decide (z<0),lim z.natAbs)
def goodB (b:Bool×List Int):Bool:=(b.2.all fun x=>decide (0≤x)&&decide (x≤65535))&&(match b.2.getLast? with | none=>!b.1 | some x=>decide (b.2.length≤40)&&(x != 0))
theorem Z6 {k:Nat} {α:Type} {l:List α} {a : α} (h:l[k]? = some a):decide ((k:Int)<(l.length:Int))=true:=by have:=getL h; simpa using this
theorem Aa9 {α:Type} (l:List α):decide ((l.length:Int)<(l.length:Int))=false:=by simp
end
section
open Go
def cmpZ (a b:Int):Int:=if a<b then -1 else if b<a then 1 else 0
theorem RQ {a b:Int} (h:a<b):cmpZ a b = -1:=by unfold cmpZ; rw[if_pos h]
theorem Wb {a b:Int} (h:b<a):cmpZ a b=1:=by unfold cmpZ; rw[if_neg (by omega),if_pos h]
theorem Wi (a:Int):cmpZ a a=0:=by unfold cmpZ; simp
theorem UO (a b:Int):(cmpZ a b = -1∧a<b)∨(cmpZ a b=1∧b<a)∨(cmpZ a b=0∧a=b):=by unfold cmpZ; split <;> (try split) <;> omega
theorem Sq {k:Nat} {d:Int} (h:d≤-1):B k*d≤- B k:=by
 have:=Int.mul_le_mul_of_nonneg_left h (Int.le_of_lt (ET k))
 omega
theorem Zq {l m:List Int} (hl:LB l) (hm:LB m) {k:Nat} {x y:Int} (hx:l[k]? = some x) (hy:m[k]? = some y) (hd:l.drop (k + 1)=m.drop (k + 1)):(x<y→val l<val m)∧(y<x→val m<val l):=by
 have kl:=getL hx
 have km:=getL hy
 have e1:=LG l k (by omega)
 have e2:=LG m k (by omega)
 have d1:l.drop k=x::l.drop (k + 1):=by rw[List.drop_eq_getElem_cons kl]; congr 1; rw[List.getElem?_eq_getElem kl] at hx; exact Option.some.inj hx
 have d2:m.drop k=y::m.drop (k + 1):=by rw[List.drop_eq_getElem_cons km]; congr 1; rw[List.getElem?_eq_getElem km] at hy; exact Option.some.inj hy
 rw[d1] at e1
 rw[d2,←hd] at e2
 simp only[val] at e1 e2
 have t1:=AH (hl.take k)
 have t2:=AH (hm.take k)
 have t3:=K9 (hl.take k)
 have t4:=K9 (hm.take k)
 rw[List.length_take,Nat.min_eq_left (by omega)] at t3 t4
 rw[Int.mul_add] at e1 e2
 constructor
 ·intro h
  have:=Sq (k:=k) (show x-y≤-1 by omega)
  rw[Int.mul_sub] at this
  omega
 ·intro h
  have:=Sq (k:=k) (show y-x≤-1 by omega)
  rw[Int.mul_sub] at this
  omega
theorem VW {a b:Nat}:((lim a).length<(lim b).length→a<b):=by
 intro h
 rcases Nat.lt_or_ge a b with h1 | h1
 ·exact h1
 ·exfalso
  have h2:=(AX (n:=a) (k:=(lim a).length)).1 (Nat.le_refl _)
  have:=(AX (n:=b) (k:=(lim a).length)).2 (by omega)
  omega
section
variable {l m:List Int} (hl:LB l) (hm:LB m) (hlen:l.length=m.length) (hb:Brief l)
include hl hm hlen hb
theorem Vc:(val l=val m→loopM (fun (s:((List Int)×((List Int)×Int)))=>Bk s.1 s.2.1 s.2.2) (l,(m,(l.length:Int)-1))=some (.inl ())) ∧
  (val l≠val m→loopM (fun (s:((List Int)×((List Int)×Int)))=>Bk s.1 s.2.1 s.2.2) (l,(m,(l.length:Int)-1))=some (.inr (cmpZ (val l) (val m)))):=by
 unfold Brief at hb
 have key:∀ (n:Nat),n≤l.length→l.drop n=m.drop n→(l=m→loopM (fun (s:((List Int)×((List Int)×Int)))=>Bk s.1 s.2.1 s.2.2) (l,(m,(n:Int)-1))=some (.inl ()))∧(l≠m→loopM (fun (s:((List Int)×((List Int)×Int)))=>Bk s.1 s.2.1 s.2.2) (l,(m,(n:Int)-1))=some (.inr (cmpZ (val l) (val m)))∧val l≠val m):=by
  intro n
  induction n with
  | zero =>
   intro _ h
   simp only[List.drop_zero] at h
   refine ⟨fun _=>Ap rfl,fun hn=>absurd h hn⟩
  | succ n ih =>
   intro hn h
   have k1:n<l.length:=by omega
   have k2:n<m.length:=by omega
   have hx:l[n]? = some l[n]:=List.getElem?_eq_getElem k1
   have hy:m[n]? = some m[n]:=List.getElem?_eq_getElem k2
   have hs:((n + 1:Nat):Int)-1=(n:Int):=by omega
   rw[hs]
   by_cases he:l[n]=m[n]
   ·have hd:l.drop n=m.drop n:=by rw[List.drop_eq_getElem_cons k1,List.drop_eq_getElem_cons k2,he,h]
    have hstep:Bk l m (n:Int)=some (.inl (l,(m,(n:Int)-1))):=by
     unfold Bk
     rw[decide_eq_true (show (n:Int)≥0 by omega),Ah,Ah,hx,hy,wrapI (by omega) (by omega)]
     simp only[cond_true,Option.bind_some,he]
     rw[decide_eq_false (Int.lt_irrefl _)]
     rfl
    obtain ⟨i1,i2⟩:=ih (by omega) hd
    exact ⟨fun hh=>by rw[A7 hstep]; exact i1 hh,fun hh=>by rw[A7 hstep]; exact i2 hh⟩
   ·obtain ⟨c1,c2⟩:=Zq hl hm hx hy h
    have hne:l≠m:=fun hh=>he (by subst hh; rfl)
    have hstep:Bk l m (n:Int)=some (.inr (.inr (cmpZ (val l) (val m)))):=by
     unfold Bk
     rw[decide_eq_true (show (n:Int)≥0 by omega),Ah,Ah,hx,hy]
     simp only[cond_true,Option.bind_some]
     rcases Int.lt_or_gt_of_ne he with h1 | h1
     ·rw[decide_eq_true h1,RQ (c1 h1)]; rfl
     ·rw[decide_eq_false (by omega),decide_eq_true h1,Wb (c2 h1)]; rfl
    refine ⟨fun hh=>absurd hh hne,fun _=>⟨Ap hstep,?_⟩⟩
    rcases Int.lt_or_gt_of_ne he with h1 | h1
    ·have:=c1 h1; omega
    ·have:=c2 h1; omega
 obtain ⟨h1,h2⟩:=key l.length (Nat.le_refl _) (by rw[List.drop_length,hlen,List.drop_length])
 constructor
 ·intro hv
  by_cases he:l=m
  ·exact h1 he
  ·exact absurd hv (h2 he).2
 ·intro hv
  exact (h2 fun he=>hv (by rw[he])).1
end
theorem Z8 {a b:Nat} (ha:Brief (lim a)) (hb:Brief (lim b)):FM (lim a) (lim b)=some (cmpZ a b):=by
 unfold FM
 have ha':=ha
 have hb':=hb
 unfold Brief at ha' hb'
 by_cases h:(lim a).length=(lim b).length
 ·have e:((((lim a).length:Nat):Int) != (((lim b).length:Nat):Int))=false:=by simp[h]
  rw[e,wrapI (by omega) (by omega)]
  simp only[cond_false]
  obtain ⟨h1,h2⟩:=Vc (BA a) (BA b) h ha
  rw[Bi,Bi] at h1 h2
  by_cases hv:(a:Int)=b
  ·rw[h1 hv,hv,Wi]; rfl
  ·rw[h2 hv]; rfl
 ·have e:((((lim a).length:Nat):Int) != (((lim b).length:Nat):Int))=true:=by simp; omega
  rw[e]
  simp only[cond_true]
  rcases Nat.lt_or_gt_of_ne h with h1 | h1
  ·have:=VW h1
   rw[decide_eq_true (by omega),RQ (by omega)]; rfl
  ·have:=VW h1
   rw[decide_eq_false (by omega),Wb (by omega)]; rfl
def dg (l:List Int) (k:Nat):Int:=l.getD k 0
theorem Hy {l:List Int} {k:Nat} {x:Int} (h:l[k]? = some x):dg l k=x:=by unfold dg; rw[List.getD_eq_getElem?_getD,h]; rfl
theorem Rq {l:List Int} {k:Nat} (h:l.length≤k):dg l k=0:=by unfold dg; rw[List.getD_eq_getElem?_getD,List.getElem?_eq_none h]; rfl
theorem Bv {l:List Int} (h:LB l) (k:Nat) : 0≤dg l k∧dg l k<65536:=by
 rcases Nat.lt_or_ge k l.length with hk | hk
 ·rw[Hy (List.getElem?_eq_getElem hk)]; exact h _ (List.getElem_mem _)
 ·rw[Rq hk]; omega
theorem Dx (l:List Int) (k:Nat):val (l.take (k + 1))=val (l.take k) + B k*dg l k:=by
 rcases Nat.lt_or_ge k l.length with hk | hk
 ·have he:=List.getElem?_eq_getElem hk
  rw[List.take_add_one,he,Hy he,Option.toList_some,R9,List.length_take,Nat.min_eq_left (by omega)]
 ·rw[Rq hk,List.take_of_length_le (by omega),List.take_of_length_le hk]
  omega
theorem Ow {l:List Int} (k:Nat):CG l (k:Int)=some (dg l k):=by
 unfold CG
 rcases Nat.lt_or_ge k l.length with hk | hk
 ·rw[decide_eq_true (by omega),Ah,List.getElem?_eq_getElem hk,Hy (List.getElem?_eq_getElem hk)]
  rfl
 ·rw[decide_eq_false (by omega),Rq hk]
  rfl
theorem app1 {l:List Int} {x:Int} (h:l.length≤100000000):appL 8 1 l [x]=some (l ++ [x]):=Bh (by simp[maxBytes]; omega) (by simp[maxBytes]; omega)
end
section
open Go
end
section
open Go
theorem Vf {o x y c:Int} (ho : 0≤o∧o<65536) (hx : 0≤x∧x<65536) (hy : 0≤y∧y<65536) (hc : 0≤c∧c<65536) :
  (0≤x*y∧x*y≤4294836225)∧0≤(o + x*y + c)/65536∧(o + x*y + c)/65536<65536∧0≤(o + x*y + c)%65536∧(o + x*y + c)%65536<65536∧(o + x*y + c)%65536 + 65536*((o + x*y + c)/65536)=o + x*y + c:=by
 have h1 : 0≤x*y:=Int.mul_nonneg hx.1 hy.1
 have h2:x*y≤65535*65535:=Int.le_trans (Int.mul_le_mul_of_nonneg_left (show y≤65535 by omega) hx.1) (Int.mul_le_mul_of_nonneg_right (show x≤65535 by omega) (by omega))
 omega
theorem TT {out:List Int} {p:Nat} {o d c c' t V:Int} (ho:out[p]? = some o) (hd:d + 65536*c'=o + t + c) (hV:val out + B p*c=V):val (out.set p d) + B (p + 1)*c'=V + B p*t:=by
 rw[Fs ho]
 have e1:B (p + 1)*c'=B p*(65536*c'):=by simp only[B]; rw[Int.mul_comm 65536 (B p),Int.mul_assoc]
 have e2:B p*d + B p*(65536*c')=B p*o + B p*t + B p*c:=by rw[←Int.mul_add,hd,Int.mul_add,Int.mul_add]
 rw[e1,Int.mul_sub]
 omega
theorem AE {l:List Int} {k:Nat} (h:k<l.length):l[k]? = some (dg l k):=by rw[List.getElem?_eq_getElem h,Hy (List.getElem?_eq_getElem h)]
theorem B5 {l:List Int} {k j:Nat} {x:Int} (h:k≠j):dg (l.set k x) j=dg l j:=by
 unfold dg
 rw[List.getD_eq_getElem?_getD,List.getD_eq_getElem?_getD,List.getElem?_set_ne h]
structure Row (out0 out:List Int) (i k:Nat) (c x:Int) (b:List Int):Prop where
 len:out.length=out0.length
 lb:LB out
 hi:∀ j,i + k≤j→dg out j=dg out0 j
 c0 : 0≤c
 c1:c<65536
 v:val out + B (i + k)*c=val out0 + B i*(x*val (b.take k))
theorem Row.start {out0:List Int} (h:LB out0) (i:Nat) (x:Int) (b:List Int):Row out0 out0 i 0 0 x b:=⟨rfl,h,fun _ _=>rfl,by omega,by omega,by simp[val]⟩
theorem Row.next {out0 out:List Int} {i k:Nat} {c x:Int} {b:List Int} (h:Row out0 out i k c x b) (hb:LB b) (hx : 0≤x∧x<65536) (hk:i + k<out.length) :
  Row out0 (out.set (i + k) ((dg out (i + k) + x*dg b k + c)%65536)) i (k + 1) ((dg out (i + k) + x*dg b k + c)/65536) x b:=by
 have hs:=Vf (Bv h.lb (i + k)) hx (Bv hb k) ⟨h.c0,h.c1⟩
 refine ⟨by rw[List.length_set]; exact h.len,h.lb.set ⟨hs.2.2.2.1,hs.2.2.2.2.1⟩,fun j hj=>by rw[B5 (by omega)]; exact h.hi j (by omega),hs.2.1,hs.2.2.1,?_⟩
 have:=TT (AE hk) hs.2.2.2.2.2 h.v
 rw[show i + (k + 1)=i + k + 1 by omega,this,Dx,Int.mul_add,Int.mul_add]
 have:B (i + k)*(x*dg b k)=B i*(x*(B k*dg b k)):=by rw[Ql]; grind
 omega
end
section
open Go
end
section
open Go
theorem A6 (l:List Int) (h:Nat):val l=val (l.take h) + B h*val (l.drop h):=by
 rcases Nat.le_or_ge h l.length with hc | hc
 ·exact LG l h hc
 ·rw[List.take_of_length_le hc,List.drop_eq_nil_of_le hc]; simp[val]
end
section
open Go
theorem Yz {n:Nat} (h:n≠0):lim n=((n%65536:Nat):Int)::lim (n/65536):=by
 conv=>lhs; unfold lim
 rw[dif_neg h]
theorem lim64 {n:Nat} (h:n<18446744073709551616):(lim n).length≤4:=AX.2 (by have:B 4=18446744073709551616:=rfl; omega)
theorem Ra (s:Bool×List Int) (m:Int):∀ (f:Nat) (n:Int) (acc:List Int),n.natAbs≤f→-9223372036854775808≤n→n≤9223372036854775807→acc.length + (lim n.natAbs).length≤10000 →
  loopM (fun (s:((Bool×(List Int))×((List Int)×(Int×Int))))=>Fo s.1 s.2.1 s.2.2.1 s.2.2.2) (s,(acc,(m,n)))=some (s,(acc++lim n.natAbs,m)):=by
 intro f
 induction f with
 | zero =>
  intro n acc hn _ _ _
  have:n=0:=by omega
  subst this
  rw[show (0:Int).natAbs=0 from rfl,DF,List.append_nil]
  exact Ap rfl
 | succ f ih =>
  intro n acc hn h1 h2 h3
  by_cases h0:n=0
  ·subst h0
   rw[show (0:Int).natAbs=0 from rfl,DF,List.append_nil]
   exact Ap rfl
  ·rw[Yz (show n.natAbs≠0 by omega)] at h3 ⊢
   simp only[List.length_cons] at h3
   have hq:(Int.tdiv n 65536).natAbs=n.natAbs/65536:=by rw[Int.natAbs_tdiv]; rfl
   have hq1 : -9223372036854775808≤Int.tdiv n 65536∧Int.tdiv n 65536≤9223372036854775807:=by omega
   have hr:((Int.tmod n 65536).natAbs:Int)=((n.natAbs%65536:Nat):Int):=by rw[Int.natAbs_tmod]; rfl
   have hstep:Fo s acc m n=some (.inl (s,(acc ++ [((n.natAbs%65536:Nat):Int)],(m,Int.tdiv n 65536)))):=by
    unfold Fo
    have:(n != 0)=true:=by simpa using h0
    rw[this,wrapI (n:=Int.tdiv n 65536) (by omega) (by omega)]
    simp only[cond_true]
    by_cases hneg:Int.tmod n 65536<0
    ·rw[decide_eq_true hneg,wrapI (by omega) (by omega)]
     simp only[cond_true]
     rw[app1 (by omega),show (0:Int)-Int.tmod n 65536=((n.natAbs%65536:Nat):Int) by omega]
     rfl
    ·rw[decide_eq_false hneg]
     simp only[cond_false]
     rw[app1 (by omega),show Int.tmod n 65536=((n.natAbs%65536:Nat):Int) by omega]
     rfl
   have:=ih (Int.tdiv n 65536) (acc ++ [((n.natAbs%65536:Nat):Int)]) (by omega) hq1.1 hq1.2 (by rw[hq]; simp; omega)
   rw[A7 hstep,this,List.append_assoc,hq]
   rfl
theorem VB {n:Int} (h1 : -9223372036854775808≤n) (h2:n≤9223372036854775807):Ed n=some (big n):=by
 unfold Ed
 have hl:=lim64 (n:=n.natAbs) (by omega)
 rw[Ra (false,[]) n n.natAbs n [] (Nat.le_refl _) h1 h2 (by simp; omega)]
 simp only[Option.bind_some,List.nil_append]
 rw[FJ (BA _) (by unfold Brief; omega)]
 simp only[Option.bind_some,Bi,Int.toNat_natCast]
 unfold big
 by_cases h:n<0
 ·rw[decide_eq_true h,decide_eq_true (show n.natAbs≠0 by omega)]; rfl
 ·rw[decide_eq_false h]; rfl
end
section
open Go
theorem QN {a q r by_:Int} (h:q*by_ + r=a) (h0 : 0≤r) (h1:r<by_):q=a/by_∧r=a%by_:=by
 have:a=r + by_*q:=by rw[←h,Int.mul_comm]; omega
 subst this
 constructor
 ·rw[Int.add_mul_ediv_left _ _ (by omega),Int.ediv_eq_zero_of_lt h0 h1]; omega
 ·rw[Int.add_mul_emod_self_left,Int.emod_eq_of_lt h0 h1]
theorem O0 {a:List Int} {d:Int} (ha:LB a) (hd : 1≤d∧d≤65536) (na:a.length≤10000000) :
  ∃ q r,loopM (fun (s:((List Int)×((List Int)×(Int×(Int×Int)))))=>Cy s.1 s.2.1 s.2.2.1 s.2.2.2.1 s.2.2.2.2) (List.replicate a.length 0,(a,(d,(0,(a.length:Int)-1))))=some (q,r)∧LB q∧q.length=a.length∧0≤r∧r<d∧val q*d + r=val a:=by
 obtain ⟨⟨q,r⟩,h1,h2⟩:=KQ (body:=fun (s:((List Int)×((List Int)×(Int×(Int×Int)))))=>Cy s.1 s.2.1 s.2.2.1 s.2.2.2.1 s.2.2.2.2)
  (st:=fun n (b:List Int×Int)=>(b.1,(a,(d,(b.2,(n:Int)-1))))) (fin:=fun b=>b)
  (I:=fun n b=>n≤a.length∧LB b.1∧b.1.length=a.length∧(∀ j,j<n→dg b.1 j=0)∧0≤b.2∧b.2<d∧val b.1*d + B n*b.2=B n*val (a.drop n))
  (by
   rintro n ⟨q,r⟩ ⟨h1,h2,h3,h4,h5,h6,h7⟩
   simp only at h2 h3 h4 h5 h6 h7
   have hn:n<a.length:=by omega
   have hg:=List.getElem?_eq_getElem hn
   have dx:=Bv ha n
   have hx:a[n]=dg a n:=(Hy hg).symm
   have hq:q[n]? = some 0:=by rw[AE (by omega),h4 n (by omega)]
   have ht0 : 0≤r*65536 + dg a n:=by omega
   have hdd:=Int.emod_add_mul_ediv (r*65536 + dg a n) d
   have m0:=Int.emod_nonneg (r*65536 + dg a n) (show d≠0 by omega)
   have m1:=Int.emod_lt_of_pos (r*65536 + dg a n) (show 0<d by omega)
   have q0:=Int.ediv_nonneg ht0 (show 0≤d by omega)
   have q1:(r*65536 + dg a n)/d<65536:=by
    refine Int.ediv_lt_of_lt_mul (by omega) ?_
    have:r*65536 + dg a n<d*65536:=by omega
    rw[Int.mul_comm 65536 d]
    exact this
   refine ⟨(q.set n ((r*65536 + dg a n)/d),(r*65536 + dg a n)%d),?_,by omega,h2.set ⟨q0,q1⟩,by simp[h3],fun j hj=>by simp only; rw[B5 (by omega)]; exact h4 j (by omega),m0,m1,?_⟩
   ·unfold Cy getN
    dsimp only
    have hz:(d==0)=false:=beq_eq_false_iff_ne.2 (by omega)
    have hs:((n + 1:Nat):Int)-1=(n:Int):=by omega
    have i1:idxI (n:Int) q.length=some n:=BX (by omega)
    rw[hs,decide_eq_true (by omega),Ah,hg]
    simp only[cond_true,Option.bind_some,hz,cond_false,i1,hq,hx]
    rw[wrapI (n:=r*65536) (by omega) (by omega),wrapI (n:=r*65536 + dg a n) (by omega) (by omega),Int.tdiv_eq_ediv_of_nonneg ht0,Int.tmod_eq_emod_of_nonneg ht0,wrapI (n:=(r*65536 + dg a n)/d) (by omega) (by omega),wrapI (n:=(n:Int)-1) (by omega) (by omega)]
   ·simp only
    rw[Fs hq,List.drop_eq_getElem_cons hn,hx]
    simp only[val,Int.sub_zero]
    have e1:B (n + 1)*r=B n*(r*65536):=by simp only[B]; grind
    have e2:B (n + 1)*val (a.drop (n + 1))=B n*(65536*val (a.drop (n + 1))):=by simp only[B]; grind
    rw[e1,e2] at h7
    have e3:B n*((r*65536 + dg a n)/d)*d + B n*((r*65536 + dg a n)%d)=B n*(r*65536) + B n*dg a n:=by
     rw[Int.mul_assoc,←Int.mul_add,←Int.mul_add]
     congr 1
     rw[Int.mul_comm _ d]
     omega
    rw[Int.add_mul,Int.mul_add]
    omega)
  (by
   rintro ⟨q,r⟩ _
   unfold Cy
   rfl) a.length (List.replicate a.length 0,0) ⟨Nat.le_refl _,LB.zeros _,by simp,fun j _=>by
    unfold dg; rw[List.getD_eq_getElem?_getD,List.getElem?_replicate]; split <;> rfl,by omega,by simp only; omega,by simp[D8,val]⟩
 obtain ⟨g1,g2,g3,g4,g5,g6,g7⟩:=h2
 simp only[B,Int.one_mul,List.drop_zero] at g7
 exact ⟨q,r,h1,g2,g3,g5,g6,g7⟩
theorem Xt {n:Nat} {d:Int} (hd : 1≤d∧d≤65535) (hn:(lim n).length≤10000000):DM (lim n) d=some (lim (n/d.toNat),lim (n%d.toNat)):=by
 obtain ⟨q,r,h1,h2,h3,h4,h5,h6⟩:=O0 (BA n) (show 1≤d∧d≤65536 by omega) hn
 rw[Bi] at h6
 unfold DM
 rw[Kp (by unfold maxBytes; omega) (by unfold maxBytes; omega),wrapI (by omega) (by omega)]
 simp only[Option.bind_some,h1]
 rw[D3 (by unfold Brief; omega)]
 simp only[Option.bind_some]
 rw[D3 (by unfold Brief; simp)]
 simp only[Option.bind_some]
 rw[Dh h2,Dh (LB.cons (by omega) LB.nil)]
 obtain ⟨e1,e2⟩:=QN h6 h4 h5
 have hdn:d=(d.toNat:Int):=by omega
 have hv:=AH h2
 have q1:(val q).toNat=n/d.toNat:=by
  have:val q=((n/d.toNat:Nat):Int):=by rw[e1,hdn]; simp
  omega
 have q2:(val [r]).toNat=n%d.toNat:=by
  have:r=((n%d.toNat:Nat):Int):=by rw[e2,hdn]; simp
  simp only[val]
  omega
 rw[q1,q2]
end
section
open Go
section
variable {P v1 v2 vr top u2 ur q r v U:Int} (hP : 0<P) (hv1 : 1≤v1) (hv1':v1<65536) (hv2 : 0≤v2∧v2<65536) (hvr : 0≤vr∧vr<P) (hu2 : 0≤u2∧u2<65536) (hur : 0≤ur∧ur<P)
 (hv:v=(v1*65536 + v2)*P + vr) (hU:U=(top*65536 + u2)*P + ur) (hq:q*v1 + r=top) (hq0 : 0≤q)
include hP hv1 hv2 hvr hu2 hur hv hU hq hq0
theorem UL (h:q*v2>r*65536 + u2):U<q*v:=by
 have h1:q*(v1*65536 + v2)=(q*v1)*65536 + q*v2:=by grind
 have h2:top*65536 + u2 + 1≤q*(v1*65536 + v2):=by omega
 have h3:=Int.mul_le_mul_of_nonneg_right h2 (Int.le_of_lt hP)
 have h4 : 0≤q*vr:=Int.mul_nonneg hq0 hvr.1
 have h5:q*v=q*(v1*65536 + v2)*P + q*vr:=by rw[hv]; grind
 rw[Int.add_mul] at h3
 omega
theorem Xo (hq1:q<65536) (h:q*v2≤r*65536 + u2):q*v<U + v:=by
 have h1:q*(v1*65536 + v2)=(q*v1)*65536 + q*v2:=by grind
 have h2:q*(v1*65536 + v2)≤top*65536 + u2:=by omega
 have h3:=Int.mul_le_mul_of_nonneg_right h2 (Int.le_of_lt hP)
 have h4:q*vr≤65535*P:=Int.le_trans (Int.mul_le_mul_of_nonneg_left (Int.le_of_lt hvr.2) hq0) (Int.mul_le_mul_of_nonneg_right (by omega) (Int.le_of_lt hP))
 have h5:q*v=q*(v1*65536 + v2)*P + q*vr:=by rw[hv]; grind
 have h6 : 65536*P≤(v1*65536 + v2)*P:=Int.mul_le_mul_of_nonneg_right (by omega) (Int.le_of_lt hP)
 omega
theorem Ve (hq1:q<65536) (h : 65536≤r):q*v≤U:=by
 have h1:q*(v1*65536 + v2)=(q*v1)*65536 + q*v2:=by grind
 have h7:q*v2≤q*65535:=Int.mul_le_mul_of_nonneg_left (by omega) hq0
 have h2:q*(v1*65536 + v2) + 65536≤top*65536 + u2:=by omega
 have h3:=Int.mul_le_mul_of_nonneg_right h2 (Int.le_of_lt hP)
 have h4:q*vr≤65535*P:=Int.le_trans (Int.mul_le_mul_of_nonneg_left (Int.le_of_lt hvr.2) hq0) (Int.mul_le_mul_of_nonneg_right (by omega) (Int.le_of_lt hP))
 have h5:q*v=q*(v1*65536 + v2)*P + q*vr:=by rw[hv]; grind
 rw[Int.add_mul] at h3
 omega
end
theorem TJ {P' v1 vt top ut v U Q:Int} (hP : 0<P') (hv1 : 1≤v1) (hvt : 0≤vt) (hut:ut<P') (hv:v=v1*P' + vt) (hU:U=top*P' + ut) (hQ:Q*v≤U) (hQ0 : 0≤Q):Q≤top/v1:=by
 rw[Int.le_ediv_iff_mul_le (by omega)]
 by_cases h:Q*v1≤top
 ·exact h
 ·exfalso
  have h1:top + 1≤Q*v1:=by omega
  have h2:=Int.mul_le_mul_of_nonneg_right h1 (Int.le_of_lt hP)
  have h3 : 0≤Q*vt:=Int.mul_nonneg hQ0 hvt
  have h4:Q*v=Q*v1*P' + Q*vt:=by rw[hv]; grind
  rw[Int.add_mul] at h2
  omega
end
section
open Go
theorem Xm {x c:Int} (hx:x<65536) (hlo : -4294967296≤x) (hc:c=if x<0 then (-x + 65536-1)/65536 else 0) :
  0≤x + c*65536∧x + c*65536<65536∧0≤c∧c≤65536:=by
 subst hc
 split <;> omega
structure Off (u0 u:List Int) (j k:Nat) (c q:Int) (v:List Int):Prop where
 len:u.length=u0.length
 lb:LB u
 hi:∀ i,j + k≤i→dg u i=dg u0 i
 c0 : 0≤c
 c1:c≤65536
 v:val u-B (j + k)*c=val u0-B j*(q*val (v.take k))
theorem Off.start {u0:List Int} (h:LB u0) (j:Nat) (q:Int) (v:List Int):Off u0 u0 j 0 0 q v:=⟨rfl,h,fun _ _=>rfl,by omega,by omega,by simp[val]⟩
theorem Off.next {u0 u:List Int} {j k:Nat} {c q:Int} {v:List Int} (h:Off u0 u j k c q v) (hv:LB v) (hq : 0≤q∧q<65536) (hk:j + k<u.length) {c':Int} (hc:c'=if dg u (j + k)-q*dg v k-c<0 then (-(dg u (j + k)-q*dg v k-c) + 65536-1)/65536 else 0) :
  Off u0 (u.set (j + k) (dg u (j + k)-q*dg v k-c + c'*65536)) j (k + 1) c' q v:=by
 have du:=Bv h.lb (j + k)
 have dv:=Bv hv k
 have m0 : 0≤q*dg v k:=Int.mul_nonneg hq.1 dv.1
 have m1:q*dg v k≤65535*65535:=Int.le_trans (Int.mul_le_mul_of_nonneg_left (show dg v k≤65535 by omega) hq.1) (Int.mul_le_mul_of_nonneg_right (show q≤65535 by omega) (by omega))
 have hc0:=h.c0
 have hc1:=h.c1
 obtain ⟨s1,s2,s3,s4⟩:=Xm (x:=dg u (j + k)-q*dg v k-c) (by omega) (by omega) hc
 refine ⟨by rw[List.length_set]; exact h.len,h.lb.set ⟨s1,s2⟩,fun i hi=>by rw[B5 (by omega)]; exact h.hi i (by omega),s3,s4,?_⟩
 rw[Fs (AE hk),Dx,show j + (k + 1)=j + k + 1 by omega]
 have hv2:=h.v
 have e1:B (j + k + 1)*c'=B (j + k)*(c'*65536):=by simp only[B]; grind
 have e2:B j*(q*(val (v.take k) + B k*dg v k))=B j*(q*val (v.take k)) + B (j + k)*(q*dg v k):=by rw[Ql]; grind
 have e3:B (j + k)*(dg u (j + k)-q*dg v k-c + c'*65536-dg u (j + k))=B (j + k)*(c'*65536)-B (j + k)*(q*dg v k)-B (j + k)*c:=by grind
 rw[e1,e2,e3]
 omega
structure Back (u0 u:List Int) (j k:Nat) (c:Int) (v:List Int):Prop where
 len:u.length=u0.length
 lb:∀ i,i<j + v.length→0≤dg u i∧dg u i<65536
 hi:∀ i,j + k≤i→dg u i=dg u0 i
 c0 : 0≤c
 c1:c<65536
 v:val u + B (j + k)*c=val u0 + B j*val (v.take k)
theorem YC {l:List Int} {k j:Nat} {x:Int} (hk:k<l.length):dg (l.set k x) j=if j=k then x else dg l j:=by
 split
 ·rename_i h; subst h; exact Hy (by rw[List.getElem?_set_self hk])
 ·rename_i h; exact B5 (fun hh=>h hh.symm)
theorem Back.next {u0 u:List Int} {j k:Nat} {c:Int} {v:List Int} (h:Back u0 u j k c v) (hv:LB v) (hkv:k<v.length) (hk:j + k<u.length) :
  Back u0 (u.set (j + k) ((dg u (j + k) + dg v k + c)%65536)) j (k + 1) ((dg u (j + k) + dg v k + c)/65536) v:=by
 have du:=h.lb (j + k) (by omega)
 have dv:=Bv hv k
 have c0:=h.c0
 have c1:=h.c1
 refine ⟨by rw[List.length_set]; exact h.len,fun i hi=>?_,fun i hi=>by rw[B5 (by omega)]; exact h.hi i (by omega),by omega,by omega,?_⟩
 ·rw[YC hk]
  split
  ·omega
  ·exact h.lb i hi
 ·have:=TT (out:=u) (p:=j + k) (o:=dg u (j + k)) (d:=(dg u (j + k) + dg v k + c)%65536) (c:=c) (c':=(dg u (j + k) + dg v k + c)/65536) (t:=dg v k) (V:=val u0 + B j*val (v.take k)) (AE hk) (by omega) h.v
  rw[show j + (k + 1)=j + k + 1 by omega,this,Dx,Int.mul_add]
  have:B (j + k)*dg v k=B j*(B k*dg v k):=by rw[Ql]; grind
  omega
structure Guess (P v1 v2 vr top u2 ur V U Q:Int):Prop where
 hP : 0<P
 hv1 : 1≤v1
 hv1':v1<65536
 hv2 : 0≤v2∧v2<65536
 hvr : 0≤vr∧vr<P
 hu2 : 0≤u2∧u2<65536
 hur : 0≤ur∧ur<P
 hV:V=(v1*65536 + v2)*P + vr
 hU:U=(top*65536 + u2)*P + ur
 htop : 0≤top∧top<4294967296
 hQ:Q*V≤U
 hQ0 : 0≤Q
 hQ1:Q<65536
 hV0 : 0<V
end
section
open Go
theorem LL {j:Nat} {a b X Y:Int} (ha : 0≤a∧a<B j) (hb : 0≤b∧b<B j) (h:a + B j*X=b + B j*Y):X=Y:=by
 rcases Int.lt_trichotomy X Y with g | g | g
 ·exfalso
  have:=Int.mul_le_mul_of_nonneg_left (show X + 1≤Y by omega) (Int.le_of_lt (ET j))
  rw[Int.mul_add] at this
  omega
 ·exact g
 ·exfalso
  have:=Int.mul_le_mul_of_nonneg_left (show Y + 1≤X by omega) (Int.le_of_lt (ET j))
  rw[Int.mul_add] at this
  omega
theorem MY (l:List Int) (n k:Nat):dg (l.drop n) k=dg l (n + k):=by unfold dg; simp[List.getD_eq_getElem?_getD,List.getElem?_drop]
theorem Bf (l:List Int) (k:Nat):val (l.drop k)=dg l k + 65536*val (l.drop (k + 1)):=by
 rcases Nat.lt_or_ge k l.length with h | h
 ·rw[List.drop_eq_getElem_cons h,Hy (List.getElem?_eq_getElem h)]; rfl
 ·rw[List.drop_eq_nil_of_le h,List.drop_eq_nil_of_le (by omega),Rq h]; simp[val]
theorem OQ {l:List Int} (h:∀ i,i<l.length→0≤dg l i∧dg l i<65536):LB l:=fun x hx=>by
 obtain ⟨i,hi,rfl⟩:=List.getElem_of_mem hx
 have:=h i hi
 rwa [Hy (List.getElem?_eq_getElem hi)] at this
theorem Aa6 {l:List Int} {k i:Nat} (h:i<k):dg (l.take k) i=dg l i:=by unfold dg; simp[List.getD_eq_getElem?_getD,List.getElem?_take,h]
theorem Wc {l:List Int} {k:Nat} (h:∀ i,i<k→0≤dg l i∧dg l i<65536):LB (l.take k):=OQ fun i hi=>by
 rw[List.length_take] at hi
 rw[Aa6 (by omega)]
 exact h i (by omega)
theorem HV:∀ {l:List Int},(∀ i,dg l i=0)→val l=0
 | [],_=>rfl
 | x::l,h=>by
  have h0:=h 0
  have h1:val l=0:=HV fun i=>h (i + 1)
  simp only[val,h1]
  unfold dg at h0
  simp at h0
  omega
theorem A9 {l:List Int} (h:LB l) (k:Nat) : 0≤val (l.take k)∧val (l.take k)<B k:=by
 refine ⟨AH (h.take k),?_⟩
 have:=K9 (h.take k)
 have:=N8 (show (l.take k).length≤k by rw[List.length_take]; omega)
 omega
theorem ZL {l:List Int} (h:LB l) {n k:Nat} (hv:val l<B n) (hk:n≤k):dg l k=0∧val (l.drop k)=0:=by
 have h1:=A6 l k
 have h2:=AH (h.take k)
 have h3:=AH (h.drop k)
 have h4:=N8 hk
 have h5:val (l.drop k)=0:=by
  rcases Int.lt_or_le 0 (val (l.drop k)) with g | g
  ·have:=Int.mul_le_mul_of_nonneg_left (show 1≤val (l.drop k) by omega) (Int.le_of_lt (ET k))
   omega
  ·omega
 have h6:=Bf l k
 have h7:=Bv h k
 have h8:=AH (h.drop (k + 1))
 exact ⟨by omega,h5⟩
structure Place (u v:List Int) (j m:Nat):Prop where
 lu:LB u
 lv:LB v
 hv:v.length=m + 2
 top : 1≤dg v (m + 1)
 len:j + m + 2<u.length
 less:val (u.drop (j + 1))<val v
section
variable {u v:List Int} {j m:Nat} (H:Place u v j m)
include H
theorem Place.pos : 0<val v:=by
 have h1:=A6 v (m + 1)
 have h2:=AH (H.lv.take (m + 1))
 have h3:=Bf v (m + 1)
 have h4:=AH (H.lv.drop (m + 1 + 1))
 have h5:=H.top
 have h6:=Int.mul_le_mul_of_nonneg_left (show 1≤val (v.drop (m + 1)) by omega) (Int.le_of_lt (ET (m + 1)))
 have h7:=ET (m + 1)
 omega
theorem Place.lt:val v<B (m + 2):=by have:=K9 H.lv; rwa [H.hv] at this
theorem Place.high {k:Nat} (hk:j + m + 3≤k):dg u k=0∧val (u.drop k)=0:=by
 have h1:=ZL (H.lu.drop (j + 1)) (n:=m + 2) (k:=k-(j + 1)) (by have:=H.less; have:=H.lt; omega) (by omega)
 rw[MY,List.drop_drop,show j + 1 + (k-(j + 1))=k by omega] at h1
 exact h1
theorem Place.rest : 0≤val (u.drop j)∧val (u.drop j)<65536*val v:=by
 refine ⟨AH (H.lu.drop j),?_⟩
 have h1:=Bf u j
 have h2:=Bv H.lu j
 have h3:=H.less
 omega
theorem Place.quot : 0≤val (u.drop j)/val v∧val (u.drop j)/val v<65536:=by
 obtain ⟨h1,h2⟩:=H.rest
 have h3:=H.pos
 exact ⟨Int.ediv_nonneg h1 (by omega),Int.ediv_lt_of_lt_mul h3 h2⟩
theorem Place.mod : 0≤val (u.drop j)-val (u.drop j)/val v*val v∧val (u.drop j)-val (u.drop j)/val v*val v<val v:=by
 have h1:=Int.emod_add_mul_ediv (val (u.drop j)) (val v)
 have h2:=Int.emod_nonneg (val (u.drop j)) (show val v≠0 by have:=H.pos; omega)
 have h3:=Int.emod_lt_of_pos (val (u.drop j)) H.pos
 rw[Int.mul_comm] at h1
 omega
theorem Place.guess:Guess (B m) (dg v (m + 1)) (dg v m) (val (v.take m)) (dg u (j + m + 2)*65536 + dg u (j + m + 1)) (dg u (j + m)) (val ((u.drop j).take m)) (val v) (val (u.drop j)) (val (u.drop j)/val v):=by
 have d1:=Bv H.lu (j + m + 1)
 have d2:=Bv H.lu (j + m + 2)
 have hm:=H.mod
 have hq:=H.quot
 refine ⟨ET m,H.top,(Bv H.lv _).2,Bv H.lv _,A9 H.lv m,Bv H.lu _,A9 (H.lu.drop j) m,?_,?_,by omega,by omega,hq.1,hq.2,H.pos⟩
 ·rw[A6 v m,Bf v m,Bf v (m + 1),List.drop_eq_nil_of_le (show v.length≤m + 1 + 1 by rw[H.hv]; omega)]
  simp only[val]
  grind
 ·rw[A6 (u.drop j) m,List.drop_drop,Bf u (j + m),Bf u (j + m + 1),Bf u (j + m + 1 + 1),(H.high (k:=j + m + 1 + 1 + 1) (by omega)).2,show j + m + 1 + 1=j + m + 2 by omega]
  grind
theorem Place.after {u4:List Int} (hl:u4.length=u.length) (hg:∀ i,i<j + m + 2→0≤dg u4 i∧dg u4 i<65536) (hh:∀ i,j + m + 2<i→dg u4 i=dg u i) {x:Int} (hv:val u4=val u-B j*(x*val v)) :
  val (u4.drop j)=val (u.drop j)-x*val v∧∃ X,0≤X∧X<B (m + 2)∧val (u.drop j)-x*val v=X + B (m + 2)*dg u4 (j + m + 2):=by
 have e1:val (u4.drop j)=val (u.drop j)-x*val v:=by
  have h1:=A6 u4 j
  have h2:=A6 u j
  have h3:=A9 H.lu j
  have h4:LB (u4.take j):=Wc fun i hi=>hg i (by omega)
  have h5:=A9 h4 j
  rw[List.take_take,Nat.min_self] at h5
  refine LL (j:=j) h5 h3 ?_
  rw[Int.mul_sub]
  omega
 refine ⟨e1,val ((u4.drop j).take (m + 2)),?_⟩
 have h4:LB ((u4.drop j).take (m + 2)):=Wc fun i hi=>by rw[MY]; exact hg _ (by omega)
 have h5:=A9 h4 (m + 2)
 rw[List.take_take,Nat.min_self] at h5
 refine ⟨h5.1,h5.2,?_⟩
 rw[←e1,A6 (u4.drop j) (m + 2),List.drop_drop,Bf u4 (j + (m + 2)),HV (l:=u4.drop (j + (m + 2) + 1)) fun i=>by rw[MY,hh _ (by omega)]; exact (H.high (by omega)).1]
 rw[show j + (m + 2)=j + m + 2 by omega,Int.mul_zero,Int.add_zero]
theorem Place.done {u4:List Int} (hl:u4.length=u.length) (hg:∀ i,i<j + m + 2→0≤dg u4 i∧dg u4 i<65536) (hh:∀ i,j + m + 2<i→dg u4 i=dg u i) {x:Int} (hv:val u4=val u-B j*(x*val v))
  (hx : 0≤val (u.drop j)-x*val v∧val (u.drop j)-x*val v<val v):dg u4 (j + m + 2)=0∧LB u4∧val (u4.drop j)<val v:=by
 obtain ⟨h1,X,h2,h3,h4⟩:=H.after hl hg hh hv
 have h0:dg u4 (j + m + 2)=0:=by
  have:=H.lt
  exact (LL (j:=m + 2) (a:=val (u.drop j)-x*val v) (b:=X) (X:=0) (by omega) (by omega) (by rw[h4]; simp)).symm
 refine ⟨h0,OQ fun i hi=>?_,by omega⟩
 rcases Nat.lt_trichotomy i (j + m + 2) with g | g | g
 ·exact hg i g
 ·rw[g,h0]; omega
 ·rw[hh i g]; exact Bv H.lu i
theorem Place.one {q:Int} (h1:val (u.drop j)/val v≤q) (h2:q*val v<val (u.drop j) + val v):q=val (u.drop j)/val v∨q=val (u.drop j)/val v + 1:=by
 have hm:=H.mod
 have hp:=H.pos
 rcases Int.lt_or_le (val (u.drop j)/val v + 1) q with g | g
 ·exfalso
  have:=Int.mul_le_mul_of_nonneg_right (show val (u.drop j)/val v + 2≤q by omega) (Int.le_of_lt hp)
  rw[Int.add_mul] at this
  omega
 ·omega
end
end
section
open Go
theorem Place.start {u v:List Int} {j m:Nat} (H:Place u v j m):val (u.drop j)/val v≤(dg u (j + m + 2)*65536 + dg u (j + m + 1))/dg v (m + 1):=by
 have G:=H.guess
 have hu2:=G.hu2
 have hur:=G.hur
 have hP:=G.hP
 have hv2:=G.hv2
 have hvr:=G.hvr
 have h1:dg u (j + m)*B m≤65535*B m:=Int.mul_le_mul_of_nonneg_right (by omega) (by omega)
 have h2 : 0≤dg v m*B m:=Int.mul_nonneg hv2.1 (by omega)
 exact TJ (P':=65536*B m) (vt:=dg v m*B m + val (v.take m)) (ut:=dg u (j + m)*B m + val ((u.drop j).take m)) (v:=val v) (U:=val (u.drop j)) (by omega) G.hv1 (by omega) (by omega) (by rw[G.hV]; grind) (by rw[G.hU]; grind) G.hQ G.hQ0
end
section
open Go
structure Places (u0 v:List Int) (m n:Nat) (u out:List Int):Prop where
 len:u.length=u0.length
 lu:LB u
 le:n + (m + 2)≤u0.length
 less:val (u.drop n)<val v
 lo:LB out
 olen:out.length + (m + 2)=u0.length
 zero:∀ i,i<n→dg out i=0
 v:val u + val v*val out=val u0
theorem Places.place {u0 v u out:List Int} {m n:Nat} (h:Places u0 v m (n + 1) u out) (hv:LB v) (hvl:v.length=m + 2) (ht : 1≤dg v (m + 1)):Place u v n m :=
 ⟨h.lu,hv,hvl,ht,by have:=h.le; have:=h.len; omega,h.less⟩
theorem Places.next {u0 v u out u':List Int} {m n:Nat} (h:Places u0 v m (n + 1) u out) (H:Place u v n m) (h1:u'.length=u.length) (h2:LB u') (h3:val u'=val u-B n*(val (u.drop n)/val v*val v)) (h4:val (u'.drop n)<val v) :
  Places u0 v m n u' (out.set n (val (u.drop n)/val v)):=by
 have hle:=h.le
 have hol:=h.olen
 refine ⟨h1.trans h.len,h2,by omega,h4,h.lo.set H.quot,by rw[List.length_set]; exact hol,fun i hi=>by rw[B5 (by omega)]; exact h.zero i (by omega),?_⟩
 have hz:=h.zero n (by omega)
 rw[Fs (AE (show n<out.length by omega)),hz,h3,Int.sub_zero,Int.mul_add]
 have:=h.v
 have e:val v*(B n*(val (u.drop n)/val v))=B n*(val (u.drop n)/val v*val v):=by grind
 omega
theorem Places.start {u0 v:List Int} {m n:Nat} (hu:LB u0) (hv:LB v) (hvl:v.length=m + 2) (ht : 1≤dg v (m + 1)) (hn:u0.length=n + (m + 2)) (h0:dg u0 (n + (m + 1))=0):Places u0 v m n u0 (List.replicate n 0):=by
 refine ⟨rfl,hu,by omega,?_,LB.zeros n,by simp; omega,fun i hi=>by unfold dg; rw[List.getD_eq_getElem?_getD,List.getElem?_replicate]; split <;> rfl,by rw[D8]; omega⟩
 have h1:=A6 (u0.drop n) (m + 1)
 have h2:=A9 (hu.drop n) (m + 1)
 rw[List.drop_drop,Bf u0 (n + (m + 1)),h0,List.drop_eq_nil_of_le (show u0.length≤n + (m + 1) + 1 by omega)] at h1
 simp only[val] at h1
 have h3:=A6 v (m + 1)
 have h4:=AH (hv.take (m + 1))
 have h5:=Bf v (m + 1)
 have h6:=AH (hv.drop (m + 1 + 1))
 have h7:=Int.mul_le_mul_of_nonneg_left (show 1≤val (v.drop (m + 1)) by omega) (Int.le_of_lt (ET (m + 1)))
 omega
theorem Places.end {u0 v u out:List Int} {m:Nat} (h:Places u0 v m 0 u out) (hv:LB v):val out=val u0/val v∧val u=val u0%val v:=by
 have h1:=h.less
 rw[List.drop_zero] at h1
 exact QN (by rw[Int.mul_comm]; have:=h.v; omega) (AH h.lu) h1
theorem VY {n:Nat} (h:n≠0) : 1≤dg (lim n) ((lim n).length-1)∧dg (lim n) ((lim n).length-1)<65536∧B ((lim n).length-1)*dg (lim n) ((lim n).length-1)≤n∧(n:Int)<B ((lim n).length-1)*(dg (lim n) ((lim n).length-1) + 1):=by
 have hne:(lim n).length≠0:=fun hh=>h (MP.1 (List.eq_nil_of_length_eq_zero hh))
 have h1:=A6 (lim n) ((lim n).length-1)
 have h2:=A9 (BA n) ((lim n).length-1)
 rw[Bf,List.drop_eq_nil_of_le (show (lim n).length≤(lim n).length-1 + 1 by omega),Bi] at h1
 simp only[val,Int.mul_zero,Int.add_zero] at h1
 have h3:=Bv (BA n) ((lim n).length-1)
 refine ⟨?_,h3.2,by omega,by rw[Int.mul_add]; omega⟩
 rcases Int.lt_or_le 0 (dg (lim n) ((lim n).length-1)) with g | g
 ·omega
 ·exfalso
  have g0:dg (lim n) ((lim n).length-1)=0:=by omega
  refine O1 n _ (List.getLast?_eq_getElem? .. ▸ AE (show (lim n).length-1<(lim n).length by omega)) g0
end
section
open Go
theorem IF {l:List Int} {n:Int} {i:Nat} (hn:n=(i:Int)) (h:i<l.length):getI l n=some (dg l i):=by rw[hn,Ah]; exact AE h
theorem ZH {b:Nat} (h:(lim b).length=1):(lim b) = [(b:Int)]∧b<65536∧b≠0:=by
 match hl:lim b with
 | []=>rw[hl] at h; simp at h
 | [x] =>
  have hv:=Bi b
  have hb:=BA b
  rw[hl] at hv hb
  have h0:=hb.head
  simp only[val] at hv
  have:b≠0:=fun h0=>by rw[h0,DF] at hl; simp at hl
  exact ⟨by congr 1; omega,by omega,this⟩
 | x::y::l=>rw[hl] at h; simp at h
theorem Uo {a b c:Nat} (hc : 0<c):a*c/(b*c)=a/b∧a*c%(b*c)=a%b*c:=⟨Nat.mul_div_mul_right _ _ hc,Nat.mul_mod_mul_right _ _ _⟩
end
section
open Go
theorem Tb (v:List Int) (k:Nat):dg (v ++ [0]) k=dg v k:=by
 unfold dg
 simp only[List.getD_eq_getElem?_getD]
 rcases Nat.lt_or_ge k v.length with h | h
 ·rw[List.getElem?_append_left h]
 ·rw[List.getElem?_append_right h,List.getElem?_eq_none h]
  rcases Nat.eq_zero_or_pos (k-v.length) with g | g
  ·rw[g]; rfl
  ·rw[List.getElem?_eq_none (by simp; omega)]
theorem QE (v:List Int):val (v ++ [0])=val v:=by rw[R9]; omega
theorem Th {v:List Int} (h:LB v):LB (v ++ [0]):=h.append (LB.cons (by omega) LB.nil)
theorem Ac1 {u0 v:List Int} {q:Int} {j:Nat} (hu:LB u0) (hv:LB v) (hq : 0≤q∧q<65536) (hlen:j + v.length<u0.length) (hl:u0.length≤1000000) :
  ∃ u c,EG u0 v (j:Int) q=some (u,c)∧Off u0 u j (v.length + 1) c q (v ++ [0]):=by
 obtain ⟨⟨u,c⟩,h1,h2⟩:=Cm (body:=fun (s:((List Int)×((List Int)×(Int×(Int×(Int×Int))))))=>DX s.1 s.2.1 s.2.2.1 s.2.2.2.1 s.2.2.2.2.1 s.2.2.2.2.2)
  (st:=fun k (b:List Int×Int)=>(b.1,(v,((j:Int),(q,(b.2,(k:Int))))))) (fin:=fun b=>(b.1,b.2)) (I:=fun k b=>Off u0 b.1 j k b.2 q (v ++ [0])) (e:=v.length + 1)
  (by
   rintro k ⟨u,c⟩ hk hI
   simp only at hI
   have hul:=hI.len
   have hp:j + k<u.length:=by omega
   have du:=Bv hI.lb (j + k)
   have dv:=Bv hv k
   have c0:=hI.c0
   have c1:=hI.c1
   have m0 : 0≤q*dg v k:=Int.mul_nonneg hq.1 dv.1
   have m1:q*dg v k≤65535*65535:=Int.le_trans (Int.mul_le_mul_of_nonneg_left (show dg v k≤65535 by omega) hq.1) (Int.mul_le_mul_of_nonneg_right (show q≤65535 by omega) (by omega))
   have hnx:=hI.next (Th hv) hq hp rfl
   rw[Tb] at hnx
   refine ⟨(u.set (j + k) (dg u (j + k)-q*dg v k-c + (if dg u (j + k)-q*dg v k-c<0 then (-(dg u (j + k)-q*dg v k-c) + 65536-1)/65536 else 0)*65536),if dg u (j + k)-q*dg v k-c<0 then (-(dg u (j + k)-q*dg v k-c) + 65536-1)/65536 else 0),?_,hnx⟩
   unfold DX getN
   dsimp only
   have i1:idxI ((j:Int) + (k:Int)) u.length=some (j + k):=by rw[show (j:Int) + (k:Int)=((j + k:Nat):Int) by omega]; exact BX hp
   have hw1:=wrap1 (show k<4611686018427387904 by omega)
   have hjk:=wrapI (n:=(j:Int) + (k:Int)) (by omega) (by omega)
   rw[decide_eq_true (by omega),hjk]
   simp only[cond_true,i1,Option.bind_some,AE hp,Ow]
   rw[wrapI (n:=q*dg v k) (by omega) (by omega),wrapI (n:=dg u (j + k)-q*dg v k) (by omega) (by omega),wrapI (n:=dg u (j + k)-q*dg v k-c) (by omega) (by omega)]
   have hxb : -4294967296≤dg u (j + k)-q*dg v k-c∧dg u (j + k)-q*dg v k-c<65536:=by omega
   generalize dg u (j + k)-q*dg v k-c=x at *
   by_cases hx:x<0
   ·rw[decide_eq_true hx,if_pos hx,wrapI (n:=0-x) (by omega) (by omega),wrapI (n:=0-x + 65536) (by omega) (by omega),wrapI (n:=0-x + 65536-1) (by omega) (by omega),Int.tdiv_eq_ediv_of_nonneg (by omega),show 0-x + 65536-1 = -x + 65536-1 by omega]
    rw[wrapI (n:=(-x + 65536-1)/65536) (by omega) (by omega),wrapI (n:=(-x + 65536-1)/65536*65536) (by omega) (by omega),wrapI (n:=x + (-x + 65536-1)/65536*65536) (by omega) (by omega)]
    simp only[cond_true,Option.bind_some,Sum.elim_inr,hjk,i1,AE hp,hw1]
   ·rw[decide_eq_false hx,if_neg hx]
    simp only[cond_false,Option.bind_some,Sum.elim_inr,hjk,i1,AE hp,hw1,Int.zero_mul,Int.add_zero])
  (by
   rintro ⟨u,c⟩ _
   unfold DX
   dsimp only
   rw[decide_eq_false (by omega)]
   rfl) 0 (u0,0) (by omega) (Off.start hu j q (v ++ [0]))
 refine ⟨u,c,?_,h2⟩
 unfold EG
 dsimp only at h1
 rw[show ((0:Nat):Int)=0 from rfl] at h1
 rw[h1]
 rfl
theorem Ad9 {u0 v:List Int} {j:Nat} (hu:LB u0) (hv:LB v) (hlen:j + v.length<u0.length) (hl:u0.length≤1000000) :
  ∃ u c,Fi u0 v (j:Int)=some u∧Back u0 u j (v.length + 1) c (v ++ [0]):=by
 obtain ⟨⟨u,c⟩,h1,h2⟩:=Cm (body:=fun (s:((List Int)×((List Int)×(Int×(Int×Int)))))=>DU s.1 s.2.1 s.2.2.1 s.2.2.2.1 s.2.2.2.2)
  (st:=fun k (b:List Int×Int)=>(b.1,(v,((j:Int),(b.2,(k:Int)))))) (fin:=fun b=>b.1) (I:=fun k b=>Back u0 b.1 j k b.2 (v ++ [0])) (e:=v.length + 1)
  (by
   rintro k ⟨u,c⟩ hk hI
   simp only at hI
   have hul:=hI.len
   have hp:j + k<u.length:=by omega
   have du:=hI.lb (j + k) (by simp; omega)
   have dv:=Bv hv k
   have c0:=hI.c0
   have c1:=hI.c1
   have hnx:=hI.next (Th hv) (by simp; omega) hp
   rw[Tb] at hnx
   refine ⟨⟨_,_⟩,?_,hnx⟩
   unfold DU getN
   dsimp only
   have i1:idxI ((j:Int) + (k:Int)) u.length=some (j + k):=by rw[show (j:Int) + (k:Int)=((j + k:Nat):Int) by omega]; exact BX hp
   have hw1:=wrap1 (show k<4611686018427387904 by omega)
   have hjk:=wrapI (n:=(j:Int) + (k:Int)) (by omega) (by omega)
   rw[decide_eq_true (by omega),hjk]
   simp only[cond_true,i1,Option.bind_some,AE hp,Ow]
   rw[wrapI (n:=dg u (j + k) + dg v k) (by omega) (by omega),wrapI (n:=dg u (j + k) + dg v k + c) (by omega) (by omega),Int.tmod_eq_emod_of_nonneg (by omega),Int.tdiv_eq_ediv_of_nonneg (by omega),wrapI (n:=(dg u (j + k) + dg v k + c)/65536) (by omega) (by omega),hw1])
  (by
   rintro ⟨u,c⟩ _
   unfold DU
   dsimp only
   rw[decide_eq_false (by omega)]
   rfl) 0 (u0,0) (by omega) ⟨rfl,fun i _=>Bv hu i,fun _ _=>rfl,by simp only; omega,by simp only; omega,by simp[val]⟩
 refine ⟨u,c,?_,h2⟩
 unfold Fi
 dsimp only at h1
 rw[show ((0:Nat):Int)=0 from rfl] at h1
 rw[h1]
 rfl
theorem ZZ {u v:List Int} {j m:Nat} (H:Place u v j m) (hl:u.length≤1000000) :
  ∃ q,DE u v (j:Int)=some q∧val (u.drop j)/val v≤q∧q<65536∧q*val v<val (u.drop j) + val v:=by
 have G:=H.guess
 have hv:=H.hv
 have hlen:=H.len
 have hrest:=H.rest
 have hst:=H.start
 have d1:=Bv H.lu (j + m + 1)
 have d2:=Bv H.lu (j + m + 2)
 have hu:j + m<u.length:=by omega
 have htop65:dg u (j + m + 2)*65536 + dg u (j + m + 1)<65536*(dg v (m + 1) + 1):=by
  have hP:=G.hP
  have hU:=G.hU
  have hV:=G.hV
  have hv2:=G.hv2
  have hvr:=G.hvr
  have hu2:=G.hu2
  have hur:=G.hur
  rcases Int.lt_or_le (dg u (j + m + 2)*65536 + dg u (j + m + 1)) (65536*(dg v (m + 1) + 1)) with h | h
  ·exact h
  ·exfalso
   generalize dg u (j + m + 2)*65536 + dg u (j + m + 1)=top at *
   generalize dg v (m + 1)=v1 at *
   generalize dg v m=v2 at *
   generalize dg u (j + m)=u2 at *
   generalize val (v.take m)=vr at *
   generalize val ((u.drop j).take m)=ur at *
   have e1:=Int.mul_le_mul_of_nonneg_right (show 65536*(v1 + 1)*65536≤top*65536 + u2 by omega) (Int.le_of_lt hP)
   have e2:=Int.mul_le_mul_of_nonneg_right (show v1*65536 + v2 + 1≤(v1 + 1)*65536 by omega) (Int.le_of_lt hP)
   rw[Int.add_mul,Int.one_mul] at e2
   have e3 : 65536*(v1 + 1)*65536*B m=65536*((v1 + 1)*65536*B m):=by grind
   omega
 have hv1:=G.hv1
 have hv1':=G.hv1'
 have htop0 : 0≤dg u (j + m + 2)*65536 + dg u (j + m + 1):=by omega
 have e1:=Int.emod_add_mul_ediv (dg u (j + m + 2)*65536 + dg u (j + m + 1)) (dg v (m + 1))
 have e2:=Int.emod_nonneg (dg u (j + m + 2)*65536 + dg u (j + m + 1)) (show dg v (m + 1)≠0 by omega)
 have e3:(dg u (j + m + 2)*65536 + dg u (j + m + 1))/dg v (m + 1)≤dg u (j + m + 2)*65536 + dg u (j + m + 1):=Int.ediv_le_self _ htop0
 have e4:=Int.ediv_nonneg htop0 (show 0≤dg v (m + 1) by omega)
 have w1:=wrapI (n:=dg u (j + m + 2)*65536) (by omega) (by omega)
 have w2:=wrapI (n:=dg u (j + m + 2)*65536 + dg u (j + m + 1)) (by omega) (by omega)
 have w3:=wrapI (n:=(dg u (j + m + 2)*65536 + dg u (j + m + 1))/dg v (m + 1)) (by omega) (by omega)
 have g1:getI u (IntKind.wrap .i64 ((j:Int) + (v.length:Int)))=some (dg u (j + m + 2)):=IF (by rw[wrapI (by omega) (by omega)]; omega) (by omega)
 have g2:getI u (IntKind.wrap .i64 (IntKind.wrap .i64 ((j:Int) + (v.length:Int))-1))=some (dg u (j + m + 1)):=IF (by rw[wrapI (n:=(j:Int) + (v.length:Int)) (by omega) (by omega),wrapI (by omega) (by omega)]; omega) (by omega)
 have g3:getI v (IntKind.wrap .i64 ((v.length:Int)-1))=some (dg v (m + 1)):=IF (by rw[wrapI (by omega) (by omega)]; omega) (by omega)
 have g4:getI v (IntKind.wrap .i64 ((v.length:Int)-2))=some (dg v m):=IF (by rw[wrapI (by omega) (by omega)]; omega) (by omega)
 have g5:getI u (IntKind.wrap .i64 (IntKind.wrap .i64 ((j:Int) + (v.length:Int))-2))=some (dg u (j + m)):=IF (by rw[wrapI (n:=(j:Int) + (v.length:Int)) (by omega) (by omega),wrapI (by omega) (by omega)]; omega) (by omega)
 have hz:(dg v (m + 1)==0)=false:=beq_eq_false_iff_ne.2 (by omega)
 obtain ⟨r,h1,h2⟩:=KN (f:=fun (s:((List Int)×((List Int)×(Int×(Int×(Int×Int))))))=>B0 s.1 s.2.1 s.2.2.1 s.2.2.2.1 s.2.2.2.2.1 s.2.2.2.2.2)
  (I:=fun s=>∃ q r:Int,s=(u,(v,((j:Int),((v.length:Int),(q,r)))))∧q*dg v (m + 1) + r=dg u (j + m + 2)*65536 + dg u (j + m + 1)∧0≤r∧val (u.drop j)/val v≤q∧q<4294967296)
  (R:=fun q=>val (u.drop j)/val v≤q∧q<65536∧q*val v<val (u.drop j) + val v) (fun s=>s.2.2.2.2.1.toNat) (by
   rintro s ⟨q,r,rfl,f1,f2,f3,f4⟩
   simp only
   have hQ0:=G.hQ0
   have hQ1:=G.hQ1
   have hv2:=G.hv2
   have hu2:=G.hu2
   have htop:=G.htop
   have hqv : 0≤q*dg v (m + 1):=Int.mul_nonneg (by omega) (by omega)
   have hqv2 : 0≤q*dg v m:=Int.mul_nonneg (by omega) hv2.1
   have hqv2':q*dg v m≤4294967296*65536:=Int.le_trans (Int.mul_le_mul_of_nonneg_left (show dg v m≤65536 by omega) (by omega)) (Int.mul_le_mul_of_nonneg_right (show q≤4294967296 by omega) (by omega))
   have w5:=wrapI (n:=q*dg v m) (by omega) (by omega)
   have w6:=wrapI (n:=r*65536) (by omega) (by omega)
   have w7:=wrapI (n:=r*65536 + dg u (j + m)) (by omega) (by omega)
   have w8:=wrapI (n:=q-1) (by omega) (by omega)
   have w9:=wrapI (n:=r + dg v (m + 1)) (by omega) (by omega)
   have less:∀ (hgo:val (u.drop j)/val v≤q-1),∃ q' r':Int,(u,(v,((j:Int),((v.length:Int),(q-1,r + dg v (m + 1))))))=(u,(v,((j:Int),((v.length:Int),(q',r')))))∧q'*dg v (m + 1) + r'=dg u (j + m + 2)*65536 + dg u (j + m + 1)∧0≤r'∧val (u.drop j)/val v≤q'∧q'<4294967296:=by
    intro hgo
    exact ⟨q-1,r + dg v (m + 1),rfl,by rw[Int.sub_mul]; omega,by omega,hgo,by omega⟩
   by_cases c2:r<65536
   ·by_cases c1:q≥65536
    ·refine .inl ⟨(u,(v,((j:Int),((v.length:Int),(q-1,r + dg v (m + 1)))))),?_,less (by omega),by simp only; omega⟩
     unfold B0
     rw[decide_eq_true c2,decide_eq_true c1]
     simp only[cond_true,Option.bind_some,Sum.elim_inl,Sum.elim_inr,g3,w8,w9]
    ·by_cases c3:q*dg v m>r*65536 + dg u (j + m)
     ·have hlt:=UL G.hP G.hv1 G.hv2 G.hvr G.hu2 G.hur G.hV G.hU f1 (by omega) c3
      have hne:val (u.drop j)/val v≤q-1:=by
       rcases Int.lt_or_le (q-1) (val (u.drop j)/val v) with h | h
       ·have:q=val (u.drop j)/val v:=by omega
        have:=G.hQ
        subst q
        omega
       ·exact h
      refine .inl ⟨(u,(v,((j:Int),((v.length:Int),(q-1,r + dg v (m + 1)))))),?_,less hne,by simp only; omega⟩
      unfold B0
      rw[decide_eq_true c2,decide_eq_false c1]
      simp only[cond_true,cond_false,Option.bind_some,g4,g5,w5,w6,w7,decide_eq_true c3,Sum.elim_inr,g3,w8,w9]
     ·refine .inr ⟨q,?_,f3,by omega,Xo G.hP G.hv1 G.hv2 G.hvr G.hu2 G.hur G.hV G.hU f1 (by omega) (by omega) (by omega)⟩
      unfold B0
      rw[decide_eq_true c2,decide_eq_false c1]
      simp only[cond_true,cond_false,Option.bind_some,g4,g5,w5,w6,w7,decide_eq_false c3,Sum.elim_inl]
   ·have hq65:q<65536:=by
     rcases Int.lt_or_le q 65536 with h | h
     ·exact h
     ·exfalso
      have:=Int.mul_le_mul_of_nonneg_right h (show 0≤dg v (m + 1) by omega)
      omega
    have hle:=Ve G.hP G.hv1 G.hv2 G.hvr G.hu2 G.hur G.hV G.hU f1 (by omega) hq65 (by omega)
    have hV0:=G.hV0
    refine .inr ⟨q,?_,f3,hq65,by omega⟩
    unfold B0
    rw[decide_eq_false c2]
    rfl) (u,(v,((j:Int),((v.length:Int),((dg u (j + m + 2)*65536 + dg u (j + m + 1))/dg v (m + 1),(dg u (j + m + 2)*65536 + dg u (j + m + 1))%dg v (m + 1)))))) ⟨_,_,rfl,by rw[Int.mul_comm]; omega,e2,hst,by omega⟩
 refine ⟨r,?_,h2⟩
 unfold DE
 simp only[g1,g2,g3,Option.bind_some,hz,cond_false,w1,w2,Int.tdiv_eq_ediv_of_nonneg htop0,Int.tmod_eq_emod_of_nonneg htop0,w3]
 rw[h1]
 rfl
theorem Place.part {u v u':List Int} {j m:Nat} (H:Place u v j m) (h1:u'.length=u.length) (h2:LB u') (h3:∀ i,j + m + 3≤i→dg u' i=dg u i) {W e:Int} (h4:val u'=val u-B j*W + B (j + m + 3)*e) :
  val (u'.drop j)=val (u.drop j)-W + B (m + 3)*e∧0≤val (u'.drop j)∧val (u'.drop j)<B (m + 3):=by
 have hz:val (u'.drop (j + (m + 3)))=0:=HV fun i=>by rw[MY,h3 _ (by omega)]; exact (H.high (by omega)).1
 have p1:=A6 (u'.drop j) (m + 3)
 rw[List.drop_drop,hz] at p1
 have p2:=A9 (h2.drop j) (m + 3)
 have p3:=A6 u' j
 have p4:=A6 u j
 have p5:=A9 h2 j
 have p6:=A9 H.lu j
 refine ⟨?_,by omega,by omega⟩
 refine LL p5 p6 ?_
 have e1:B (j + m + 3)*e=B j*(B (m + 3)*e):=by rw[show j + m + 3=j + (m + 3) by omega,Ql]; grind
 rw[Int.mul_add,Int.mul_sub]
 omega
set_option maxHeartbeats 1000000 in
theorem Zy {u v out:List Int} {bits:Int} {j m:Nat} (H:Place u v j m) (hl:u.length≤1000000) (hj:j<out.length) :
  ∃ u',AY u v out bits (j:Int)=some (.inl (u',(v,(out.set j (val (u.drop j)/val v),(bits,(j:Int)-1))))) ∧
   u'.length=u.length∧LB u'∧val u'=val u-B j*(val (u.drop j)/val v*val v)∧val (u'.drop j)<val v:=by
 have hlen:=H.len
 have hvl:=H.hv
 have hQ:=H.quot
 have hmod:=H.mod
 have hlt:=H.lt
 have hpos:=H.pos
 have hB3:B (m + 3)=65536*B (m + 2):=rfl
 obtain ⟨q,hg1,hg2,hg3,hg4⟩:=ZZ H hl
 obtain ⟨u1,c,ht1,O⟩:=Ac1 (j:=j) (q:=q) H.lu H.lv ⟨by omega,hg3⟩ (by omega) hl
 have ov:=O.v
 have ol:=O.len
 have oc0:=O.c0
 rw[List.take_of_length_le (by simp),QE,hvl,show j + (m + 2 + 1)=j + m + 3 by omega] at ov
 have oh:=O.hi
 rw[hvl,show j + (m + 2 + 1)=j + m + 3 by omega] at oh
 obtain ⟨p1,p2,p3⟩:=H.part ol O.lb oh (W:=q*val v) (e:=c) (by omega)
 have hge:decide ((j:Int)≥0)=true:=decide_eq_true (by omega)
 have w5:=wrapI (n:=(j:Int)-1) (by omega) (by omega)
 have hj0:idxI (j:Int) out.length=some j:=BX hj
 have gout:getN out j=some (dg out j):=AE hj
 have hBp:=ET (m + 3)
 rcases H.one hg2 hg4 with hq | hq
 ·have hc:c=0:=by
   rw[hq] at p1
   have:=LL (j:=m + 3) (a:=val (u1.drop j)) (b:=val (u.drop j)-val (u.drop j)/val v*val v) (X:=0) (Y:=c) ⟨p2,p3⟩ (by omega) (by omega)
   exact this.symm
  subst hc
  refine ⟨u1,?_,ol,O.lb,by rw[hq] at ov; omega,by rw[hq] at p1; omega⟩
  unfold AY
  simp only[hge,cond_true,hg1,ht1,Option.bind_some,ol,decide_true,show decide ((0:Int)>0)=false from rfl,cond_false,hj0,gout,w5]
  rw[hq]
 ·have hqv:q*val v=val (u.drop j)/val v*val v + val v:=by rw[hq,Int.add_mul,Int.one_mul]
  have hc:c=1:=by
   have:=LL (j:=m + 3) (a:=val (u1.drop j)) (b:=val (u.drop j)-q*val v + B (m + 3)) (X:=1) (Y:=c) ⟨p2,p3⟩ (by omega) (by omega)
   exact this.symm
  subst hc
  obtain ⟨u2,c2,hb1,K⟩:=Ad9 (u0:=u1) (v:=v) (j:=j) O.lb H.lv (by omega) (by omega)
  have kl:=K.len
  have kh:=K.hi
  have kv:=K.v
  rw[List.take_of_length_le (by simp),QE,hvl,show j + (m + 2 + 1)=j + m + 3 by omega] at kv
  rw[hvl,show j + (m + 2 + 1)=j + m + 3 by omega] at kh
  have klb:LB u2:=OQ fun i hi=>by
   rcases Nat.lt_or_ge i (j + m + 3) with g | g
   ·exact K.lb i (by simp; omega)
   ·rw[kh i g]; exact Bv O.lb i
  have e1:B j*(q*val v)=B j*(val (u.drop j)/val v*val v) + B j*val v:=by rw[hqv,Int.mul_add]
  have hall:val u2=val u-B j*(val (u.drop j)/val v*val v) + B (j + m + 3)*(1-c2):=by
   rw[Int.mul_sub]; omega
  obtain ⟨k1,k2,k3⟩:=H.part (kl.trans ol) klb (fun i hi=>(kh i hi).trans (oh i hi)) hall
  have hc2:c2=1:=by
   have:=LL (j:=m + 3) (a:=val (u2.drop j)) (b:=val (u.drop j)-val (u.drop j)/val v*val v) (X:=0) (Y:=1-c2) ⟨k2,k3⟩ (by omega) (by omega)
   omega
  subst hc2
  refine ⟨u2,?_,kl.trans ol,klb,by omega,by omega⟩
  have w7:IntKind.wrap .i64 (q-1)=val (u.drop j)/val v:=by rw[wrapI (by omega) (by omega)]; omega
  unfold AY
  simp only[hge,cond_true,hg1,ht1,Option.bind_some,ol,decide_true,show decide ((1:Int)>0)=true from rfl,hb1,kl,hj0,gout,w5,w7]
end
end Go.Proofs.YtiijheppiboglaaGreatDoor.Ev
