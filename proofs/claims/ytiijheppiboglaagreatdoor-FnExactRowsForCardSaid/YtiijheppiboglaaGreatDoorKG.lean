/- Whatever comes in, the law of this claim answers true, and nothing that was handed in changes. -/
import Derived.Test.YtiijheppiboglaaGreatDoorKF
import Derived.Lib.ItoaNum
import Derived.Lib.ItoaLen
import Derived.Lib.Join
import Derived.Test.YtiijheppiboglaaGreatDoorRows
import Derived.Test.YtiijheppiboglaaGreatDoorCards
import Derived.Test.YtiijheppiboglaaGreatDoorTie
import Derived.WalkKit
import Derived.ProofKit
import Derived.OpenShut
import Derived.ShutString
import Derived.ChangeOld
import Derived.Below
import Derived.SizedLaws
import Derived.SevenTiedAt
import Derived.LaidMore
import Derived.Lay
import Derived.Stop.Joined
import Derived.Test.YtiijheppiboglaaGreatDoorChecked
set_option maxHeartbeats 2000000
open Option renaming bind_some → za0, map_eq_some_iff → zb6, map_some → zd9
open List renaming getElem?_eq_getElem → za1, getElem?_eq_some_iff → za3, mem_of_getElem? → za4, all_eq_true → za5, drop_eq_getElem_cons → zb0, mem_flatMap → zb1, mem_append → zb3, eq_nil_of_length_eq_zero → zb4, flatMap_cons → zb5, getD_eq_getElem?_getD → zb7, length_cons → zb8, map_cons → zb9, getElem?_take → zc0, take_of_length_le → zc4, length_append → zc7, mem_cons → zc8, getElem?_map → zc9, all_cons → zd0, length_map → zd1, length_pos_iff → zd2, getElem?_drop → zd3, mem_map → zd4, drop_eq_nil_of_le → zd5, mem_singleton → zd8, append_nil → ze5, length_nil → ze7, drop_zero → ze8
open Bool renaming and_eq_true → za2, false_eq_true → zc3, true_and → ze2
open Nat renaming eq_of_beq_eq_true → za6, le_refl → za7, mul_le_mul_right → zd6, lt_of_lt_of_le → zd7, lt_or_ge → ze0, zero_add → ze4, le_trans → ze6, add_mul → zf1
open Sum renaming elim_inr → za8
open Int renaming mul_le_mul_of_nonneg_right → za9, mul_le_mul_of_nonneg_left → zb2, tdiv_eq_ediv_of_nonneg → zc1, toNat_natCast → zc5, tmod_eq_emod_of_nonneg → zc6, mul_add → ze1, le_of_lt → ze3, mul_nonneg → ze9, natCast_mul → zf0
open Array renaming getD_eq_getD_getElem? → zc2
set_option linter.unusedVariables false
set_option linter.unusedSimpArgs false
set_option linter.unusedSectionVars false
namespace Go.Proofs.YtiijheppiboglaaGreatDoor.Ev
section
open Go
def Kk:Option (List Rat)->List RQ×Bool
 | none=>([],false)
 | some qs=>(qs.map rq,true)
def nW (w:BN):Nat:=w.2.2.1.toNat*w.2.2.2.toNat
theorem AE2 {w:BN} (h:H3 w=true):w.2.2.1*w.2.2.2=(nW w:Int)/\1<=nW w/\nW w<=64:=by
 obtain ⟨_,_,h3,h4⟩:=Ia.1 h;refine ⟨?_,?_,?_⟩
 ·unfold nW;rw[zf0,Int.toNat_of_nonneg (by omega),Int.toNat_of_nonneg (by omega)]
 ·unfold nW;exact Nat.mul_pos (by omega) (by omega)
 ·unfold nW;exact Nat.mul_le_mul (show w.2.2.1.toNat<=8 by omega) (show w.2.2.2.toNat<=8 by omega)
noncomputable def shW (w:BN) (x:List P2):Option (List Rat):=if ((B8 ((x.map ptQ).map rp) w).getD ([],false)).2=true then some ((Ax0 (x.map ptQ) w.2.2.1.toNat w.1 w.2.2.2.toNat w.2.1).map fun a=>a/2) else none
theorem A37 {x:List P2} (hx:Mf x=true) {w:BN} (hw:H3 w=true):B8 ((x.map ptQ).map rp) w=some (Kk (shW w x))/\CP ((x.map ptQ).map rp) w=some (Kk (shW w x))/\∀ qs,shW w x=some qs->qs.length=nW w/\∀ q∈qs,Sz 40 q:=by
 have hz:=Bh8 hx;have h40:=hz.1;obtain ⟨g1,g2,g3,g4⟩:=Ia.1 hw;obtain ⟨f,f1,f2,f3,f4⟩:=A2S (l:=(x.map ptQ).map rp) (by rw[zd1]; omega) (T4 (k:=8) (by omega) hz.2) w;cases hf:f.2 with
 | false =>
  have e:shW w x=none:=by
   unfold shW;rw[f1];exact if_neg (by rw[Option.getD_some,hf]; simp)
  have ef:f=Kk none:=Prod.ext (f3 hf) hf;rw[e,f1,f2,ef];exact ⟨rfl,rfl,fun qs h=>by cases h⟩
 | true =>
  obtain ⟨_,_,hwin⟩:=f4 hf;obtain ⟨j1,j2,_⟩:=A7N hz rfl (w:=w.2.2.1.toNat) (x:=w.1) (by omega) w.2.2.2.toNat w.2.1 f.1 (by omega) (by omega) hwin;have e:shW w x=some ((Ax0 (x.map ptQ) w.2.2.1.toNat w.1 w.2.2.2.toNat w.2.1).map fun a=>a/2):=by
   unfold shW;rw[f1];exact if_pos hf
  have ef:f=Kk (some ((Ax0 (x.map ptQ) w.2.2.1.toNat w.1 w.2.2.2.toNat w.2.1).map fun a=>a/2)):=Prod.ext (by rw[j1]; show _=List.map rq _; rw[List.map_map]; rfl) hf;rw[e,f1,f2,<-ef];refine ⟨rfl,rfl,fun qs h=>?_⟩
  cases h
  refine ⟨by rw[zd1,A07]; rfl,fun q hq=>?_⟩
  obtain ⟨a,ha,rfl⟩:=zd4.1 hq;exact j2 a ha
def JJ:List Rat->List Rat->Option (List Rat)
 | a::us,q::qs=>if Sz 40 (a + q) then (JJ us qs).map ((a + q) :: ·) else none
 | _,_=>some []
theorem A9o (l:List Rat):JJ [] l=some []:=by cases l <;> rfl
theorem Ws (a q:Rat) (us qs:List Rat):JJ (a::us) (q::qs)=if Sz 40 (a + q) then (JJ us qs).map ((a + q) :: ·) else none:=(rfl)
theorem T7:∀ (us qs r:List Rat),us.length=qs.length->JJ us qs=some r->r.length=us.length/\∀ q∈r,Sz 40 q:=by
 intro us
 induction us with
 | nil =>
  intro qs r _ h;rw[A9o] at h;rw[<-Option.some.inj h];exact ⟨rfl,fun q hq=>absurd hq List.not_mem_nil⟩
 | cons a us ih =>
  intro qs r hl h;cases qs with
  | nil=>exact absurd hl (by simp)
  | cons q qs =>
   rw[Ws] at h;by_cases hz:Sz 40 (a + q)
   ·rw[if_pos hz] at h;cases hr:JJ us qs with
    | none=>rw[hr] at h; exact absurd h (by simp)
    | some r' =>
     rw[hr,zd9] at h;obtain ⟨i1,i2⟩:=ih qs r' (by simpa using hl) hr;rw[<-Option.some.inj h];refine ⟨by simp[i1],fun x hx=>?_⟩
     rcases zc8.1 hx with e | hx
     ·rw[e]; exact hz
     ·exact i2 x hx
   ·rw[if_neg hz] at h; exact absurd h (by simp)
def adR (w:BN) (ws:FM) (c d:Int) (dn:List Rat):Option (List Rat)->(BN×(List RQ×(FM×(Int×Int)))) ⊕ (List RQ×Bool)
 | some r=>.inl (w,((dn++r).map rq,(ws,(c,d))))
 | none=>.inr ([],false)
theorem AH1 (dn us:List Rat) (a b:Rat) {k:Nat} (h:dn.length=k):((dn++a::us).map rq).set k (rq b)=(dn ++ [b]++us).map rq:=by
 subst h;simp[List.map_append,List.set_append]
theorem ZZ (pre qs:List Rat) (q:Rat):(pre++q::qs)[pre.length]? = some q:=by simp
theorem Bb6 (w:BN) (ws:FM) (c d:Int):∀ (us qs dn pre:List Rat),(∀ q∈us,Sz 40 q)->(∀ q∈qs,Sz 40 q)->us.length=qs.length->dn.length=pre.length->pre.length + qs.length<=1000 ->
  Ah (fun (s:(BN×((List RQ)×(FM×(Int×(Int×((List RQ)×(Int×Int))))))))=>BR s.1 s.2.1 s.2.2.1 s.2.2.2.1 s.2.2.2.2.1 s.2.2.2.2.2.1 s.2.2.2.2.2.2.1 s.2.2.2.2.2.2.2) (w,((dn++us).map rq,(ws,(c,(d,((pre++qs).map rq,(((pre++qs).length:Int),(pre.length:Int))))))))=some (adR w ws c d dn (JJ us qs))
 | [],[],dn,pre,_,_,_,hd,hp=>by
  refine Aq ?_
  show BR w ((dn ++ []).map rq) ws c d ((pre ++ []).map rq) ((pre ++ []).length:Int) (pre.length:Int)=_;unfold BR;rw[decide_eq_false (by simp),cF];rfl
 | [],q::qs,dn,pre,_,_,hl,_,_=>by cases hl
 | a::us,[],dn,pre,_,_,hl,_,_=>by cases hl
 | a::us,q::qs,dn,pre,ha,hq,hl,hd,hp=>by
  have ka:=ha a (by simp);have kq:=hq q (by simp);have h81:Sz 81 (a + q):=(Ti ka kq).mono (by omega);rw[zb8] at hp;have hlen:((pre++q::qs).length:Int)=(pre.length:Int) + qs.length + 1:=by simp; omega
  have hg:AV ((dn++a::us).map rq) pre.length=some (rq a):=by
   show ((dn++a::us).map rq)[pre.length]? = _;rw[zc9,<-hd,ZZ];rfl
  have hi:A2 (pre.length:Int) ((dn++a::us).map rq).length=some pre.length:=A0 (by simp[hd]);have key:BR w ((dn++a::us).map rq) ws c d ((pre++q::qs).map rq) ((pre++q::qs).length:Int) (pre.length:Int)=if Sz 40 (a + q) then some (.inl (w,((dn ++ [a + q]++us).map rq,(ws,(c,(d,((pre++q::qs).map rq,(((pre++q::qs).length:Int),((pre.length + 1:Nat):Int))))))))) else some (.inr (.inr ([],false))):=by
   unfold BR;rw[decide_eq_true (by omega),cT,Bh0 (ZZ pre qs q),obs,hi,obs,hg,obs];simp only[A4,A6,AG8,Xp];rw[Kf (k:=40) (by omega) ka kq,obs]
   try simp only[A4,A6,AG8,Xp]
   rw[VR,obs,obs,hg,obs];by_cases hz:Sz 40 (a + q)
   ·rw[if_pos hz,Kg hz,nT,cF,AM (by omega)];rw[<-AH1 dn us a (a + q) hd];rfl
   ·rw[if_neg hz,RY hz,nF,cT]
  rw[Ws];by_cases hz:Sz 40 (a + q)
  ·rw[if_pos hz] at key ⊢
   refine (AX (f:=fun (s:(BN×((List RQ)×(FM×(Int×(Int×((List RQ)×(Int×Int))))))))=>BR s.1 s.2.1 s.2.2.1 s.2.2.2.1 s.2.2.2.2.1 s.2.2.2.2.2.1 s.2.2.2.2.2.2.1 s.2.2.2.2.2.2.2) (s:=(w,((dn++a::us).map rq,(ws,(c,(d,((pre++q::qs).map rq,(((pre++q::qs).length:Int),(pre.length:Int))))))))) key).trans ?_
   have ih:=Bb6 w ws c d us qs (dn ++ [a + q]) (pre ++ [q]) (fun x hx=>ha x (by simp[hx])) (fun x hx=>hq x (by simp[hx])) (by simpa using hl) (by simp[hd]) (by simp; omega);rw[show (pre ++ [q])++qs=pre++q::qs by simp,show (pre ++ [q]).length=pre.length + 1 by simp] at ih;rw[ih];cases JJ us qs with
   | none=>rfl
   | some r=>simp[adR]
  ·rw[if_neg hz] at key ⊢
   exact Aq key
theorem A8v (w:BN) (ws:FM) (c d:Int):∀ (us qs dn pre:List Rat),(∀ q∈us,Sz 40 q)->(∀ q∈qs,Sz 40 q)->us.length=qs.length->dn.length=pre.length->pre.length + qs.length<=1000 ->
  Ah (fun (s:(BN×((List RQ)×(FM×(Int×(Int×((List RQ)×(Int×Int))))))))=>BS s.1 s.2.1 s.2.2.1 s.2.2.2.1 s.2.2.2.2.1 s.2.2.2.2.2.1 s.2.2.2.2.2.2.1 s.2.2.2.2.2.2.2) (w,((dn++us).map rq,(ws,(c,(d,((pre++qs).map rq,(((pre++qs).length:Int),(pre.length:Int))))))))=some (adR w ws c d dn (JJ us qs))
 | [],[],dn,pre,_,_,_,hd,hp=>by
  refine Aq ?_
  show BS w ((dn ++ []).map rq) ws c d ((pre ++ []).map rq) ((pre ++ []).length:Int) (pre.length:Int)=_;unfold BS;rw[decide_eq_false (by simp),cF];rfl
 | [],q::qs,dn,pre,_,_,hl,_,_=>by cases hl
 | a::us,[],dn,pre,_,_,hl,_,_=>by cases hl
 | a::us,q::qs,dn,pre,ha,hq,hl,hd,hp=>by
  have ka:=ha a (by simp);have kq:=hq q (by simp);have h81:Sz 81 (a + q):=(Ti ka kq).mono (by omega);rw[zb8] at hp;have hlen:((pre++q::qs).length:Int)=(pre.length:Int) + qs.length + 1:=by simp; omega
  have hg:AV ((dn++a::us).map rq) pre.length=some (rq a):=by
   show ((dn++a::us).map rq)[pre.length]? = _;rw[zc9,<-hd,ZZ];rfl
  have hi:A2 (pre.length:Int) ((dn++a::us).map rq).length=some pre.length:=A0 (by simp[hd]);have key:BS w ((dn++a::us).map rq) ws c d ((pre++q::qs).map rq) ((pre++q::qs).length:Int) (pre.length:Int)=if Sz 40 (a + q) then some (.inl (w,((dn ++ [a + q]++us).map rq,(ws,(c,(d,((pre++q::qs).map rq,(((pre++q::qs).length:Int),((pre.length + 1:Nat):Int))))))))) else some (.inr (.inr ([],false))):=by
   unfold BS;rw[decide_eq_true (by omega),cT,Bh0 (ZZ pre qs q),obs,hi,obs,hg,obs];simp only[A4,A6,AG8,Xp];rw[UY (k:=40) (by omega) ka kq,obs]
   try simp only[A4,A6,AG8,Xp]
   rw[VQ (k:=81) (by omega) h81,obs];by_cases hz:Sz 40 (a + q)
   ·rw[if_pos hz,Kg hz,nT,cF,obs,hg,obs,AM (by omega)];rw[<-AH1 dn us a (a + q) hd];rfl
   ·rw[if_neg hz,RY hz,nF,cT]
  rw[Ws];by_cases hz:Sz 40 (a + q)
  ·rw[if_pos hz] at key ⊢
   refine (AX (f:=fun (s:(BN×((List RQ)×(FM×(Int×(Int×((List RQ)×(Int×Int))))))))=>BS s.1 s.2.1 s.2.2.1 s.2.2.2.1 s.2.2.2.2.1 s.2.2.2.2.2.1 s.2.2.2.2.2.2.1 s.2.2.2.2.2.2.2) (s:=(w,((dn++a::us).map rq,(ws,(c,(d,((pre++q::qs).map rq,(((pre++q::qs).length:Int),(pre.length:Int))))))))) key).trans ?_
   have ih:=A8v w ws c d us qs (dn ++ [a + q]) (pre ++ [q]) (fun x hx=>ha x (by simp[hx])) (fun x hx=>hq x (by simp[hx])) (by simpa using hl) (by simp[hd]) (by simp; omega);rw[show (pre ++ [q])++qs=pre++q::qs by simp,show (pre ++ [q]).length=pre.length + 1 by simp] at ih;rw[ih];cases JJ us qs with
   | none=>rfl
   | some r=>simp[adR]
  ·rw[if_neg hz] at key ⊢
   exact Aq key
theorem A1B {x:List P2} (hx:Mf x=true):KP x=some ((x.map ptQ).map rp,true):=by
 have h12:=(J7.1 hx).1.2;unfold KP;rw[Bh1 (by unfold A0G; omega),obs,hx,nT,cF,Au4 (by omega) (A3w hx),obs]
noncomputable def A0d (w:BN):FM->List Rat->Option (List Rat)
 | [],acc=>some acc
 | x::l,acc=>(shW w x).bind fun qs=>(JJ acc qs).bind fun r=>A0d w l r
def Bq7:Option (List Rat)->List RQ ⊕ (List RQ×Bool)
 | some r=>.inl (r.map rq)
 | none=>.inr ([],false)
section
variable {w:BN} {l:FM} (hw:H3 w=true) (hg:∀ x∈l,Mf x=true) (hl:l.length<=4)
include hw hg
theorem AG3:∀ (m:FM) (acc r:List Rat),(∀ x∈m,Mf x=true)->acc.length=nW w->(∀ q∈acc,Sz 40 q)->A0d w m acc=some r->r.length=nW w/\∀ q∈r,Sz 40 q
 | [],acc,r,_,h1,h2,h=>by
  cases h
  exact ⟨h1,h2⟩
 | x::m,acc,r,hm,h1,h2,h=>by
  obtain ⟨_,_,k⟩:=A37 (hm x (by simp)) hw;rw[A0d] at h;cases hs:shW w x with
  | none=>rw[hs] at h; cases h
  | some qs =>
   obtain ⟨k1,k2⟩:=k qs hs;rw[hs,obs] at h;cases ha:JJ acc qs with
   | none=>rw[ha] at h; cases h
   | some r' =>
    obtain ⟨a1,a2⟩:=T7 acc qs r' (by omega) ha;rw[ha,obs] at h;exact AG3 m r' r (fun y hy=>hm y (by simp[hy])) (by omega) a2 h
include hl
theorem Bm0:∀ (m k:Nat) (acc:List Rat),k + m=l.length->acc.length=nW w->(∀ q∈acc,Sz 40 q) ->
  Ah (fun (s:(BN×((List RQ)×(FM×(Int×Int)))))=>Bp s.1 s.2.1 s.2.2.1 s.2.2.2.1 s.2.2.2.2) (w,(acc.map rq,(l,((l.length:Int),(k:Int)))))=some (Bq7 (A0d w (l.drop k) acc))
 | 0,k,acc,hk,h1,h2=>by
  refine Aq ?_
  show Bp w (acc.map rq) l (l.length:Int) (k:Int)=_;unfold Bp;rw[decide_eq_false (by omega),cF,List.drop_of_length_le (by omega)];rfl
 | m + 1,k,acc,hk,h1,h2=>by
  have hkl:k<l.length:=by omega
  have he:l[k]? = some l[k]:=za1 hkl;have hx:=hg _ (za4 he);rw[zb0 hkl];generalize l[k]=x at he hx;obtain ⟨s1,s2,s3⟩:=A37 hx hw;have hn:=AE2 hw;have h12:=(J7.1 hx).1.2;rw[A0d];have top:Bp w (acc.map rq) l (l.length:Int) (k:Int)=(some (Kk (shW w x))).bind fun x2 =>
    bif (!x2.2) then some (Sum.inr (Sum.inr (([]:List RQ),false))) else
    (Ah (fun (s:(BN×((List RQ)×(FM×(Int×(Int×((List RQ)×(Int×Int))))))))=>BR s.1 s.2.1 s.2.2.1 s.2.2.2.1 s.2.2.2.2.1 s.2.2.2.2.2.1 s.2.2.2.2.2.2.1 s.2.2.2.2.2.2.2) (w,(acc.map rq,(l,((l.length:Int),((k:Int),(x2.1,((x2.1.length:Int),(0:Int))))))))).bind fun x3 =>
    Sum.elim (fun x4=>some (Sum.inl (x4.1,(x4.2.1,(x4.2.2.1,(x4.2.2.2.1,IntKind.wrap .i64 (x4.2.2.2.2 + (1:Int)))))))) (fun x5=>some (Sum.inr (Sum.inr (x5.1,x5.2)))) x3:=by
   unfold Bp;rw[decide_eq_true (by omega),cT,An,he,obs,A8P (by omega) (A3w hx),obs];rw[show B8 ((x.map ptQ).map rp) (w.1,(w.2.1,(w.2.2.1,w.2.2.2)))=some (Kk (shW w x)) from s1]
  cases hs:shW w x with
  | none =>
   refine Aq ?_
   show Bp w (acc.map rq) l (l.length:Int) (k:Int)=_;rw[top,hs,obs];rfl
  | some qs =>
   obtain ⟨q1,q2⟩:=s3 qs hs;have ad:=Bb6 w l (l.length:Int) (k:Int) acc qs [] [] h2 q2 (by omega) rfl (by simp; omega);rw[hs,obs] at top;have ad':Ah (fun (s:(BN×((List RQ)×(FM×(Int×(Int×((List RQ)×(Int×Int))))))))=>BR s.1 s.2.1 s.2.2.1 s.2.2.2.1 s.2.2.2.2.1 s.2.2.2.2.2.1 s.2.2.2.2.2.2.1 s.2.2.2.2.2.2.2) (w,(acc.map rq,(l,((l.length:Int),((k:Int),((Kk (some qs)).1,(((Kk (some qs)).1.length:Int),(0:Int))))))))=some (adR w l (l.length:Int) (k:Int) [] (JJ acc qs)):=by
    have el:(Kk (some qs)).1.length=([]++qs:List Rat).length:=by show (qs.map rq).length=_; simp
    rw[el];exact ad
   rw[ad',obs,show (Kk (some qs)).2=true from rfl,nT,cF] at top;rw[obs];cases ha:JJ acc qs with
   | none =>
    refine Aq ?_
    show Bp w (acc.map rq) l (l.length:Int) (k:Int)=_;rw[top,ha];rfl
   | some r =>
    obtain ⟨a1,a2⟩:=T7 acc qs r (by omega) ha;have go:Bp w (acc.map rq) l (l.length:Int) (k:Int)=some (.inl (w,(r.map rq,(l,((l.length:Int),((k + 1:Nat):Int)))))):=by
     rw[top,ha,<-AM (k:=k) (by omega)];rfl
    refine (AX (f:=fun (s:(BN×((List RQ)×(FM×(Int×Int)))))=>Bp s.1 s.2.1 s.2.2.1 s.2.2.2.1 s.2.2.2.2) (s:=(w,(acc.map rq,(l,((l.length:Int),(k:Int)))))) go).trans ?_
    rw[obs];exact Bm0 m (k + 1) r (by omega) (by omega) a2
theorem Bm5:∀ (m k:Nat) (acc:List Rat),k + m=l.length->acc.length=nW w->(∀ q∈acc,Sz 40 q) ->
  Ah (fun (s:(BN×((List RQ)×(FM×(Int×Int)))))=>Br s.1 s.2.1 s.2.2.1 s.2.2.2.1 s.2.2.2.2) (w,(acc.map rq,(l,((l.length:Int),(k:Int)))))=some (Bq7 (A0d w (l.drop k) acc))
 | 0,k,acc,hk,h1,h2=>by
  refine Aq ?_
  show Br w (acc.map rq) l (l.length:Int) (k:Int)=_;unfold Br;rw[decide_eq_false (by omega),cF,List.drop_of_length_le (by omega)];rfl
 | m + 1,k,acc,hk,h1,h2=>by
  have hkl:k<l.length:=by omega
  have he:l[k]? = some l[k]:=za1 hkl;have hx:=hg _ (za4 he);rw[zb0 hkl];generalize l[k]=x at he hx;obtain ⟨s1,s2,s3⟩:=A37 hx hw;have hn:=AE2 hw;have h12:=(J7.1 hx).1.2;have r2:=A1B hx;rw[A0d];have top:Br w (acc.map rq) l (l.length:Int) (k:Int)=(some (Kk (shW w x))).bind fun x2 =>
    bif (!x2.2) then some (Sum.inr (Sum.inr (([]:List RQ),false))) else
    (Ah (fun (s:(BN×((List RQ)×(FM×(Int×(Int×((List RQ)×(Int×Int))))))))=>BS s.1 s.2.1 s.2.2.1 s.2.2.2.1 s.2.2.2.2.1 s.2.2.2.2.2.1 s.2.2.2.2.2.2.1 s.2.2.2.2.2.2.2) (w,(acc.map rq,(l,((l.length:Int),((k:Int),(x2.1,((x2.1.length:Int),(0:Int))))))))).bind fun x3 =>
    Sum.elim (fun x4=>some (Sum.inl (x4.1,(x4.2.1,(x4.2.2.1,(x4.2.2.2.1,IntKind.wrap .i64 (x4.2.2.2.2 + (1:Int)))))))) (fun x5=>some (Sum.inr (Sum.inr (x5.1,x5.2)))) x3:=by
   unfold Br;rw[decide_eq_true (by omega),cT,A0 hkl,obs,show AV l k=some x from he,obs,r2,obs];rw[show CP ((x.map ptQ).map rp) (w.1,(w.2.1,(w.2.2.1,w.2.2.2)))=some (Kk (shW w x)) from s2]
  cases hs:shW w x with
  | none =>
   refine Aq ?_
   show Br w (acc.map rq) l (l.length:Int) (k:Int)=_;rw[top,hs,obs];rfl
  | some qs =>
   obtain ⟨q1,q2⟩:=s3 qs hs;have ad:=A8v w l (l.length:Int) (k:Int) acc qs [] [] h2 q2 (by omega) rfl (by simp; omega);rw[hs,obs] at top;have ad':Ah (fun (s:(BN×((List RQ)×(FM×(Int×(Int×((List RQ)×(Int×Int))))))))=>BS s.1 s.2.1 s.2.2.1 s.2.2.2.1 s.2.2.2.2.1 s.2.2.2.2.2.1 s.2.2.2.2.2.2.1 s.2.2.2.2.2.2.2) (w,(acc.map rq,(l,((l.length:Int),((k:Int),((Kk (some qs)).1,(((Kk (some qs)).1.length:Int),(0:Int))))))))=some (adR w l (l.length:Int) (k:Int) [] (JJ acc qs)):=by
    have el:(Kk (some qs)).1.length=([]++qs:List Rat).length:=by show (qs.map rq).length=_; simp
    rw[el];exact ad
   rw[ad',obs,show (Kk (some qs)).2=true from rfl,nT,cF] at top;rw[obs];cases ha:JJ acc qs with
   | none =>
    refine Aq ?_
    show Br w (acc.map rq) l (l.length:Int) (k:Int)=_;rw[top,ha];rfl
   | some r =>
    obtain ⟨a1,a2⟩:=T7 acc qs r (by omega) ha;have go:Br w (acc.map rq) l (l.length:Int) (k:Int)=some (.inl (w,(r.map rq,(l,((l.length:Int),((k + 1:Nat):Int)))))):=by
     rw[top,ha,<-AM (k:=k) (by omega)];rfl
    refine (AX (f:=fun (s:(BN×((List RQ)×(FM×(Int×Int)))))=>Br s.1 s.2.1 s.2.2.1 s.2.2.2.1 s.2.2.2.2) (s:=(w,(acc.map rq,(l,((l.length:Int),(k:Int)))))) go).trans ?_
    rw[obs];exact Bm5 m (k + 1) r (by omega) (by omega) a2
end
def zer (n:Nat):List Rat:=List.replicate n 0
theorem Bb1 (n:Nat):zer (n + 1)=zer n ++ [0]:=List.replicate_succ'
theorem A3T {n:Nat}:∀ q∈zer n,Sz 40 q:=fun q hq=>by
 rw[List.eq_of_mem_replicate hq];exact S0r.mono (by omega)
theorem Bu2 {n:Nat} (h:n<=1000):Ct 64 4 ((zer n).map rq) [rq 0]=some ((zer (n + 1)).map rq):=by
 rw[Bo8 (by simp[zer]; omega),Bb1,List.map_append];rfl
theorem Bw5 (w:BN) (l:FM) {n:Nat} (hn:n<=1000):Ah (fun (s:(BN×((List RQ)×(FM×(Int×Int)))))=>Cj s.1 s.2.1 s.2.2.1 s.2.2.2.1 s.2.2.2.2) (w,((List.nil:List RQ),(l,((n:Int),(0:Int)))))=some (w,((zer n).map rq,l)):=by
 obtain ⟨_,h1,_⟩:=CJ (body:=fun (s:(BN×((List RQ)×(FM×(Int×Int)))))=>Cj s.1 s.2.1 s.2.2.1 s.2.2.2.1 s.2.2.2.2) (fun k (_:Unit)=>(w,((zer k).map rq,(l,((n:Int),(k:Int)))))) (fun _=>(w,((zer n).map rq,l))) (fun _ _=>True) n (by
  intro k _ hk _;refine ⟨(),?_,trivial⟩
  show Cj w ((zer k).map rq) l (n:Int) (k:Int)=_;unfold Cj;rw[decide_eq_true (by omega),cT,AJ0,obs];rw[show Ct 64 4 ((zer k).map rq) (List.cons (((rqF 0).1,(rqF 0).2.1),((rqF 0).2.2.1,(rqF 0).2.2.2)) (List.nil:List RQ))=some ((zer (k + 1)).map rq) from Bu2 (by omega),obs,AM (by omega)]) (by
  intro _ _;show Cj w ((zer n).map rq) l (n:Int) (n:Int)=_;unfold Cj;rw[decide_eq_false (by omega),cF]) 0 () (by omega) trivial
 exact h1
theorem Bk6 (w:BN) (l:FM):∀ (m n:Nat),m + n<=1000->Ah (fun (s:(BN×(FM×((List RQ)×Int))))=>Cl s.1 s.2.1 s.2.2.1 s.2.2.2) (w,(l,((zer n).map rq,(m:Int))))=some (w,(l,(zer (n + m)).map rq))
 | 0,n,h=>by
  refine Aq ?_
  show Cl w l ((zer n).map rq) (0:Int)=_;unfold Cl;rw[decide_eq_false (by omega),cF];rfl
 | m + 1,n,h=>by
  have go:Cl w l ((zer n).map rq) ((m + 1:Nat):Int)=some (.inl (w,(l,((zer (n + 1)).map rq,(m:Int))))):=by
   unfold Cl;rw[decide_eq_true (by omega),cT,AB1,obs];rw[show Ct 64 4 ((zer n).map rq) (List.cons (((rqF 0).1,(rqF 0).2.1),((rqF 0).2.2.1,(rqF 0).2.2.2)) (List.nil:List RQ))=some ((zer (n + 1)).map rq) from Bu2 (by omega),obs,Aj (by omega) (by omega),show ((m + 1:Nat):Int)-1=(m:Int) by omega]
  refine (AX (f:=fun (s:(BN×(FM×((List RQ)×Int))))=>Cl s.1 s.2.1 s.2.2.1 s.2.2.2) (s:=(w,(l,((zer n).map rq,((m + 1:Nat):Int))))) go).trans ?_
  rw[Bk6 w l m (n + 1) (by omega),show n + 1 + m=n + (m + 1) by omega]
noncomputable def QT (s:Str) (w:BN):Option (List Rat):=if (M1 s).2.2.2=true/\H3 w=true then A0d w (M1 s).1 (zer (nW w)) else none
theorem A74 (o:Option (List Rat)):(Sum.elim (fun x4=>some (x4,true)) (fun x5=>some (x5.1,x5.2)) (Bq7 o):Option (List RQ×Bool))=some (Kk o):=by
 cases o <;> rfl
theorem V3 {l:FM} (h:Lx l=true):∀ w∈l,Mf w=true:=by
 unfold Lx at h;simp only[za2] at h;exact za5.1 h.1
theorem Kz {s:Str} {w:BN} {r:List Rat} (h:QT s w=some r):H3 w=true/\r.length=nW w/\∀ q∈r,Sz 40 q:=by
 unfold QT at h
 split at h
 ·rename_i hc;rcases TQ s with ⟨l,e,hg⟩ | ⟨c,a,e,hc'⟩
  ·rw[e] at h;exact ⟨hc.2,AG3 (l:=l) hc.2 (V3 hg) l _ _ (V3 hg) (by simp[zer]) A3T h⟩
  ·rw[e] at hc; cases hc.1
 ·cases h
theorem A2z {s:Str} (hs:s.length<=1048576) (w:BN):ES s w=some (Kk (QT s w)):=by
 unfold ES QT;rw[AZ0 (by omega),obs];rcases TQ s with ⟨l,e,hg⟩ | ⟨c,a,e,hc⟩
 ·rw[e];simp only;rw[nT,cF,show Dj (w.1,(w.2.1,(w.2.2.1,w.2.2.2)))=some (H3 w) from Oy w,obs];cases hw:H3 w with
  | false=>rw[nF,cT,if_neg (by simp)]; rfl
  | true =>
   obtain ⟨n1,n2,n3⟩:=AE2 hw;have hn:=A5m hg;have z:=Bw5 w l (n:=nW w) (by omega);have p:=Bm0 hw (V3 hg) (l:=l) (by omega) l.length 0 (zer (nW w)) (by omega) (by simp[zer]) A3T;rw[nT,cF,n1,Aj (by omega) (by omega)];rw[show Ah (fun (s:(BN×((List RQ)×(FM×(Int×Int)))))=>Cj s.1 s.2.1 s.2.2.1 s.2.2.2.1 s.2.2.2.2) ((w.1,(w.2.1,(w.2.2.1,w.2.2.2))),((List.nil:List RQ),(l,((nW w:Int),(0:Int)))))=_ from z,obs]
   rw[show Ah (fun (s:(BN×((List RQ)×(FM×(Int×Int)))))=>Bp s.1 s.2.1 s.2.2.1 s.2.2.2.1 s.2.2.2.2) ((w.1,(w.2.1,(w.2.2.1,w.2.2.2))),((zer (nW w)).map rq,(l,((l.length:Int),(0:Int)))))=_ from p,obs,A74,if_pos ⟨trivial,rfl⟩];rfl
 ·rw[e];simp only;rw[nF,cT,if_neg (by simp)];rfl
theorem AY8 {s:Str} (hs:s.length<=1048576) (w:BN):ER s w=some (Kk (QT s w)):=by
 unfold ER QT;rw[A1d (by omega),obs];rcases TQ s with ⟨l,e,hg⟩ | ⟨c,a,e,hc⟩
 ·rw[e];simp only;rw[nT,cF,show C8 (w.1,(w.2.1,(w.2.2.1,w.2.2.2)))=some (H3 w) from NG w,obs];cases hw:H3 w with
  | false=>rw[nF,cT,if_neg (by simp)]; rfl
  | true =>
   obtain ⟨n1,n2,n3⟩:=AE2 hw;have hn:=A5m hg;have z:=Bk6 w l (nW w) 0 (by omega);rw[ze4] at z;have p:=Bm5 hw (V3 hg) (l:=l) (by omega) l.length 0 (zer (nW w)) (by omega) (by simp[zer]) A3T;rw[nT,cF,n1,Aj (by omega) (by omega)];rw[show Ah (fun (s:(BN×(FM×((List RQ)×Int))))=>Cl s.1 s.2.1 s.2.2.1 s.2.2.2) ((w.1,(w.2.1,(w.2.2.1,w.2.2.2))),(l,((List.nil:List RQ),(nW w:Int))))=_ from z,obs]
   rw[show Ah (fun (s:(BN×((List RQ)×(FM×(Int×Int)))))=>Br s.1 s.2.1 s.2.2.1 s.2.2.2.1 s.2.2.2.2) ((w.1,(w.2.1,(w.2.2.1,w.2.2.2))),((zer (nW w)).map rq,(l,((l.length:Int),(0:Int)))))=_ from p,obs,A74,if_pos ⟨trivial,rfl⟩];rfl
 ·rw[e];simp only;rw[nF,cT,if_neg (by simp)];rfl
def Bi8:Option (List Rat)->List Int×Bool
 | none=>([],false)
 | some r=>(r.map byQ,true)
theorem AT7 {s:Str} (hs:s.length<=1048576) (w:BN):Ea s w=some (Bi8 (QT s w)):=by
 unfold Ea;rw[show ES s (w.1,(w.2.1,(w.2.2.1,w.2.2.2)))=_ from A2z hs w,obs];cases h:QT s w with
 | none=>rfl
 | some r =>
  obtain ⟨h1,h2,h3⟩:=Kz h;have:=(AE2 h1).2.2;show (bif !true then _ else (GZ (r.map rq)).bind fun x1=>some (x1,true))=_;rw[nT,cF,A57 h3 (by omega),obs];rfl
theorem AK7 {s:Str} (hs:s.length<=1048576) (w:BN):D7 s w=some (Bi8 (QT s w)):=by
 unfold D7;rw[show ER s (w.1,(w.2.1,(w.2.2.1,w.2.2.2)))=_ from AY8 hs w,obs];cases h:QT s w with
 | none=>rfl
 | some r =>
  obtain ⟨h1,h2,h3⟩:=Kz h;have:=(AE2 h1).2.2;have lp:=AO5 h3 (by omega);have lp':Ah (fun (s:((List Int)×((List RQ)×(Int×Int))))=>B2 s.1 s.2.1 s.2.2.1 s.2.2.2) ((List.nil:List Int),((Kk (some r)).1,(((Kk (some r)).1.length:Int),(0:Int))))=some (r.map byQ):=by
   rw[show (Kk (some r)).1.length=r.length by show (r.map rq).length=_; simp];exact lp
  rw[show (Kk (some r)).2=true from rfl,nT,cF,lp',obs];rfl
end
section
open Go
abbrev Rn:=Int×Int
def A4v (b:Int×Option Int) (r:Rn):(Unit ⊕ Bool) ⊕ (Int×Option Int):=if 0<=r.1/\r.1<=255/\1<=r.2/\r.2<=b.1/\b.2≠some r.1 then .inr (b.1-r.2,some r.1) else .inl (.inr false)
end
section
open Go
def F4 (r:Rn):Str:=Lib.itoa r.2++(120::Lib.itoa r.1)
def Fc (l:List Rn):Str:=Lib.join (l.map F4) [44]
theorem A33 {r:Rn} (h : 0<=r.1/\r.1<=255/\1<=r.2/\r.2<=100):(F4 r).length<=43:=by
 have h1:=I1 (n:=r.1) (by omega) (by omega);have h2:=I1 (n:=r.2) (by omega) (by omega);unfold F4;rw[zc7,zb8];omega
theorem A16 {l:List Rn} (h:∀ r∈l,0<=r.1/\r.1<=255/\1<=r.2/\r.2<=100):(Fc l).length<=44*l.length:=by
 have:=A04 (c:=43) (xs:=l.map F4) (fun x hx=>by
  obtain ⟨r,hr,rfl⟩:=zd4.1 hx;exact A33 (h r hr)) 44
 rw[zd1] at this;exact this
theorem AL6 {l:List Rn} {k:Nat} {r:Rn} (hk:l[k]? = some r):Fc (l.take (k + 1))=if k=0 then F4 r else Fc (l.take k)++(44::F4 r):=by
 have hlt:=EC hk;unfold Fc;rw[List.take_add_one,hk,List.map_append];show Lib.join (List.map F4 (l.take k) ++ [F4 r]) [44]=_;rw[A6K];by_cases h:k=0
 ·subst h; simp
 ·rw[if_neg h,if_neg (by simp; exact ⟨h,fun h2=>by subst h2; simp at hlt⟩)];rfl
theorem A5F {l:List Rn} (h:∀ r∈l,0<=r.1/\r.1<=255/\1<=r.2/\r.2<=100) (hl:l.length<=100):I6 l=some (Fc l):=by
 unfold I6;obtain ⟨_,h1,_⟩:=CJ (body:=fun (s:(Str×(List Rn×(Int×Int))))=>Ge s.1 s.2.1 s.2.2.1 s.2.2.2)
  (fun k (_:Unit)=>(Fc (l.take k),l,(l.length:Int),(k:Int))) (fun _=>Fc l) (fun _ _=>True) l.length (by
   intro k _ hk _;have he:l[k]? = some l[k]:=za1 hk;generalize l[k]=r at he;have hr:=h r (za4 he);have hb:=A16 (l:=l.take k) (fun r hr=>h r (List.mem_of_mem_take hr));have hb':(Fc (l.take k)).length<=4400:=by rw[List.length_take] at hb; omega
   have n1:=I1 (n:=r.1) (by omega) (by omega);have n2:=I1 (n:=r.2) (by omega) (by omega);refine ⟨(),?_,trivial⟩
   unfold Ge;simp only;rw[decide_eq_true (show (k:Int)<(l.length:Int) by omega),cT,An,he,obs,AL6 he];by_cases hk0:k=0
   ·subst hk0;rw[show decide (((0:Nat):Int)>0)=false from rfl,cF,obs,if_pos rfl];simp only[za8];rw[Uo (by omega) (by omega),obs,Gp (by simp; omega),obs,Uo (by omega) (by omega),obs,Gp (by simp; omega),obs,Gp (by
     simp[Fc,Lib.join_nil]; omega),obs,AM (by omega)]
    simp[Fc,Lib.join_nil,F4]
   ·rw[decide_eq_true (by omega),cT,Gp (by simp; omega),obs,obs,if_neg hk0];simp only[za8];rw[Uo (by omega) (by omega),obs,Gp (by simp; omega),obs,Uo (by omega) (by omega),obs,Gp (by simp; omega),obs,Gp (by
     simp; omega),obs,AM (by omega)]
    simp[F4]) (by
   intro _ _;unfold Ge;simp) 0 () (by omega) trivial
 have h1':Ah (fun (s:(Str×(List Rn×(Int×Int))))=>Ge s.1 s.2.1 s.2.2.1 s.2.2.2) (([]:Str),l,(l.length:Int),(0:Int))=_:=h1;rw[h1',obs]
theorem A3U {l:List Rn} (h:∀ r∈l,I64 r.1/\I64 r.2) (hl:l.length<=1000):HG l=some (Fc l):=by
 unfold HG;obtain ⟨_,h1,_⟩:=CJ (body:=fun (s:(List Str×(List Rn×(Int×Int))))=>Fx s.1 s.2.1 s.2.2.1 s.2.2.2)
  (fun k (_:Unit)=>((l.take k).map F4,l,(l.length:Int),(k:Int))) (fun _=>l.map F4) (fun _ _=>True) l.length (by
   intro k _ hk _;have he:l[k]? = some l[k]:=za1 hk;generalize l[k]=r at he;have hr:=h r (za4 he);unfold I64 at hr;have n1:=I1 (n:=r.1) (by omega) (by omega);have n2:=I1 (n:=r.2) (by omega) (by omega);refine ⟨(),?_,trivial⟩
   unfold Fx;simp only;rw[decide_eq_true (show (k:Int)<(l.length:Int) by omega),cT,An,he,obs,A4q (by omega) (by omega),obs,Gp (by simp; omega),obs,A4q (by omega) (by omega),obs,Gp (by simp; omega),obs,
    Dm (by simp[Ag]; omega) (by simp[Ag]; omega),obs,AM (by omega),List.take_add_one,he]
   simp[F4]) (by
   intro _ _;unfold Fx;simp) 0 () (by omega) trivial
 have h1':Ah (fun (s:(List Str×(List Rn×(Int×Int))))=>Fx s.1 s.2.1 s.2.2.1 s.2.2.2) (([]:List Str),l,(l.length:Int),(0:Int))=_:=h1;have hj:(Lib.join (l.map F4) [44]).length<=44*l.length:=by
  have:=A04 (c:=43) (xs:=l.map F4) (fun x hx=>by
   obtain ⟨r,hr,rfl⟩:=zd4.1 hx;have hr:=h r hr;unfold I64 at hr;have n1:=I1 (n:=r.1) (by omega) (by omega);have n2:=I1 (n:=r.2) (by omega) (by omega);unfold F4;rw[zc7,zb8];omega) 44
  rw[zd1] at this;exact this
 rw[h1',obs,Br9 (by simp; omega) (by omega),obs];rfl
end
section
open Go
def H4 (out:List Rn) (n:Int):List Rn:=match out.getLast? with
 | some r=>if r.1=n then out.dropLast ++ [(r.1,r.2 + 1)] else out ++ [(n,1)]
 | none=>[(n,1)]
def Lj (row:List Int):List Rn:=row.foldl H4 []
theorem A3V (row:List Int) (n:Int):Lj (row ++ [n])=H4 (Lj row) n:=by unfold Lj; rw[List.foldl_append]; rfl
theorem LA (o:List Rn) (r:Rn) (n:Int):H4 (o ++ [r]) n=if r.1=n then o ++ [(r.1,r.2 + 1)] else o ++ [r] ++ [(n,1)]:=by
 unfold H4;simp
theorem VO {ρ β α:Type} (step : β->α->ρ ⊕ β):∀ (l m:List α) (b b' : β),Jb step b l = .inr b'->Jb step b (l++m)=Jb step b' m
 | [],m,b,b',h=>by cases h; rfl
 | a::l,m,b,b',h=>by
  unfold Jb at h;rw[List.cons_append]
  conv=>lhs; unfold Jb
  cases hs:step b a with
  | inl r=>rw[hs] at h; cases h
  | inr c=>rw[hs] at h; exact VO step l m c b' h
def A8E (out:List Rn) (m:Int):Prop:=(out = []/\m=0)\/∃ o r prev,out=o ++ [r]/\Jb A4v (100,none) o = .inr (100-(m-r.2),prev)/\prev≠some r.1/\1<=r.2/\0<=r.1/\r.1<=255
theorem A8E.done {out:List Rn} {m:Int} (h:A8E out m) (hm:m<=100):∃ p,Jb A4v (100,none) out = .inr (100-m,p)/\p=out.getLast?.map (·.1):=by
 rcases h with ⟨rfl,rfl⟩ | ⟨o,r,prev,rfl,h1,h2,h3,h4,h5⟩
 ·exact ⟨none,rfl,rfl⟩
 ·refine ⟨some r.1,?_,by simp⟩
  rw[VO A4v o [r] _ _ h1];unfold Jb A4v;rw[if_pos ⟨h4,h5,h3,by simp only; omega,h2⟩];simp only[Jb];rw[show 100-(m-r.2)-r.2=100-m by omega]
theorem A8E.step {out:List Rn} {m n:Int} (h:A8E out m) (hm:m + 1<=100) (hn : 0<=n/\n<=255):A8E (H4 out n) (m + 1):=by
 obtain ⟨p,hp1,hp2⟩:=h.done (by omega);rcases h with ⟨rfl,rfl⟩ | ⟨o,r,prev,rfl,h1,h2,h3,h4,h5⟩
 ·exact .inr ⟨[],(n,1),none,rfl,rfl,by simp,by simp,hn.1,hn.2⟩
 ·rw[LA]
  split
  ·exact .inr ⟨o,(r.1,r.2 + 1),prev,rfl,by simp only; rw[h1]; congr 2; omega,h2,by simp only; omega,h4,h5⟩
  ·rename_i hne;refine .inr ⟨o ++ [r],(n,1),p,rfl,by simp only; rw[hp1]; congr 2; omega,?_,by simp,hn.1,hn.2⟩
   rw[hp2];simpa using hne
theorem A9c {α:Type} {P:List α->Prop} (h0:P []) (h1:∀ l a,P l->P (l ++ [a])):∀ l,P l:=by
 have key:∀ (n:Nat) (l:List α),l.length=n->P l:=by
  intro n
  induction n with
  | zero=>intro l h; rw[zb4 h]; exact h0
  | succ n ih =>
   intro l h;rcases List.eq_nil_or_concat l with rfl | ⟨o,r,rfl⟩
   ·simp at h
   ·rw[List.concat_eq_append] at h ⊢
    exact h1 o r (ih o (by simpa using h))
 intro l;exact key _ l rfl
theorem A6A (row:List Int):(Lj row).length<=row.length:=by
 refine A9c (P:=fun row=>(Lj row).length<=row.length) (by simp[Lj]) ?_ row
 intro row n h;rw[A3V];rcases List.eq_nil_or_concat (Lj row) with e | ⟨o,r,e⟩
 ·rw[e]; simp[H4]
 ·rw[List.concat_eq_append] at e;rw[e] at h ⊢
  rw[LA]
  split
  ·simp at h ⊢; omega
  ·simp at h ⊢; omega
end
section
open Go
theorem A0t (o:List Rn) (r v:Rn):List.set (o ++ [r]) o.length v=o ++ [v]:=by simp
theorem A4V {k:Nat} {b:List Rn} (h:b.length<=k/\∀ r∈b,0<=r.2/\r.2<=(k:Int)) (a:Int):(H4 b a).length<=k + 1/\∀ r∈H4 b a,0<=r.2/\r.2<=((k + 1:Nat):Int):=by
 obtain ⟨h1,h2⟩:=h;rcases List.eq_nil_or_concat b with rfl | ⟨o,r,hb⟩
 ·refine ⟨by simp[H4],?_⟩
  intro r hr;simp[H4] at hr;subst hr;simp;omega
 ·rw[List.concat_eq_append] at hb;subst hb;rw[LA];have hr:=h2 r (by simp)
  split
  ·refine ⟨by simp at h1 ⊢; omega,?_⟩
   intro x hx;rcases zb3.1 hx with hx | hx
   ·have:=h2 x (List.mem_append_left _ hx); omega
   ·cases zd8.1 hx; simp only; omega
  ·refine ⟨by simp at h1 ⊢; omega,?_⟩
   intro x hx;rcases zb3.1 hx with hx | hx
   ·have:=h2 x hx; omega
   ·cases zd8.1 hx; simp only; omega
theorem A72 {row:List Int} (hl:row.length<=100000):Ib row=some (Lj row):=by
 obtain ⟨h1,h2⟩:=RW (l:=row) (body:=fun (s:((List (Int×Int))×((List Int)×(Int×Int))))=>Ey s.1 s.2.1 s.2.2.1 s.2.2.2)
  (st:=fun k (b:List Rn)=>(b,(row,((row.length:Int),(k:Int))))) (step:=H4) (fin:=fun b=>b) (I:=fun k b=>b.length<=k/\∀ r∈b,0<=r.2/\r.2<=(k:Int))
  (by
   rintro k b a hk hI;have hkl:=EC hk;refine ⟨?_,A4V hI a⟩
   show Ey b row (row.length:Int) (k:Int)=some (.inl (H4 b a,(row,((row.length:Int),((k + 1:Nat):Int)))));obtain ⟨i1,i2⟩:=hI;unfold Ey;rw[decide_eq_true (show (k:Int)<(row.length:Int) by omega),cT,An,hk,obs,AM (by omega)];rcases List.eq_nil_or_concat b with rfl | ⟨o,r,hb⟩
   ·rw[show decide (IntKind.wrap .i64 ((([]:List Rn).length:Int)-1)>=0)=false from rfl,cF,Dm (by simp[Ag]) (by simp[Ag]),obs];rfl
   ·rw[List.concat_eq_append] at hb;subst hb;have hr:=i2 r (by simp);have hw:IntKind.wrap .i64 (((o ++ [r]).length:Int)-1)=(o.length:Int):=by
     have hle:(((o ++ [r]).length:Nat):Int)=(o.length:Int) + 1:=by simp
     rw[hle,Aj (by omega) (by omega)]; omega
    have hg:AV (o ++ [r]) o.length=some r:=by unfold AV; simp
    rw[hw,decide_eq_true (show (o.length:Int)>=0 by omega),cT,A0 (by simp),obs,hg,obs,LA];by_cases he:r.1=a
    ·rw[show (r.1==a)=true by simp[he],cT,obs,hg,obs,obs,hg,obs,if_pos he,Aj (by simp at i1; omega) (by simp at i1; omega),A0t]
    ·rw[show (r.1==a)=false from beq_eq_false_iff_ne.2 he,cF,if_neg he,Dm (by simp[Ag] at i1 ⊢; omega) (by simp[Ag] at i1 ⊢; omega),obs])
  (by
   rintro b _;show Ey b row (row.length:Int) (row.length:Int)=_;unfold Ey;rw[decide_eq_false (by omega)];rfl) [] ⟨by simp,by simp⟩
 unfold Ib;have h1':Ah (fun (s:((List (Int×Int))×((List Int)×(Int×Int))))=>Ey s.1 s.2.1 s.2.2.1 s.2.2.2) ([],(row,((row.length:Int),(0:Int))))=_:=h1;rw[h1',obs];rfl
theorem A6l {row:List Int} (hl:row.length<=100000):GY row=some (Lj row):=by
 obtain ⟨h1,h2⟩:=RW (l:=row) (body:=fun (s:((List (Int×Int))×((List Int)×(Int×Int))))=>DH s.1 s.2.1 s.2.2.1 s.2.2.2)
  (st:=fun k (b:List Rn)=>(b,(row,((row.length:Int),(k:Int))))) (step:=H4) (fin:=fun b=>b) (I:=fun k b=>b.length<=k/\∀ r∈b,0<=r.2/\r.2<=(k:Int))
  (by
   rintro k b a hk hI;have hkl:=EC hk;refine ⟨?_,A4V hI a⟩
   show DH b row (row.length:Int) (k:Int)=some (.inl (H4 b a,(row,((row.length:Int),((k + 1:Nat):Int)))));obtain ⟨i1,i2⟩:=hI;unfold DH;rw[decide_eq_true (show (k:Int)<(row.length:Int) by omega),cT,An,hk,obs,AM (by omega)];rcases List.eq_nil_or_concat b with rfl | ⟨o,r,hb⟩
   ·rw[show decide ((([]:List Rn).length:Int)>0)=false from rfl,cF,Dm (by simp[Ag]) (by simp[Ag]),obs];rfl
   ·rw[List.concat_eq_append] at hb;subst hb;have hr:=i2 r (by simp);have hw:IntKind.wrap .i64 (((o ++ [r]).length:Int)-1)=(o.length:Int):=by
     have hle:(((o ++ [r]).length:Nat):Int)=(o.length:Int) + 1:=by simp
     rw[hle,Aj (by omega) (by omega)]; omega
    have hg:AV (o ++ [r]) o.length=some r:=by unfold AV; simp
    rw[hw,decide_eq_true (show ((o ++ [r]).length:Int)>0 by simp),cT,A0 (by simp),obs,hg,obs,LA];by_cases he:r.1=a
    ·rw[show (r.1==a)=true by simp[he],cT,obs,hg,obs,obs,hg,obs,if_pos he,Aj (by simp at i1; omega) (by simp at i1; omega),A0t]
    ·rw[show (r.1==a)=false from beq_eq_false_iff_ne.2 he,cF,if_neg he,Dm (by simp[Ag] at i1 ⊢; omega) (by simp[Ag] at i1 ⊢; omega),obs])
  (by
   rintro b _;show DH b row (row.length:Int) (row.length:Int)=_;unfold DH;rw[decide_eq_false (by omega)];rfl) [] ⟨by simp,by simp⟩
 unfold GY;have h1':Ah (fun (s:((List (Int×Int))×((List Int)×(Int×Int))))=>DH s.1 s.2.1 s.2.2.1 s.2.2.2) ([],(row,((row.length:Int),(0:Int))))=_:=h1;rw[h1',obs];rfl
section
variable {l:List Rn} (hr:∀ r∈l,1<=r.2/\r.2<=100) (hl:l.length<=100)
include hr hl
end
end
section
open Go
def SmR (m:Int) (r:Rn):Prop:=0<=r.1/\r.1<=255/\1<=r.2/\r.2<=m
theorem Bb2 {out:List Rn} {m n:Int} (h:∀ r∈out,SmR m r) (hm : 0<=m) (h1 : 0<=n) (h2:n<=255):∀ r∈H4 out n,SmR (m + 1) r:=by
 have up:∀ r∈out,SmR (m + 1) r:=fun r hr=>by have:=h r hr; unfold SmR at *; omega
 have one1:SmR (m + 1) (n,1):=by unfold SmR; simp only; omega
 intro r hr;unfold H4 at hr
 split at hr
 ·rename_i q hq;have hq':=h q (List.mem_of_getLast? hq)
  split at hr
  ·rcases zb3.1 hr with hr | hr
   ·exact up r (List.dropLast_subset _ hr)
   ·rw[zd8.1 hr]; unfold SmR at *; simp only; omega
  ·rcases zb3.1 hr with hr | hr
   ·exact up r hr
   ·rw[zd8.1 hr]; exact one1
 ·rw[zd8.1 hr]; exact one1
theorem A0X:∀ (row:List Int) (out:List Rn) (m:Int),0<=m->(∀ r∈out,SmR m r)->(∀ x∈row,0<=x/\x<=255)->∀ r∈row.foldl H4 out,SmR (m + row.length) r
 | [],out,m,_,h,_=>by simpa using h
 | n::row,out,m,hm,h,hb=>by
  have hn:=hb n (by simp);have:=A0X row (H4 out n) (m + 1) (by omega) (Bb2 h hm hn.1 hn.2) (fun x hx=>hb x (by simp[hx]));intro r hr;have k:=this r hr;rw[zb8];unfold SmR at *
  omega
theorem Bh6 {row:List Int} (hb:∀ x∈row,0<=x/\x<=255) (hl:row.length<=100):∀ r∈Lj row,0<=r.1/\r.1<=255/\1<=r.2/\r.2<=100:=fun r hr=>by
 have:=A0X row [] 0 (by omega) (fun r hr=>absurd hr List.not_mem_nil) hb r hr;unfold SmR at this;omega
def O1 (bs:List Int) (W y:Nat):List Int:=List.drop (y*W) (List.take (y*W + ((y + 1)*W-y*W)) bs)
theorem A5G (bs:List Int) (W y:Nat):(O1 bs W y).length<=W:=by
 unfold O1;rw[List.length_drop,List.length_take,Nat.succ_mul];omega
theorem A6R {bs:List Int} {W y:Nat} {x:Int} (h:x∈O1 bs W y):x∈bs:=List.mem_of_mem_take (List.mem_of_mem_drop h)
def HC (bs:List Int) (W n:Nat):List Str:=(List.range n).map fun y=>Fc (Lj (O1 bs W y))
theorem A59 (bs:List Int) (W k:Nat):HC bs W (k + 1)=HC bs W k ++ [Fc (Lj (O1 bs W k))]:=by simp[HC,List.range_succ]
theorem Am5 (bs:List Int) (W n:Nat):(HC bs W n).length=n:=by simp[HC]
section
variable {bs:List Int} {w:BN} (hw:H3 w=true) (hl:bs.length=nW w) (hb:∀ x∈bs,0<=x/\x<=255)
include hw hl hb
theorem AI3 {k:Nat} (hk:k<w.2.2.2.toNat):JL (IntKind.wrap .i64 ((k:Int)*w.2.2.1)) (IntKind.wrap .i64 ((IntKind.wrap .i64 ((k:Int) + (1:Int)))*w.2.2.1)) bs.length=some (k*w.2.2.1.toNat,(k + 1)*w.2.2.1.toNat)/\(Lj (O1 bs w.2.2.1.toNat k)).length<=100/\(O1 bs w.2.2.1.toNat k).length<=100/\∀ r∈Lj (O1 bs w.2.2.1.toNat k),0<=r.1/\r.1<=255/\1<=r.2/\r.2<=100:=by
 obtain ⟨_,_,g3,g4⟩:=Ia.1 hw;obtain ⟨W0,hW⟩:∃ n:Nat,w.2.2.1=(n:Int):=⟨w.2.2.1.toNat,by omega⟩;have hWn:w.2.2.1.toNat=W0:=by omega
 have a1:k*W0<=8*8:=Nat.mul_le_mul (by omega) (by omega);have a2:(k + 1)*W0<=8*8:=Nat.mul_le_mul (by omega) (by omega);have a3:(k + 1)*W0<=bs.length:=by
  rw[hl];unfold nW;rw[hWn,Nat.mul_comm W0];exact Nat.mul_le_mul (by omega) (za7 _)
 have a4:k*W0<=(k + 1)*W0:=Nat.mul_le_mul (by omega) (za7 _);have e1:(k:Int)*(W0:Int)=((k*W0:Nat):Int):=by rw[zf0]
 have e2:((k + 1:Nat):Int)*(W0:Int)=(((k + 1)*W0:Nat):Int):=by rw[zf0]
 have hrow:=A5G bs W0 k;rw[hWn,hW,AM (by omega),e1,e2,Aj (by omega) (by omega),Aj (by omega) (by omega)];refine ⟨AH9 rfl rfl a4 a3,?_,by omega,Bh6 (fun x hx=>hb x (A6R hx)) (by omega)⟩
 have:=A6A (O1 bs W0 k);omega
theorem A5n {k:Nat} (hk:k<100):Ct 16 1 (HC bs w.2.2.1.toNat k) [Fc (Lj (O1 bs w.2.2.1.toNat k))]=some (HC bs w.2.2.1.toNat (k + 1)):=by
 rw[A59];exact Dm (by simp[Ag,Am5]; omega) (by simp[Ag,Am5]; omega)
theorem A0e:Ah (fun (s:(BN×((List Int)×((List Str)×(Int×Int)))))=>CU s.1 s.2.1 s.2.2.1 s.2.2.2.1 s.2.2.2.2) (w,(bs,((List.nil:List Str),(w.2.2.2,(0:Int)))))=some (HC bs w.2.2.1.toNat w.2.2.2.toNat):=by
 obtain ⟨_,_,g3,g4⟩:=Ia.1 hw;obtain ⟨_,h1,_⟩:=CJ (body:=fun (s:(BN×((List Int)×((List Str)×(Int×Int)))))=>CU s.1 s.2.1 s.2.2.1 s.2.2.2.1 s.2.2.2.2) (fun k (_:Unit)=>(w,(bs,(HC bs w.2.2.1.toNat k,(w.2.2.2,(k:Int)))))) (fun _=>HC bs w.2.2.1.toNat w.2.2.2.toNat) (fun _ _=>True) w.2.2.2.toNat (by
  intro k _ hk _;obtain ⟨r1,r2,r3,r4⟩:=AI3 hw hl hb hk;refine ⟨(),?_,trivial⟩
  show CU w bs (HC bs w.2.2.1.toNat k) w.2.2.2 (k:Int)=_;unfold CU;rw[decide_eq_true (by omega),cT,r1,obs];show (Ib (O1 bs w.2.2.1.toNat k)).bind _=_;rw[A72 (by omega),obs,A3U (fun r hr=>by have:=r4 r hr; unfold I64; omega) (by omega),obs,A5n hw hl hb (by omega),obs,AM (by omega)]) (by
  intro _ _;show CU w bs (HC bs w.2.2.1.toNat w.2.2.2.toNat) w.2.2.2 (w.2.2.2.toNat:Int)=_;unfold CU;rw[decide_eq_false (by omega),cF]) 0 () (by omega) trivial
 exact h1
theorem A2h:Ah (fun (s:(BN×((List Int)×((List Str)×Int))))=>C0 s.1 s.2.1 s.2.2.1 s.2.2.2) (w,(bs,((List.nil:List Str),(0:Int))))=some (HC bs w.2.2.1.toNat w.2.2.2.toNat):=by
 obtain ⟨_,_,g3,g4⟩:=Ia.1 hw;obtain ⟨_,h1,_⟩:=CJ (body:=fun (s:(BN×((List Int)×((List Str)×Int))))=>C0 s.1 s.2.1 s.2.2.1 s.2.2.2) (fun k (_:Unit)=>(w,(bs,(HC bs w.2.2.1.toNat k,(k:Int))))) (fun _=>HC bs w.2.2.1.toNat w.2.2.2.toNat) (fun _ _=>True) w.2.2.2.toNat (by
  intro k _ hk _;obtain ⟨r1,r2,r3,r4⟩:=AI3 hw hl hb hk;refine ⟨(),?_,trivial⟩
  show C0 w bs (HC bs w.2.2.1.toNat k) (k:Int)=_;unfold C0;rw[decide_eq_true (by omega),cT,r1,obs];show (GY (O1 bs w.2.2.1.toNat k)).bind _=_;rw[A6l (by omega),obs,A5F r4 (by omega),obs,A5n hw hl hb (by omega),obs,AM (by omega)]) (by
  intro _ _;show C0 w bs (HC bs w.2.2.1.toNat w.2.2.2.toNat) (w.2.2.2.toNat:Int)=_;unfold C0;rw[decide_eq_false (by omega),cF]) 0 () (by omega) trivial
 exact h1
end
def A1E (w:BN):Option (List Rat)->List Str×Bool
 | none=>([],false)
 | some r=>(HC (r.map byQ) w.2.2.1.toNat w.2.2.2.toNat,true)
theorem A6S {s:Str} {w:BN}:(A1E w (QT s w)).1.length<=64:=by
 cases h:QT s w with
 | none=>simp[A1E]
 | some r =>
  obtain ⟨h1,h2,h3⟩:=Kz h;obtain ⟨_,_,g3,g4⟩:=Ia.1 h1;show (HC (r.map byQ) w.2.2.1.toNat w.2.2.2.toNat).length<=64;rw[Am5];omega
theorem A2l {r:List Rat}:∀ x∈r.map byQ,0<=x/\x<=255:=fun x hx=>by
 obtain ⟨q,_,rfl⟩:=zd4.1 hx;exact AQ8 q
theorem A6v {s:Str} (hs:s.length<=1048576) (w:BN):G7 s w=some (A1E w (QT s w)):=by
 unfold G7;rw[show Ea s (w.1,(w.2.1,(w.2.2.1,w.2.2.2)))=_ from AT7 hs w,obs];cases h:QT s w with
 | none=>rfl
 | some r =>
  obtain ⟨h1,h2,h3⟩:=Kz h;have lp:=A0e (bs:=r.map byQ) h1 (by rw[zd1]; exact h2) A2l;rw[show Bi8 (some r)=(r.map byQ,true) from rfl,nT,cF];rw[show Ah (fun (s:(BN×((List Int)×((List Str)×(Int×Int)))))=>CU s.1 s.2.1 s.2.2.1 s.2.2.2.1 s.2.2.2.2) ((w.1,(w.2.1,(w.2.2.1,w.2.2.2))),(r.map byQ,((List.nil:List Str),(w.2.2.2,(0:Int)))))=_ from lp,obs];rfl
theorem A5V {s:Str} (hs:s.length<=1048576) (w:BN):IZ s w=some (A1E w (QT s w)):=by
 unfold IZ;rw[show D7 s (w.1,(w.2.1,(w.2.2.1,w.2.2.2)))=_ from AK7 hs w,obs];cases h:QT s w with
 | none=>rfl
 | some r =>
  obtain ⟨h1,h2,h3⟩:=Kz h;have lp:=A2h (bs:=r.map byQ) h1 (by rw[zd1]; exact h2) A2l;rw[show Bi8 (some r)=(r.map byQ,true) from rfl,nT,cF];rw[show Ah (fun (s:(BN×((List Int)×((List Str)×Int))))=>C0 s.1 s.2.1 s.2.2.1 s.2.2.2) ((w.1,(w.2.1,(w.2.2.1,w.2.2.2))),(r.map byQ,((List.nil:List Str),(0:Int))))=_ from lp,obs];rfl
end
section
open Go
theorem Nd {l:List Str} (hl:l.length<4611686018427387904):EQ l l=some true:=by
 unfold EQ;rw[show ((l.length:Int) != (l.length:Int))=false by simp,cF];obtain ⟨r,h1,h2,h3⟩:=A7u (E:=fun a b:Str=>some (a==b)) (l:=l) (m:=l) hl rfl (fun a _ b _=>⟨a==b,rfl,by simp⟩);have e:Ah (fun (s:(List Str×(List Str×Int)))=>Pa s.1 s.2.1 s.2.2) (l,l,(0:Int))=some r:=h1;rw[e,obs,h2 rfl];rfl
theorem A4G:∀ (b:Nat) (n:Int) (acc:Str),0<=n->n<(b:Int)->acc.length + b<=100000->∃ t:Str,Ah (fun (s:(Int×Str))=>Di s.1 s.2) (n,acc)=some t/\t.length<=100000
 | 0,n,acc,h0,hb,_=>by omega
 | b + 1,n,acc,h0,hb,hl=>by
  by_cases hn:n>0
  ·have h1 : 0<=n.tdiv 10:=Int.tdiv_nonneg h0 (by omega);have h2:n.tdiv 10<n:=by
    rw[zc1 h0];omega
   obtain ⟨t,e,ht⟩:=A4G b (n.tdiv 10) (Mc (List.cons (IntKind.wrap .u8 (IntKind.wrap .i64 ((48:Int) + (Int.tmod n (10:Int))))) [])++acc) h1 (by omega) (by rw[zc7]; unfold Mc; simp; omega);refine ⟨t,?_,ht⟩
   refine (AX (f:=fun (s:(Int×Str))=>Di s.1 s.2) (s:=(n,acc)) ?_).trans e
   show Di n acc=_;unfold Di;rw[decide_eq_true hn,cT,Gp (by unfold Mc; simp; omega),obs,Aj (n:=n.tdiv 10) (by omega) (by omega)]
  ·refine ⟨acc,Aq ?_,by omega⟩
   show Di n acc=_;unfold Di;rw[decide_eq_false hn,cF]
noncomputable def A85 (n:Int):Str:=(Dv n).getD []
theorem Ab5 {n:Int} (h0 : 0<=n) (hn:n<=1000):Dv n=some (A85 n):=by
 have key:∃ t,Dv n=some t:=by
  unfold Dv;by_cases h:n<=0
  ·rw[decide_eq_true h]; exact ⟨_,rfl⟩
  ·obtain ⟨t,e,ht⟩:=A4G 1001 n [] h0 (by omega) (by simp);rw[decide_eq_false h,cF,e,obs,Gp (by simp; omega),obs];exact ⟨_,rfl⟩
 obtain ⟨t,e⟩:=key;unfold A85;rw[e];rfl
noncomputable def Mn (n:Nat):List Str:=(List.range n).map fun (i:Nat)=>A85 (1 + (i:Int))
theorem HO (n:Nat):(Mn n).length=n:=by simp[Mn]
theorem Bb7 {n k:Nat} (h:k<n):(Mn n)[k]? = some (A85 (1 + (k:Int))):=by simp[Mn,h]
theorem A6w (k:Nat):Mn (k + 1)=Mn k ++ [A85 (1 + (k:Int))]:=by simp[Mn,List.range_succ]
theorem Au5 {l:List Str} (hl:l.length<=900):EL l 1=some (Mn l.length,1 + (l.length:Int)):=by
 obtain ⟨_,h1,_⟩:=CJ (body:=fun (s:(List Str×(Int×Int)))=>Ce s.1 s.2.1 s.2.2) (fun k (_:Unit)=>(Mn k++l.drop k,(1 + (k:Int),(k:Int)))) (fun _=>(Mn l.length,1 + (l.length:Int))) (fun _ _=>True) l.length (by
  intro k _ hk _;refine ⟨(),?_,trivial⟩
  have hlen:(Mn k++l.drop k).length=l.length:=by rw[zc7,HO,List.length_drop]; omega
  have hg:AV (Mn k++l.drop k) k=some l[k]:=by
   show (Mn k++l.drop k)[k]? = _;rw[List.getElem?_append_right (by rw[HO]; omega),HO,Nat.sub_self,zd3,Nat.add_zero,za1 hk]
  show Ce (Mn k++l.drop k) (1 + (k:Int)) (k:Int)=_;unfold Ce;rw[hlen,decide_eq_true (by omega),cT,Ab5 (by omega) (by omega),obs,A0 hk,obs,hg,obs,AM (by omega),Aj (by omega) (by omega)];rw[zb0 hk,A6w,List.set_append_right _ _ (by rw[HO]; omega),HO,Nat.sub_self,List.set_cons_zero,List.append_assoc,show (1 + (k:Int)) + 1=1 + ((k + 1:Nat):Int) by omega];rfl) (by
  intro _ _;show Ce (Mn l.length++l.drop l.length) (1 + (l.length:Int)) (l.length:Int)=_;rw[List.drop_length,ze5];unfold Ce;rw[HO,decide_eq_false (by omega),cF]) 0 () (by omega) trivial
 have h1':Ah (fun (s:(List Str×(Int×Int)))=>Ce s.1 s.2.1 s.2.2) (l,((1:Int),(0:Int)))=_:=h1;unfold EL;rw[h1',obs]
theorem Au3 {n:Nat} (hl:n<=900):Ds (Mn n) 1=some (1 + (n:Int)):=by
 obtain ⟨_,h1,_⟩:=CJ (body:=fun (s:(List Str×(Int×Int)))=>Ca s.1 s.2.1 s.2.2) (fun k (_:Unit)=>(Mn n,(1 + (k:Int),(k:Int)))) (fun _=>.inl (1 + (n:Int))) (fun _ _=>True) n (by
  intro k _ hk _;refine ⟨(),?_,trivial⟩
  show Ca (Mn n) (1 + (k:Int)) (k:Int)=_;unfold Ca;rw[HO,decide_eq_true (by omega),cT,An,Bb7 hk,obs,Ab5 (by omega) (by omega),obs,beq_self_eq_true,nT,cF,AM (by omega),Aj (by omega) (by omega),show (1 + (k:Int)) + 1=1 + ((k + 1:Nat):Int) by omega]) (by
  intro _ _;show Ca (Mn n) (1 + (n:Int)) (n:Int)=_;unfold Ca;rw[HO,decide_eq_false (by omega),cF]) 0 () (by omega) trivial
 have h1':Ah (fun (s:(List Str×(Int×Int)))=>Ca s.1 s.2.1 s.2.2) (Mn n,((1:Int),(0:Int)))=_:=h1;unfold Ds;rw[h1',obs];rfl
end
section
open Go
theorem Tx (s:Str) (w:BN):C7 s w=some true:=by
 unfold C7;by_cases h:(s.length:Int)>1048576
 ·rw[decide_eq_true h]; rfl
 ·have hs:=A5V (s:=s) (by omega) w;have hi:=A6v (s:=s) (by omega) w;have hl:=A6S (s:=s) (w:=w);have tw:En w=some w:=by unfold En; rfl
  generalize A1E w (QT s w)=v at hs hi hl;have hm:(Mn v.1.length).length=v.1.length:=HO _;have hx:∀ n:Int,(n != n)=false:=fun n=>by simp[bne]
  rw[decide_eq_false h,cF];simp only[A6];rw[tw,obs,hs,obs,obs,hi,obs,Nd (by omega),obs,nT,cF,beq_self_eq_true,nT,cF,Au5 (by omega),obs];simp only[hm,decide_true,cond_true];rw[Au3 (by omega),obs,decide_eq_false (by omega),cF,hx,cF,obs,hi,obs,Nd (by omega),obs,nT,cF,beq_self_eq_true,nT,cF]
  try rw[obs]
  try rw[decide_eq_false (by omega)]
  try rw[cF]
  try rw[hx,cF]
end
end Go.Proofs.YtiijheppiboglaaGreatDoor.Ev
section
namespace Go.Proofs.YtiijheppiboglaaGreatDoor.Ev
open Go Go.RowKit Go.ChangeShapes Go.WideShapes Go.ChangeAt
set_option maxRecDepth 100000
def shs:List Sh:=[.str,.pair (.int .i64) (.pair (.int .i64) (.pair (.int .i64) (.int .i64)))]
theorem fits:A48 Tryz.prog [9,55] shs:=by
 exact ⟨.str (by kernel_rfl),.st Tryz.underlying55 (by kernel_rfl) (.cons rfl (by kernel_rfl) (.int (by kernel_rfl)) (.cons rfl (by kernel_rfl) (.int (by kernel_rfl)) (.cons rfl (by kernel_rfl) (.int (by kernel_rfl)) (.one rfl (by kernel_rfl) (.int (by kernel_rfl)))))),trivial⟩
theorem own:ownKnob Tryz.prog.godebug=none:=by kernel_rfl
theorem laid:laidOutB Tryz.prog=true:=by kernel_rfl
theorem door_met (os:Os) (args:Array Value):laidMetH Tryz.prog Rows.fnExactRowsForRow.laid ((World.laidAll Tryz.prog os Rows.fnExactRowsForRow.laid).forCall (fun _ _=>0) ⟨#[],args,[]⟩).memory:=by
 rw[MakeChecks.laidMetH_plain _ _ _ (by kernel_rfl)];exact laidMet_laidAll _ (by kernel_rfl) (by kernel_rfl)
theorem starE : "*" ++ "errors.errorString" = "*errors.errorString" := by decide
def ids:List Nat:=[0,1,2,3]
theorem libJ {W:World} (hsh:W.ShapedOpen Tryz.prog) (hL:laidMetH Tryz.prog Rows.fnExactRowsForRow.laid W):LibJ (Jof W ids):=by
 rw[MakeChecks.laidMetH_plain _ _ _ (by kernel_rfl)] at hL;have hP:laidMet Tryz.prog Rows.fnExactRowsForRow.laid W:=hL;have htab:Lib.TabIs Tryz.prog W "internal/strconv.uint64pow10" .u64 Lib.pow10Tab:=Lib.tabIs_of_head (g:=3) (t:=254) (e:=113) (n:=20) (by kernel_rfl) (by kernel_rfl) (by kernel_rfl) (by kernel_rfl) (by kernel_rfl) (by kernel_rfl) (show laidMet Tryz.prog ((_,Lib.tabData .u64 Lib.pow10Tab)::_) W from JO 2 hP)
 have hmax:∃ m:Int,W.cell? ⟨2,0,none⟩=some (.int .i64 m):=Go.Proofs.cell_of_shapedOpen_int (zero:=#[.int .i64 0]) (t:=3) hsh (of_decide_eq_true (by kernel_rfl)) (by kernel_rfl) rfl (by kernel_rfl) (by kernel_rfl) Tryz.underlying3;have hsyn:∃ tp p,W.var? Tryz.prog "strconv.ErrSyntax" = some #[.iface tp p]:=by
  obtain ⟨a,s,hv,_⟩:=laid_sentinel (g:=0) (ti:=125) (tp:=259) (te:=261) (ts:=9) (JO 5 hP) (by kernel_rfl) (by kernel_rfl) Tryz.underlying125 (fun u h=>typeName_ptr_named (nm := "errors.errorString") (by rw[starE]; kernel_rfl) (by kernel_rfl) (by decide) u (by rw[starE]; exact h)) Tryz.underlying259 Tryz.underlying261 rfl rfl Tryz.underlying9 (by kernel_rfl) (by kernel_rfl);exact ⟨_,_,hv⟩
 have hrng:∃ tp p,W.var? Tryz.prog "strconv.ErrRange" = some #[.iface tp p]:=by
  obtain ⟨a,s,hv,_⟩:=laid_sentinel (g:=1) (ti:=125) (tp:=259) (te:=261) (ts:=9) (JO 4 hP) (by kernel_rfl) (by kernel_rfl) Tryz.underlying125 (fun u h=>typeName_ptr_named (nm := "errors.errorString") (by rw[starE]; kernel_rfl) (by kernel_rfl) (by decide) u (by rw[starE]; exact h)) Tryz.underlying259 Tryz.underlying261 rfl rfl Tryz.underlying9 (by kernel_rfl) (by kernel_rfl);exact ⟨_,_,hv⟩
 unfold ids;exact { tab:=By5 (g:=3) (by kernel_rfl) (by simp) htab,max:=By7 (g:=2) (by simp) hmax,syn:=Bu8 (g:=0) (by kernel_rfl) (by simp) hsyn,rng:=Bu8 (g:=1) (by kernel_rfl) (by simp) hrng }
theorem lifted (os:Os) (started:os.Started) (H:Type) (enc:TypeId×Value->H) :
  ReturnsInHanded {} Tryz.checked os 7 .any (fun w args=>(Rows.fnExactRowsForSpec.pre enc Tryz.prog Tryz.f7 [] false w args/\laidMetH Tryz.prog Rows.fnExactRowsForRow.laid w)/\sizedMet enc Tryz.prog Tryz.f7 (OpenSpec.ofChange Rows.fnExactRowsForSpec) false w args)
   (Rows.fnExactRowsForSpec.post enc Tryz.prog Tryz.f7 false true false false):=by
 refine Qf (C:=Tryz.checked) (X:=fun w _=>laidMetH Tryz.prog Rows.fnExactRowsForRow.laid w) (fun _ _ _ hh h=>h.of_heap hh) own started (by kernel_rfl) Tryz.func7
  (ChangeSpec.witness_shaped (enc:=enc) (C:=Tryz.checked) (os:=os) (X:=fun w _=>laidMetH Tryz.prog Rows.fnExactRowsForRow.laid w) false (World.laidAll Tryz.prog os Rows.fnExactRowsForRow.laid) #[.string ⟨#[]⟩,.agg #[.int .i64 0,.int .i64 0,.int .i64 0,.int .i64 0]] 8 (World.laidAll_os _ _ _) (World.shaped_of_ZipB (by kernel_rfl) (by kernel_rfl)) (by kernel_rfl) (by kernel_rfl) (by kernel_rfl) (door_met os _)) ?_
 intro W base args ds gs before hval hW hsz hsh hL;exact Ax8 (P:=Tryz.prog) (J:=Jof W ids) (cf:=cf0) (ext:=Bn8) (F:=fun x=>C7 x.1 x.2) (shs:=shs) (by kernel_rfl) (A8y (libJ hsh hL)) Sc (fun d=>by kernel_rfl)
  (fun d hd=>Tx d.1 d.2) rfl rfl (by kernel_rfl) fits laid
  (fun t ht=>by
   have:t=9\/t=55:=by simpa using ht
   rcases this with rfl | rfl <;> exact ⟨by kernel_rfl,of_decide_eq_true (by kernel_rfl)⟩) rfl
  (fun ds hl=>by
   match ds,hl with
   | [_,_],_=>rfl) A9M hval hW hsz
theorem hfn:Tryz.prog.funcNamed "loop.example/g00409/laws.FnExactRowsFor" = some 7:=by kernel_rfl
theorem closed:joinedFacts Tryz.prog 7 Tryz.f7 Rows.fnExactRowsForSpec Rows.fnExactRowsForRow=true:=by
 unfold joinedFacts;simp only[za2]
 repeat' apply And.intro
 all_goals (as_aux_lemma=>kernel_rfl)
theorem over:Rows.fnExactRowsForRow.holds Tryz.pinned (OpenSpec.ofChange Rows.fnExactRowsForSpec) :=
 OpenClaim.holds_of_wide 7 Tryz.f7 rfl rfl rfl rfl rfl rfl rfl ⟨rfl,rfl,rfl,rfl,rfl⟩ rfl rfl rfl rfl rfl hfn Tryz.func7 closed
  (of_decide_eq_true (by as_aux_lemma=>kernel_rfl)) (by unfold Func.isWrapper; first | (rw[if_pos (by decide +kernel)]; kernel_rfl) | (rw[if_neg (by decide +kernel)]; exact ⟨rfl,rfl⟩))
  (fun os started H enc _=>lifted os started H enc)
theorem carded:Rows.FnExactRowsForCardSaid :=
 Claim7.holds_tied_plain_at .later [] [.data,.data,.data,.data,.sentinel,.sentinel,.pinned] true (true, "468de68268811ac350c0866b8afcc88575c2e10ab6507847880ba7abcce4bdc1") true
  over (fun _ h=>by cases h) (by as_aux_lemma=>kernel_rfl) (fun _ h=>by cases h) fnExactRowsFor_row_tie rfl ⟨rfl,rfl⟩ (by as_aux_lemma=>kernel_rfl) rfl
  (fun f fn hf hf2=>by
   obtain rfl:f=7:=Option.some.inj (hfn.symm.trans hf) |>.symm
   obtain rfl:fn=Tryz.f7:=(Option.some.inj (Tryz.func7.symm.trans hf2)).symm;exact ⟨by as_aux_lemma=>kernel_rfl,fun j t ht=>by
    rw[show Tryz.f7.params = #[9,55] from rfl] at ht;have hm:t∈[9,55]:=by simpa using Array.mem_of_getElem? ht
    have hall:([9,55].all fun u=>!Tryz.prog.wantsStandIn u)=true:=by kernel_rfl
    exact (show Tryz.prog.wantsStandIn t=false by simpa using za5.1 hall t hm)⟩)
  (by as_aux_lemma=>kernel_rfl)
end Go.Proofs.YtiijheppiboglaaGreatDoor.Ev
namespace Go.Proofs.YtiijheppiboglaaGreatDoor
theorem fnExactRowsFor_holds:Rows.FnExactRowsForSaid:=Ev.over
theorem fnExactRowsFor_card_holds:Rows.FnExactRowsForCardSaid:=Ev.carded
#print axioms fnExactRowsFor_card_holds
end Go.Proofs.YtiijheppiboglaaGreatDoor

end
