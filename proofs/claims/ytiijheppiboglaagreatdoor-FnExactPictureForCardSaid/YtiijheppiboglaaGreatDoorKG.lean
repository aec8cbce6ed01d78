/- Whatever comes in, the law of this claim answers true, and nothing that was handed in changes. -/
import Derived.Test.YtiijheppiboglaaGreatDoorKF
import Derived.Test.YtiijheppiboglaaGreatDoorRows
import Derived.Test.YtiijheppiboglaaGreatDoorCards
import Derived.Test.YtiijheppiboglaaGreatDoorTie
import Derived.WalkKit
import Derived.ProofKit
import Derived.OpenShut
import Derived.ShutString
import Derived.ChangeOld
import Derived.Below
import Derived.SizedLaws
import Derived.SevenTiedAt
import Derived.LaidMore
import Derived.Lay
import Derived.Stop.Joined
import Derived.Test.YtiijheppiboglaaGreatDoorChecked
set_option maxHeartbeats 2000000
open Option renaming bind_some → za0, map_eq_some_iff → zb5, map_some → zd8
open List renaming getElem?_eq_getElem → za1, getElem?_eq_some_iff → za3, mem_of_getElem? → za4, all_eq_true → za5, drop_eq_getElem_cons → zb0, mem_flatMap → zb1, flatMap_cons → zb3, mem_append → zb4, getD_eq_getElem?_getD → zb6, eq_nil_of_length_eq_zero → zb7, map_cons → zb8, getElem?_take → zb9, length_cons → zc0, take_of_length_le → zc3, mem_cons → zc5, getElem?_map → zc8, all_cons → zc9, length_pos_iff → zd0, drop_eq_nil_of_le → zd1, getElem?_drop → zd2, length_append → zd3, mem_map → zd4, length_map → zd5, getElem?_eq_none → ze1, append_nil → ze6, drop_zero → ze7, length_nil → ze9
open Bool renaming and_eq_true → za2, false_eq_true → zc2, true_and → ze2
open Nat renaming eq_of_beq_eq_true → za6, le_refl → za7, mul_le_mul_right → zd6, lt_of_lt_of_le → zd7, lt_or_ge → zd9, zero_add → ze4, le_trans → ze5, add_mul → zf0
open Sum renaming elim_inr → za8
open Int renaming mul_le_mul_of_nonneg_right → za9, mul_le_mul_of_nonneg_left → zb2, toNat_natCast → zc4, tmod_eq_emod_of_nonneg → zc6, tdiv_eq_ediv_of_nonneg → zc7, mul_add → ze0, le_of_lt → ze3, mul_nonneg → ze8
open Array renaming getD_eq_getD_getElem? → zc1
set_option linter.unusedVariables false
set_option linter.unusedSimpArgs false
set_option linter.unusedSectionVars false
namespace Go.Proofs.YtiijheppiboglaaGreatDoor.Ev
section
open Go
theorem Ay3 {x y:Int} (hx : -100<=x/\x<=100) (hy : -100<=y/\y<=100):SzP 2 (ES x y):=⟨UQ (by omega) (by omega),UQ (by omega) (by omega)⟩
theorem A0H {x y:Int}:(((rqF (x:Rat)).1,((rqF (x:Rat)).2.1,((rqF (x:Rat)).2.2.1,((rqF (x:Rat)).2.2.2,rqF (y:Rat))))))=fl (rp (ES x y)):=(rfl)
theorem A2R {q:Rat} (h:(Rt q).2=false):Rt q=(zF,false):=by
 by_cases hz:Sz 40 q
 ·rw[JI hz] at h; cases h
 ·exact QK hz
theorem A5N {l:List RPt} (hl:l.length<=1000) (hb:∀ x∈l,BrP x) {x y:Int} (hx : -90<=x/\x<=90) (hy : -90<=y/\y<=90):∃ f:RF×Bool,D8 l x y=some f/\El l x y=some f/\(f.2=false->f=(zF,false)) /\
  (f.2=true->∃ ps,SzR ps/\l=ps.map rp/\SzR (RM (ES x y) (ES (x + 1) (y + 1)) ps)/\Sz 40 (sqA ps x y/2)/\f=(rqF (sqA ps x y/2),true)):=by
 have c1:=Ay3 (x:=x) (y:=y) (by omega) (by omega);have c2:=Ay3 (x:=x + 1) (y:=y + 1) (by omega) (by omega);obtain ⟨f,f1,f2,_,f4⟩:=A1j hl hb (Ah9 (k:=2) (by omega) c1) (Ah9 (k:=2) (by omega) c2);have i1:D8 l x y=(bif !f.2 then some (zF,false) else (FC f.1).bind fun x5=>some (x5.1,x5.2)):=by
  unfold D8;rw[Ip (by omega) (by omega),obs,Ip (by omega) (by omega),obs,Aj (by omega) (by omega),Ip (by omega) (by omega),obs,Aj (by omega) (by omega),Ip (by omega) (by omega),obs];simp only[A2,A4];rw[A0H,A0H,f1,obs];rfl
 have s1:El l x y=(bif !f.2 then some (zF,false) else (GD f.1).bind fun x3=>(Ed x3).bind fun x4=>some (x4.1,x4.2)):=by
  have h1:SmP (x,y):=by unfold SmP; simp only; omega
  have h2:SmP (x + 1,y + 1):=by unfold SmP; simp only; omega
  unfold El;rw[Ae2 h1,obs,Aj (by omega) (by omega),Aj (by omega) (by omega),Ae2 h2,obs];simp only[A2,A4];rw[show ptQ (x,y)=ES x y from rfl,show ptQ (x + 1,y + 1)=ES (x + 1) (y + 1) from rfl,f2,obs];rfl
 rw[i1,s1];cases h:f.2 with
 | false =>
  exact ⟨(zF,false),by rw[nF,cT],by rw[nF,cT],fun _=>rfl,fun h=>by cases h⟩
 | true =>
  obtain ⟨ps,lo,hi,hps,hlo,hhi,hx',hy',el,ea,ec,hm,ef⟩:=f4 h;have e1:lo=ES x y:=AF9 ea.symm;have e2:hi=ES (x + 1) (y + 1):=AF9 ec.symm;rw[e1,e2] at hm ef;have ef1:f.1=(RM (ES x y) (ES (x + 1) (y + 1)) ps).map rp:=by rw[ef]
  refine ⟨Rt (sqA ps x y/2),?_,?_,A2R,fun hf=>?_⟩
  ·rw[nT,cF,ef1,A10 hm,obs];simp only[A4,sqA]
  ·rw[nT,cF,ef1,(XO hm).1,obs,T8 (k:=2722) (by omega) (XO hm).2,obs];simp only[A4,sqA]
  ·by_cases hz:Sz 40 (sqA ps x y/2)
   ·exact ⟨ps,hps,el,hm,hz,JI hz⟩
   ·rw[QK hz] at hf; cases hf
noncomputable def shV (l:List RPt) (x y:Int):RF×Bool:=(D8 l x y).getD (zF,false)
theorem UM {l:List RPt} (hl:l.length<=1000) (hb:∀ x∈l,BrP x) {x y:Int} (hx : -90<=x/\x<=90) (hy : -90<=y/\y<=90):D8 l x y=some (shV l x y)/\El l x y=some (shV l x y)/\((shV l x y).2=false->shV l x y=(zF,false)) /\
  ((shV l x y).2=true->∃ ps,SzR ps/\l=ps.map rp/\SzR (RM (ES x y) (ES (x + 1) (y + 1)) ps)/\Sz 40 (sqA ps x y/2)/\shV l x y=(rqF (sqA ps x y/2),true)):=by
 obtain ⟨f,h1,h2,h3',h4⟩:=A5N hl hb hx hy;have e:shV l x y=f:=by unfold shV; rw[h1]; rfl
 rw[e];exact ⟨h1,h2,h3',h4⟩
noncomputable def Li (l:List RPt) (y:Int):Nat->Int->Option (List RQ)
 | 0,_=>some []
 | n + 1,x=>if (shV l x y).2=true then (Li l y n (x + 1)).map (toQ (shV l x y).1 :: ·) else none
noncomputable def I6 (l:List RPt) (w:Nat) (x:Int):Nat->Int->Option (List RQ)
 | 0,_=>some []
 | n + 1,y=>(Li l y w x).bind fun r=>(I6 l w x n (y + 1)).map (r ++ ·)
abbrev Cp:=Int×(Int×(Int×Int))
def Ap3 {α:Type} (f:List RQ->α):Option (List RQ)->α ⊕ (List RQ×Bool)
 | some r=>.inl (f r)
 | none=>.inr ([],false)
theorem Bf0 {l:List RQ} {x:RQ} (h:l.length<=100000):De 64 4 l [x]=some (l ++ [x]):=F9 (by simp[Ag]; omega) (by simp[Ag]; omega)
section
variable {l:List RPt} (hl:l.length<=1000) (hb:∀ x∈l,BrP x) {w:Cp} (w1 : -40<=w.1/\w.1<=40) (w2 : -40<=w.2.1/\w.2.1<=40) (w3 : 0<=w.2.2.1/\w.2.2.1<=40) (w4 : 0<=w.2.2.2/\w.2.2.2<=40)
include hl hb w1 w2 w3 w4
theorem Ah2 {y:Int} (hy:w.2.1<=y/\y<w.2.1 + w.2.2.2):∀ (n:Nat) (x:Int) (out:List RQ),x + (n:Int)=w.1 + w.2.2.1->w.1<=x->out.length + n<=10000 ->
  Ah (fun (s:(Cp×((List RQ)×((List RPt)×(Int×Int)))))=>B7 s.1 s.2.1 s.2.2.1 s.2.2.2.1 s.2.2.2.2) (w,(out,(l,(y,x)))) =
   some (Ap3 (fun r=>(w,(out++r,(l,y)))) (Li l y n x))
 | 0,x,out,hx,hx',ho=>by
  refine Aq ?_
  show B7 w out l y x=_;unfold B7;rw[Aj (by omega) (by omega),decide_eq_false (by omega),cF,Li];exact congrArg (fun z=>some (Sum.inr (Sum.inl (w,(z,(l,y)))))) (ze6 out).symm
 | n + 1,x,out,hx,hx',ho=>by
  obtain ⟨s1,s2,_,s4⟩:=UM hl hb (x:=x) (y:=y) (by omega) (by omega);rw[Li];cases h:(shV l x y).2 with
  | false =>
   rw[if_neg (by simp)];refine Aq ?_
   show B7 w out l y x=_;unfold B7;rw[Aj (by omega) (by omega),decide_eq_true (by omega),cT,s1,obs,h,nF,cT];rfl
  | true =>
   rw[if_pos rfl];have hgo:B7 w out l y x=some (.inl (w,(out ++ [toQ (shV l x y).1],(l,(y,x + 1))))):=by
    unfold B7;rw[Aj (n:=w.1 + w.2.2.1) (by omega) (by omega),decide_eq_true (by omega),cT,s1,obs,h,nT,cF,Bf0 (by omega),obs,Aj (n:=x + 1) (by omega) (by omega)];rfl
   refine (AY (f:=fun (s:(Cp×((List RQ)×((List RPt)×(Int×Int)))))=>B7 s.1 s.2.1 s.2.2.1 s.2.2.2.1 s.2.2.2.2) (s:=(w,(out,(l,(y,x))))) hgo).trans ?_
   rw[Ah2 hy n (x + 1) _ (by omega) (by omega) (by rw[zd3,List.length_singleton]; omega)];cases Li l y n (x + 1) with
   | none=>rfl
   | some r=>simp[Ap3]
theorem Ak6 {y:Int} (hy:w.2.1<=y/\y<w.2.1 + w.2.2.2):∀ (n:Nat) (x:Int) (out:List RQ),x + (n:Int)=w.1 + w.2.2.1->w.1<=x->out.length + n<=10000 ->
  Ah (fun (s:(Cp×((List RQ)×((List RPt)×(Int×Int)))))=>Ca s.1 s.2.1 s.2.2.1 s.2.2.2.1 s.2.2.2.2) (w,(out,(l,(y,x)))) =
   some (Ap3 (fun r=>(w,(out++r,(l,y)))) (Li l y n x))
 | 0,x,out,hx,hx',ho=>by
  refine Aq ?_
  show Ca w out l y x=_;unfold Ca;rw[Aj (by omega) (by omega),decide_eq_false (by omega),cF,Li];exact congrArg (fun z=>some (Sum.inr (Sum.inl (w,(z,(l,y)))))) (ze6 out).symm
 | n + 1,x,out,hx,hx',ho=>by
  obtain ⟨s1,s2,_,s4⟩:=UM hl hb (x:=x) (y:=y) (by omega) (by omega);rw[Li];cases h:(shV l x y).2 with
  | false =>
   rw[if_neg (by simp)];refine Aq ?_
   show Ca w out l y x=_;unfold Ca;rw[Aj (by omega) (by omega),decide_eq_true (by omega),cT,s2,obs,h,nF,cT];rfl
  | true =>
   rw[if_pos rfl];have hgo:Ca w out l y x=some (.inl (w,(out ++ [toQ (shV l x y).1],(l,(y,x + 1))))):=by
    unfold Ca;rw[Aj (n:=w.1 + w.2.2.1) (by omega) (by omega),decide_eq_true (by omega),cT,s2,obs,h,nT,cF,Bf0 (by omega),obs,Aj (n:=x + 1) (by omega) (by omega)];rfl
   refine (AY (f:=fun (s:(Cp×((List RQ)×((List RPt)×(Int×Int)))))=>Ca s.1 s.2.1 s.2.2.1 s.2.2.2.1 s.2.2.2.2) (s:=(w,(out,(l,(y,x))))) hgo).trans ?_
   rw[Ak6 hy n (x + 1) _ (by omega) (by omega) (by rw[zd3,List.length_singleton]; omega)];cases Li l y n (x + 1) with
   | none=>rfl
   | some r=>simp[Ap3]
theorem Z0 (y:Int):∀ (n:Nat) (x:Int) (r:List RQ),Li l y n x=some r->r.length=n
 | 0,x,r,h=>by
  rw[Li] at h;rw[<-Option.some.inj h]; rfl
 | n + 1,x,r,h=>by
  rw[Li] at h
  split at h
  ·cases hr:Li l y n (x + 1) with
   | none=>rw[hr] at h; cases h
   | some r' =>
    rw[hr] at h;rw[<-Option.some.inj h,zc0,Z0 y n (x + 1) r' hr]
  ·cases h
theorem Af4:∀ (n:Nat) (y:Int) (out:List RQ),y + (n:Int)=w.2.1 + w.2.2.2->w.2.1<=y->out.length + 40*n<=9000 ->
  Ah (fun (s:(Cp×((List RQ)×((List RPt)×Int))))=>BO s.1 s.2.1 s.2.2.1 s.2.2.2) (w,(out,(l,y))) =
   some (Ap3 (fun r=>out++r) (I6 l w.2.2.1.toNat w.1 n y))
 | 0,y,out,hy,hy',ho=>by
  refine Aq ?_
  show BO w out l y=_;unfold BO;rw[Aj (by omega) (by omega),decide_eq_false (by omega),cF,I6];exact congrArg (fun z=>some (Sum.inr (Sum.inl z))) (ze6 out).symm
 | n + 1,y,out,hy,hy',ho=>by
  have row:=Ah2 hl hb w1 w2 w3 w4 (y:=y) (by omega) w.2.2.1.toNat w.1 out (by omega) (by omega) (by omega);rw[I6];cases h:Li l y w.2.2.1.toNat w.1 with
  | none =>
   rw[h] at row;change _=some (Sum.inr (([]:List RQ),false)) at row;refine Aq ?_
   show BO w out l y=_;unfold BO;rw[Aj (by omega) (by omega),decide_eq_true (by omega),cT,row,obs,sEr];rfl
  | some r =>
   rw[h] at row;change _=some (Sum.inl (w,(out++r,(l,y)))) at row;have hlen:=Z0 hl hb w1 w2 w3 w4 y _ _ _ h;have hgo:BO w out l y=some (.inl (w,(out++r,(l,y + 1)))):=by
    unfold BO;rw[Aj (n:=w.2.1 + w.2.2.2) (by omega) (by omega),decide_eq_true (by omega),cT,row,obs,sEl,Aj (n:=y + 1) (by omega) (by omega)]
   refine (AY (f:=fun (s:(Cp×((List RQ)×((List RPt)×Int))))=>BO s.1 s.2.1 s.2.2.1 s.2.2.2) (s:=(w,(out,(l,y)))) hgo).trans ?_
   rw[Af4 n (y + 1) _ (by omega) (by omega) (by rw[zd3]; omega)];show _=some (Ap3 (fun r=>out++r) ((I6 l w.2.2.1.toNat w.1 n (y + 1)).map (r ++ ·)));cases I6 l w.2.2.1.toNat w.1 n (y + 1) with
   | none=>rfl
   | some r'=>simp[Ap3]
theorem ZP:∀ (n:Nat) (y:Int) (out:List RQ),y + (n:Int)=w.2.1 + w.2.2.2->w.2.1<=y->out.length + 40*n<=9000 ->
  Ah (fun (s:(Cp×((List RQ)×((List RPt)×Int))))=>BN s.1 s.2.1 s.2.2.1 s.2.2.2) (w,(out,(l,y))) =
   some (Ap3 (fun r=>out++r) (I6 l w.2.2.1.toNat w.1 n y))
 | 0,y,out,hy,hy',ho=>by
  refine Aq ?_
  show BN w out l y=_;unfold BN;rw[Aj (by omega) (by omega),decide_eq_false (by omega),cF,I6];exact congrArg (fun z=>some (Sum.inr (Sum.inl z))) (ze6 out).symm
 | n + 1,y,out,hy,hy',ho=>by
  have row:=Ak6 hl hb w1 w2 w3 w4 (y:=y) (by omega) w.2.2.1.toNat w.1 out (by omega) (by omega) (by omega);rw[I6];cases h:Li l y w.2.2.1.toNat w.1 with
  | none =>
   rw[h] at row;change _=some (Sum.inr (([]:List RQ),false)) at row;refine Aq ?_
   show BN w out l y=_;unfold BN;rw[Aj (by omega) (by omega),decide_eq_true (by omega),cT,row,obs,sEr];rfl
  | some r =>
   rw[h] at row;change _=some (Sum.inl (w,(out++r,(l,y)))) at row;have hlen:=Z0 hl hb w1 w2 w3 w4 y _ _ _ h;have hgo:BN w out l y=some (.inl (w,(out++r,(l,y + 1)))):=by
    unfold BN;rw[Aj (n:=w.2.1 + w.2.2.2) (by omega) (by omega),decide_eq_true (by omega),cT,row,obs,sEl,Aj (n:=y + 1) (by omega) (by omega)]
   refine (AY (f:=fun (s:(Cp×((List RQ)×((List RPt)×Int))))=>BN s.1 s.2.1 s.2.2.1 s.2.2.2) (s:=(w,(out,(l,y)))) hgo).trans ?_
   rw[ZP n (y + 1) _ (by omega) (by omega) (by rw[zd3]; omega)];show _=some (Ap3 (fun r=>out++r) ((I6 l w.2.2.1.toNat w.1 n (y + 1)).map (r ++ ·)));cases I6 l w.2.2.1.toNat w.1 n (y + 1) with
   | none=>rfl
   | some r'=>simp[Ap3]
end
def IF (w:Cp):Bool:=Dh w.1 (-20) 20&&(Dh w.2.1 (-20) 20&&(Dh w.2.2.1 1 8&&Dh w.2.2.2 1 8))
theorem Nl (w:Cp):Da w=some (IF w):=by
 unfold Da IF;rw[Uh,obs];cases Dh w.1 (-20) 20 with
 | false=>rfl
 | true =>
  rw[cT,Uh,obs];cases Dh w.2.1 (-20) 20 with
  | false=>rfl
  | true =>
   rw[cT,Uh,obs];cases Dh w.2.2.1 1 8 with
   | false=>rfl
   | true=>rw[cT,Uh,obs]; rfl
theorem NZ (w:Cp):C6 w=some (IF w):=by
 unfold C6 IF;rw[V7,obs];cases Dh w.1 (-20) 20 with
 | false=>rfl
 | true =>
  rw[cT,V7,obs];cases Dh w.2.1 (-20) 20 with
  | false=>rfl
  | true =>
   rw[cT,V7,obs];cases Dh w.2.2.1 1 8 with
   | false=>rfl
   | true=>rw[cT,V7,obs]; rfl
theorem WJ {w:Cp}:IF w=true↔(-20<=w.1/\w.1<=20)/\(-20<=w.2.1/\w.2.1<=20)/\(1<=w.2.2.1/\w.2.2.1<=8)/\(1<=w.2.2.2/\w.2.2.2<=8):=by
 unfold IF;rw[za2,za2,za2,KK,KK,KK,KK]
theorem A1q {l:List RPt} (hl:l.length<=1000) (hb:∀ x∈l,BrP x) (w:Cp):∃ f:List RQ×Bool,B8 l w=some f/\CO l w=some f /\
  (f.2=false->f.1 = [])/\(f.2=true->HL l=true/\IF w=true/\I6 l w.2.2.1.toNat w.1 w.2.2.2.toNat w.2.1=some f.1):=by
 cases hw:IF w with
 | false =>
  refine ⟨([],false),?_,?_,fun _=>rfl,fun h=>by cases h⟩
  ·unfold B8;simp only[A2,A4];rw[C9 (by omega) hb,obs];cases HL l with
   | false=>rw[nF,cT]
   | true=>rw[nT,cF,Nl,obs,hw,nF,cT]
  ·unfold CO;simp only[A2,A4];rw[NZ,obs,hw,nF,cT]
 | true =>
  obtain ⟨w1,w2,w3,w4⟩:=WJ.1 hw;have il:=Af4 hl hb (w:=w) (by omega) (by omega) (by omega) (by omega) w.2.2.2.toNat w.2.1 [] (by omega) (by omega) (by simp; omega);have sl:=ZP hl hb (w:=w) (by omega) (by omega) (by omega) (by omega) w.2.2.2.toNat w.2.1 [] (by omega) (by omega) (by simp; omega);have ss:CO l w=some (match I6 l w.2.2.1.toNat w.1 w.2.2.2.toNat w.2.1 with | some r=>(r,true) | none=>(([]:List RQ),false)):=by
   unfold CO;simp only[A2,A4];have sl':Ah (fun (s:(Cp×((List RQ)×((List RPt)×Int))))=>BN s.1 s.2.1 s.2.2.1 s.2.2.2) (w,((List.nil:List RQ),(l,w.2.1)))=_:=sl;rw[NZ,obs,hw,nT,cF,sl',obs];cases I6 l w.2.2.1.toNat w.1 w.2.2.2.toNat w.2.1 with
   | none=>rfl
   | some r=>rfl
  cases hg:HL l with
  | false =>
   have hn:I6 l w.2.2.1.toNat w.1 w.2.2.2.toNat w.2.1=none:=by
    obtain ⟨s1,s2,_,s4⟩:=UM hl hb (x:=w.1) (y:=w.2.1) (by omega) (by omega);have h0:(shV l w.1 w.2.1).2=false:=by
     cases h:(shV l w.1 w.2.1).2 with
     | false=>rfl
     | true =>
      obtain ⟨ps,hps,el,_⟩:=s4 h;rw[el,Id.2 hps] at hg;cases hg
    obtain ⟨n,hn⟩:∃ n,w.2.2.1.toNat=n + 1:=⟨w.2.2.1.toNat-1,by omega⟩;obtain ⟨m,hm⟩:∃ m,w.2.2.2.toNat=m + 1:=⟨w.2.2.2.toNat-1,by omega⟩;rw[hn,hm,I6,Li,h0,if_neg (by simp)];rfl
   rw[hn] at ss;refine ⟨([],false),?_,ss,fun _=>rfl,fun h=>by cases h⟩
   unfold B8;rw[C9 (by omega) hb,obs,hg,nF,cT]
  | true =>
   have ii:B8 l w=some (match I6 l w.2.2.1.toNat w.1 w.2.2.2.toNat w.2.1 with | some r=>(r,true) | none=>(([]:List RQ),false)):=by
    unfold B8;simp only[A2,A4];have il':Ah (fun (s:(Cp×((List RQ)×((List RPt)×Int))))=>BO s.1 s.2.1 s.2.2.1 s.2.2.2) (w,((List.nil:List RQ),(l,w.2.1)))=_:=il;rw[C9 (by omega) hb,obs,hg,nT,cF,Nl,obs,hw,nT,cF,il',obs];cases I6 l w.2.2.1.toNat w.1 w.2.2.2.toNat w.2.1 with
    | none=>rfl
    | some r=>rfl
   refine ⟨_,ii,ss,?_,?_⟩
   ·cases I6 l w.2.2.1.toNat w.1 w.2.2.2.toNat w.2.1 with
    | none=>intro _; rfl
    | some r=>intro h; cases h
   ·cases I6 l w.2.2.1.toNat w.1 w.2.2.2.toNat w.2.1 with
    | none=>intro h; cases h
    | some r=>intro _; exact ⟨rfl,rfl,rfl⟩
section
variable {l:List RPt} {ps:List Q2} (hps:SzR ps) (el:l=ps.map rp)
include hps el
theorem Bh5 {x y:Int} (hx : -90<=x/\x<=90) (hy : -90<=y/\y<=90) (h:(shV l x y).2=true):Sz 40 (sqA ps x y/2)/\shV l x y=(rqF (sqA ps x y/2),true):=by
 have h40:=hps.1;obtain ⟨_,_,_,s4⟩:=UM (l:=l) (by rw[el]; simp; omega) (by rw[el]; exact Sx (k:=8) (by omega) hps.2) hx hy;obtain ⟨qs,hqs,e,_,k1,k2⟩:=s4 h;have inj:∀ u v:List Q2,u.map rp=v.map rp->u=v:=by
  intro u
  induction u with
  | nil=>intro v hv; cases v with
   | nil=>rfl
   | cons a t=>cases hv
  | cons b u ih=>intro v hv; cases v with
   | nil=>cases hv
   | cons a t =>
    rw[zb8,zb8] at hv;obtain ⟨i1,i2⟩:=List.cons.inj hv;rw[AF9 i1,ih t i2]
 have e2:qs=ps:=inj _ _ (by rw[<-e,el]);rw[e2] at k1 k2;exact ⟨k1,k2⟩
theorem A6R {y:Int} (hy : -90<=y/\y<=90):∀ (n:Nat) (x:Int) (r:List RQ),-90<=x->x + (n:Int)<=90->Li l y n x=some r->r=(A0V ps y n x).map (fun a=>rq (a/2))/\(∀ a∈A0V ps y n x,Sz 40 (a/2))/\∀ i:Nat,i<n->(shV l (x + (i:Int)) y).2=true/\r[i]? = some (toQ (shV l (x + (i:Int)) y).1)
 | 0,x,r,_,_,h=>by
  rw[Li] at h;rw[<-Option.some.inj h];exact ⟨rfl,fun a ha=>(by cases ha),fun i hi=>(by omega)⟩
 | n + 1,x,r,h1,h2,h=>by
  rw[Li] at h
  split at h
  ·rename_i hs;cases hr:Li l y n (x + 1) with
   | none=>rw[hr] at h; cases h
   | some r' =>
    rw[hr] at h;obtain ⟨k1,k2⟩:=Bh5 hps el (x:=x) (y:=y) (by omega) hy hs;obtain ⟨j1,j2,j3⟩:=A6R hy n (x + 1) r' (by omega) (by omega) hr;have hr':toQ (shV l x y).1::r'=r:=Option.some.inj h;refine ⟨?_,?_,?_⟩
    ·rw[<-hr',k2,j1,A0V,zb8];rfl
    ·intro a ha;rw[A0V] at ha;rcases zc5.1 ha with rfl | ha
     ·exact k1
     ·exact j2 a ha
    ·intro i hi;cases i with
     | zero =>
      rw[show x + ((0:Nat):Int)=x by omega,<-hr'];exact ⟨hs,rfl⟩
     | succ i =>
      obtain ⟨q1,q2⟩:=j3 i (by omega);rw[show x + ((i + 1:Nat):Int)=x + 1 + (i:Int) by omega,<-hr'];exact ⟨q1,by rw[List.getElem?_cons_succ]; exact q2⟩
  ·cases h
theorem A8r {w:Nat} {x:Int} (hx : -90<=x/\x + (w:Int)<=90):∀ (n:Nat) (y:Int) (r:List RQ),-90<=y->y + (n:Int)<=90->I6 l w x n y=some r->r=(Ap6 ps w x n y).map (fun a=>rq (a/2))/\(∀ a∈Ap6 ps w x n y,Sz 40 (a/2)) /\
  ∀ j i:Nat,j<n->i<w->(shV l (x + (i:Int)) (y + (j:Int))).2=true/\r[j*w + i]? = some (toQ (shV l (x + (i:Int)) (y + (j:Int))).1)
 | 0,y,r,_,_,h=>by
  rw[I6] at h;rw[<-Option.some.inj h];exact ⟨rfl,fun a ha=>(by cases ha),fun j i hj=>(by omega)⟩
 | n + 1,y,r,h1,h2,h=>by
  rw[I6] at h;cases hr:Li l y w x with
  | none=>rw[hr] at h; cases h
  | some r1 =>
   rw[hr] at h;have h:(I6 l w x n (y + 1)).map (r1 ++ ·)=some r:=h;cases hw:I6 l w x n (y + 1) with
   | none=>rw[hw] at h; cases h
   | some r2 =>
    rw[hw] at h;have hrr:r1++r2=r:=Option.some.inj h;obtain ⟨j1,j2,j3⟩:=A6R hps el (y:=y) (by omega) w x r1 (by omega) (by omega) hr;obtain ⟨k1,k2,k3⟩:=A8r hx n (y + 1) r2 (by omega) (by omega) hw;have len1:r1.length=w:=by rw[j1,zd5,Zq]
    refine ⟨?_,?_,?_⟩
    ·rw[<-hrr,j1,k1,Ap6,List.map_append]
    ·intro a ha;rw[Ap6] at ha;rcases zb4.1 ha with ha | ha
     ·exact j2 a ha
     ·exact k2 a ha
    ·intro j i hj hi;cases j with
     | zero =>
      obtain ⟨q1,q2⟩:=j3 i hi;rw[show y + ((0:Nat):Int)=y by omega,<-hrr,Nat.zero_mul,ze4,List.getElem?_append_left (by omega)];exact ⟨q1,q2⟩
     | succ j =>
      obtain ⟨q1,q2⟩:=k3 j i (by omega) hi;rw[show y + ((j + 1:Nat):Int)=y + 1 + (j:Int) by omega,<-hrr,Nat.succ_mul,List.getElem?_append_right (by omega),len1,show j*w + w + i-w=j*w + i by omega];exact ⟨q1,q2⟩
end
end
section
open Go
end
section
open Go
def unq (a:RQ):RF:=(a.1.1,(a.1.2,a.2))
theorem AA9 (a:RQ):(a.1.1,(a.1.2,a.2))=unq a:=(rfl)
theorem Vq (q:Rat):unq (rq q)=rqF q:=(rfl)
section
variable {qs:List Rat} (h40:∀ q∈qs,Sz 40 q) (hl:qs.length<=64)
include h40 hl
end
end
section
open Go
def Rd (q:Rat):Rat:=if 0<=q.num then q else -q
theorem Ah0 (q:Rat):(Rd q).num=(q.num.natAbs:Int):=by
 unfold Rd
 split
 ·omega
 ·rw[Rat.neg_num]; omega
theorem A0g (q:Rat):(Rd q).den=q.den:=by
 unfold Rd
 split
 ·rfl
 ·exact Rat.neg_den q
theorem A64 (q:Rat) : 0<=Rd q:=Rat.num_nonneg.1 (by rw[Ah0]; omega)
theorem AF7 {q:Rat} {k:Nat} (h:Sz k q):Sz k (Rd q):=⟨by rw[Ah0]; exact h.1,by rw[A0g]; exact h.2⟩
theorem A3h (q:Rat):rqF (Rd q)=((big (q.num.natAbs:Int)).1,((big (q.num.natAbs:Int)).2,((big (q.den:Int)).1,(big (q.den:Int)).2))):=by
 unfold rqF;rw[Ah0,A0g]
theorem A3G (q:Rat):(big q.num).2=(big (q.num.natAbs:Int)).2:=by unfold big; simp
def HO (q:Rat):Rat:=if 1<Rd q then 1 else Rd q
theorem A8J (q:Rat) : 0<=HO q/\HO q<=1:=by
 unfold HO;have:=A64 q
 split <;> constructor <;> grind
def byQ (q:Rat):Int:=(HO q*255 + 1/2).floor
theorem A2X (q:Rat) : 0<=byQ q/\byQ q<=255:=by
 obtain ⟨h1,h2⟩:=A8J q;have a:(0:Int)<=byQ q:=Rat.le_floor_iff.2 (by grind);have b:byQ q<256:=Rat.floor_lt_iff.2 (by grind);omega
theorem Ba5 {q:Rat} (h : 1<Rd q):byQ q=255:=by
 unfold byQ HO;rw[if_pos h];have h1:(255:Int)<=((1:Rat)*255 + 1/2).floor:=Rat.le_floor_iff.2 (by grind);have h2:((1:Rat)*255 + 1/2).floor<256:=Rat.floor_lt_iff.2 (by grind);omega
theorem AP3 (q:Rat):SO (byQ q)=(byQ q,true):=by
 have:=A2X q;unfold SO;rw[if_pos (by omega)]
theorem sz1:Sz 1 (1:Rat):=by
 have:B 1=65536:=rfl;exact ⟨by rw[this]; decide,by rw[this]; decide⟩
theorem sz2:Sz 1 (2:Rat):=by
 have:B 1=65536:=rfl;exact ⟨by rw[this]; decide,by rw[this]; decide⟩
theorem A70:Sz 1 (255:Rat):=by
 have:B 1=65536:=rfl;exact ⟨by rw[this]; decide,by rw[this]; decide⟩
theorem A19:Bc (255:Int)=some (rqF 255):=by rw[Ip (by omega) (by omega)]; rfl
theorem A4s:Cx (1:Int)=some (rqF 1):=by rw[QP (by omega) (by omega)]; rfl
theorem A1M:Cx (255:Int)=some (rqF 255):=by rw[QP (by omega) (by omega)]; rfl
section
variable {q:Rat} (hq:Sz 40 q)
include hq
theorem AL2:Sz 40 (HO q):=by
 unfold HO
 split
 ·exact sz1.mono (by omega)
 ·exact AF7 hq
theorem AK3:Sz 40 (1/2:Rat):=(AN0 (k:=1) (m:=1) sz1 sz2 V6).mono (by omega)
theorem AH8:Sz 80 (HO q*255):=(Kh (AL2 hq) A70).mono (by omega)
theorem A0u:Sz 200 (HO q*255 + 1/2):=(R6 (AH8 hq) (AK3 hq)).mono (by omega)
theorem byB:((byQ q).natAbs:Int)<B 40:=by
 have:=A2X q;have h1:B 1=65536:=rfl;have:=Kf (show 1<=40 by omega);omega
theorem A5M:IX (rqF q)=some (rqF (Rd q)):=by
 unfold IX Ll;rw[A3h];simp only[rqF];rw[A3G,Y0 (k:=40) (by omega) hq.1,Y0 (k:=40) (by omega) hq.2];rfl
theorem A9y:My (rqF q)=some (rqF (Rd q)):=by
 unfold My;rw[A3h];simp only[rqF];rw[A3G,Az1 (k:=40) (by omega) hq.1];rfl
theorem A7J:KZ (rqF q)=some (byQ q):=by
 have tail:((Bc (255:Int))).bind (fun x7=>((Cj (rqF (HO q)) (x7.1,(x7.2.1,(x7.2.2.1,x7.2.2.2))))).bind fun x8 =>
  (some (rqF 1)).bind fun x9 =>
  ((CN (x9.1,(x9.2.1,(x9.2.2.1,x9.2.2.2))))).bind fun x10 =>
  ((CD (x8.1,(x8.2.1,(x8.2.2.1,x8.2.2.2))) (x10.1,(x10.2.1,(x10.2.2.1,x10.2.2.2))))).bind fun x11 =>
  ((EA (x11.1,(x11.2.1,(x11.2.2.1,x11.2.2.2))))).bind fun x12 =>
  ((HT (x12.1,x12.2))).bind fun x13 =>
  some x13.1)=some (byQ q):=by
  have hh:CN (rqF 1)=some (rqF (1/2)):=by
   unfold CN;simp only[A2];rw[AA7,obs]
   try simp only[A2]
   rw[VU (k:=1) (by omega) sz1 sz2 V6,obs]
  rw[A19,obs]
  try simp only[A2,A4]
  rw[Ii (k:=40) (by omega) (AL2 hq) (A70.mono (by omega)),obs,obs]
  try simp only[A2,A4]
  rw[hh,obs]
  try simp only[A2,A4]
  rw[JQ (k:=80) (by omega) (AH8 hq) ((AK3 hq).mono (by omega)),obs]
  try simp only[A2,A4]
  rw[AQ5 (k:=200) (by omega) (by omega) (A0u hq),obs,show (HO q*255 + 1/2).floor=byQ q from rfl,A9e (byB hq),obs,AP3]
 unfold KZ
 try simp only[A2,A4]
 rw[A5M hq,obs,Au8,obs]
 try simp only[A2,A4]
 rw[EV (k:=40) (by omega) (sz1.mono (by omega)) (AF7 hq),obs];by_cases h : 1<Rd q
 ·rw[decide_eq_true h,cT,obs,obs,sEr];rw[show HO q=1 by unfold HO; rw[if_pos h]] at tail;exact tail
 ·rw[decide_eq_false h,cF,obs,sEr,show Rd q=HO q by unfold HO; rw[if_neg h]];exact tail
theorem A5y:IJ (rqF q)=some (byQ q):=by
 unfold IJ
 try simp only[A2,A4]
 rw[A9y hq,obs,A4s,obs]
 try simp only[A2,A4]
 rw[NU (k:=40) (by omega) (AF7 hq) (sz1.mono (by omega)),obs];by_cases h : 1<Rd q
 ·rw[decide_eq_true (Lp.2 h),cT,Ba5 h]
 ·have hb1:((1:Int).natAbs:Int)<B 1:=by have:B 1=65536:=rfl; rw[this]; decide
  have hb2:((2:Int).natAbs:Int)<B 1:=by have:B 1=65536:=rfl; rw[this]; decide
  have e2:Rat.divInt 1 2=(1/2:Rat):=by rw[Rat.divInt_eq_div]; rfl
  rw[decide_eq_false (fun g=>h (Lp.1 g)),cF,US (by omega) (by omega),obs,US (by omega) (by omega),obs]
  try simp only[A2,A4]
  rw[Tn (k:=1) (by omega) hb1 hb2 (by omega),obs,A1M,obs,e2,show Rd q=HO q by unfold HO; rw[if_neg h]]
  try simp only[A2,A4]
  rw[YW (k:=40) (by omega) (AL2 hq) (A70.mono (by omega)),obs]
  try simp only[A2,A4]
  rw[U2 (k:=80) (by omega) (AH8 hq) ((AK3 hq).mono (by omega)),obs]
  try simp only[A2,A4]
  rw[A5K (k:=200) (by omega) (by omega) (A0u hq),obs,show (HO q*255 + 1/2).floor=byQ q from rfl,A8Q (byB hq),obs,AP3]
end
theorem A9B {l:List Rat} {k:Nat} {q:Rat} (h:l[k]? = some q):AQ (l.map rq) (k:Int)=some (rq q):=by rw[Ao,zc8,h]; rfl
section
variable {qs:List Rat} (h40:∀ q∈qs,Sz 40 q) (hl:qs.length<=1000)
include h40 hl
theorem A5a:GR (qs.map rq)=some (qs.map byQ):=by
 obtain ⟨_,h1,_⟩:=EM (body:=fun (s:((List Int)×((List RQ)×(Int×Int))))=>DB s.1 s.2.1 s.2.2.1 s.2.2.2) (fun k (_:Unit)=>((qs.take k).map byQ,(qs.map rq,((qs.length:Int),(k:Int))))) (fun _=>qs.map byQ) (fun _ _=>True) qs.length (by
  intro k _ hk _;have he:qs[k]? = some qs[k]:=za1 hk;have hz:=h40 _ (za4 he);generalize qs[k]=q at he hz;refine ⟨(),?_,trivial⟩
  show DB ((qs.take k).map byQ) (qs.map rq) (qs.length:Int) (k:Int)=_;unfold DB;rw[decide_eq_true (by omega),cT,A9B he,obs];simp only[A2,A4,AA9,Vq];rw[A7J hz,obs,F9 (by simp[Ag]; omega) (by simp[Ag]; omega),obs,AR (by omega),List.take_add_one,he];simp) (by
  intro _ _;show DB ((qs.take qs.length).map byQ) (qs.map rq) (qs.length:Int) (qs.length:Int)=_;unfold DB;rw[decide_eq_false (by omega),cF,List.take_length]) 0 () (by omega) trivial
 have h1':Ah (fun (s:((List Int)×((List RQ)×(Int×Int))))=>DB s.1 s.2.1 s.2.2.1 s.2.2.2) ((List.nil:List Int),(qs.map rq,((qs.length:Int),(0:Int))))=_:=h1;unfold GR;rw[zd5,h1',obs]
theorem AM5:Ah (fun (s:((List Int)×((List RQ)×(Int×Int))))=>BX s.1 s.2.1 s.2.2.1 s.2.2.2) ((List.nil:List Int),(qs.map rq,((qs.length:Int),(0:Int))))=some (qs.map byQ):=by
 obtain ⟨_,h1,_⟩:=EM (body:=fun (s:((List Int)×((List RQ)×(Int×Int))))=>BX s.1 s.2.1 s.2.2.1 s.2.2.2) (fun k (_:Unit)=>((qs.take k).map byQ,(qs.map rq,((qs.length:Int),(k:Int))))) (fun _=>qs.map byQ) (fun _ _=>True) qs.length (by
  intro k _ hk _;have he:qs[k]? = some qs[k]:=za1 hk;have hz:=h40 _ (za4 he);generalize qs[k]=q at he hz;refine ⟨(),?_,trivial⟩
  show BX ((qs.take k).map byQ) (qs.map rq) (qs.length:Int) (k:Int)=_;unfold BX;rw[decide_eq_true (by omega),cT,A9B he,obs];simp only[A2,A4,AA9,Vq];rw[A5y hz,obs,F9 (by simp[Ag]; omega) (by simp[Ag]; omega),obs,AR (by omega),List.take_add_one,he];simp) (by
  intro _ _;show BX ((qs.take qs.length).map byQ) (qs.map rq) (qs.length:Int) (qs.length:Int)=_;unfold BX;rw[decide_eq_false (by omega),cF,List.take_length]) 0 () (by omega) trivial
 exact h1
end
end
section
open Go
def KT:Option (List Rat)->List RQ×Bool
 | none=>([],false)
 | some qs=>(qs.map rq,true)
def nW (w:Cp):Nat:=w.2.2.1.toNat*w.2.2.2.toNat
theorem ZX {w:Cp} (h:IF w=true):w.2.2.1*w.2.2.2=(nW w:Int)/\1<=nW w/\nW w<=64:=by
 obtain ⟨_,_,h3,h4⟩:=WJ.1 h;refine ⟨?_,?_,?_⟩
 ·unfold nW;rw[Int.natCast_mul,Int.toNat_of_nonneg (by omega),Int.toNat_of_nonneg (by omega)]
 ·unfold nW;exact Nat.mul_pos (by omega) (by omega)
 ·unfold nW;exact Nat.mul_le_mul (show w.2.2.1.toNat<=8 by omega) (show w.2.2.2.toNat<=8 by omega)
noncomputable def shW (w:Cp) (x:List P2):Option (List Rat):=if ((B8 ((x.map ptQ).map rp) w).getD ([],false)).2=true then some ((Ap6 (x.map ptQ) w.2.2.1.toNat w.1 w.2.2.2.toNat w.2.1).map fun a=>a/2) else none
theorem A07 {x:List P2} (hx:Lo x=true) {w:Cp} (hw:IF w=true):B8 ((x.map ptQ).map rp) w=some (KT (shW w x))/\CO ((x.map ptQ).map rp) w=some (KT (shW w x))/\∀ qs,shW w x=some qs->qs.length=nW w/\∀ q∈qs,Sz 40 q:=by
 have hz:=A8z hx;have h40:=hz.1;obtain ⟨g1,g2,g3,g4⟩:=WJ.1 hw;obtain ⟨f,f1,f2,f3,f4⟩:=A1q (l:=(x.map ptQ).map rp) (by rw[zd5]; omega) (Sx (k:=8) (by omega) hz.2) w;cases hf:f.2 with
 | false =>
  have e:shW w x=none:=by
   unfold shW;rw[f1];exact if_neg (by rw[Option.getD_some,hf]; simp)
  have ef:f=KT none:=Prod.ext (f3 hf) hf;rw[e,f1,f2,ef];exact ⟨rfl,rfl,fun qs h=>by cases h⟩
 | true =>
  obtain ⟨_,_,hwin⟩:=f4 hf;obtain ⟨j1,j2,_⟩:=A8r hz rfl (w:=w.2.2.1.toNat) (x:=w.1) (by omega) w.2.2.2.toNat w.2.1 f.1 (by omega) (by omega) hwin;have e:shW w x=some ((Ap6 (x.map ptQ) w.2.2.1.toNat w.1 w.2.2.2.toNat w.2.1).map fun a=>a/2):=by
   unfold shW;rw[f1];exact if_pos hf
  have ef:f=KT (some ((Ap6 (x.map ptQ) w.2.2.1.toNat w.1 w.2.2.2.toNat w.2.1).map fun a=>a/2)):=Prod.ext (by rw[j1]; show _=List.map rq _; rw[List.map_map]; rfl) hf;rw[e,f1,f2,<-ef];refine ⟨rfl,rfl,fun qs h=>?_⟩
  cases h
  refine ⟨by rw[zd5,AU8]; rfl,fun q hq=>?_⟩
  obtain ⟨a,ha,rfl⟩:=zd4.1 hq;exact j2 a ha
def Jf:List Rat->List Rat->Option (List Rat)
 | a::us,q::qs=>if Sz 40 (a + q) then (Jf us qs).map ((a + q) :: ·) else none
 | _,_=>some []
theorem A8v (l:List Rat):Jf [] l=some []:=by cases l <;> rfl
theorem VR (a q:Rat) (us qs:List Rat):Jf (a::us) (q::qs)=if Sz 40 (a + q) then (Jf us qs).map ((a + q) :: ·) else none:=(rfl)
theorem SX:∀ (us qs r:List Rat),us.length=qs.length->Jf us qs=some r->r.length=us.length/\∀ q∈r,Sz 40 q:=by
 intro us
 induction us with
 | nil =>
  intro qs r _ h;rw[A8v] at h;rw[<-Option.some.inj h];exact ⟨rfl,fun q hq=>absurd hq List.not_mem_nil⟩
 | cons a us ih =>
  intro qs r hl h;cases qs with
  | nil=>exact absurd hl (by simp)
  | cons q qs =>
   rw[VR] at h;by_cases hz:Sz 40 (a + q)
   ·rw[if_pos hz] at h;cases hr:Jf us qs with
    | none=>rw[hr] at h; exact absurd h (by simp)
    | some r' =>
     rw[hr,zd8] at h;obtain ⟨i1,i2⟩:=ih qs r' (by simpa using hl) hr;rw[<-Option.some.inj h];refine ⟨by simp[i1],fun x hx=>?_⟩
     rcases zc5.1 hx with e | hx
     ·rw[e]; exact hz
     ·exact i2 x hx
   ·rw[if_neg hz] at h; exact absurd h (by simp)
def adR (w:Cp) (ws:FJ) (c d:Int) (dn:List Rat):Option (List Rat)->(Cp×(List RQ×(FJ×(Int×Int)))) ⊕ (List RQ×Bool)
 | some r=>.inl (w,((dn++r).map rq,(ws,(c,d))))
 | none=>.inr ([],false)
theorem AN3 (dn us:List Rat) (a b:Rat) {k:Nat} (h:dn.length=k):((dn++a::us).map rq).set k (rq b)=(dn ++ [b]++us).map rq:=by
 subst h;simp[List.map_append,List.set_append]
theorem YP (pre qs:List Rat) (q:Rat):(pre++q::qs)[pre.length]? = some q:=by simp
theorem A7i (w:Cp) (ws:FJ) (c d:Int):∀ (us qs dn pre:List Rat),(∀ q∈us,Sz 40 q)->(∀ q∈qs,Sz 40 q)->us.length=qs.length->dn.length=pre.length->pre.length + qs.length<=1000 ->
  Ah (fun (s:(Cp×((List RQ)×(FJ×(Int×(Int×((List RQ)×(Int×Int))))))))=>BQ s.1 s.2.1 s.2.2.1 s.2.2.2.1 s.2.2.2.2.1 s.2.2.2.2.2.1 s.2.2.2.2.2.2.1 s.2.2.2.2.2.2.2) (w,((dn++us).map rq,(ws,(c,(d,((pre++qs).map rq,(((pre++qs).length:Int),(pre.length:Int))))))))=some (adR w ws c d dn (Jf us qs))
 | [],[],dn,pre,_,_,_,hd,hp=>by
  refine Aq ?_
  show BQ w ((dn ++ []).map rq) ws c d ((pre ++ []).map rq) ((pre ++ []).length:Int) (pre.length:Int)=_;unfold BQ;rw[decide_eq_false (by simp),cF];rfl
 | [],q::qs,dn,pre,_,_,hl,_,_=>by cases hl
 | a::us,[],dn,pre,_,_,hl,_,_=>by cases hl
 | a::us,q::qs,dn,pre,ha,hq,hl,hd,hp=>by
  have ka:=ha a (by simp);have kq:=hq q (by simp);have h81:Sz 81 (a + q):=(R6 ka kq).mono (by omega);rw[zc0] at hp;have hlen:((pre++q::qs).length:Int)=(pre.length:Int) + qs.length + 1:=by simp; omega
  have hg:A1 ((dn++a::us).map rq) pre.length=some (rq a):=by
   show ((dn++a::us).map rq)[pre.length]? = _;rw[zc8,<-hd,YP];rfl
  have hi:A8 (pre.length:Int) ((dn++a::us).map rq).length=some pre.length:=A5 (by simp[hd]);have key:BQ w ((dn++a::us).map rq) ws c d ((pre++q::qs).map rq) ((pre++q::qs).length:Int) (pre.length:Int)=if Sz 40 (a + q) then some (.inl (w,((dn ++ [a + q]++us).map rq,(ws,(c,(d,((pre++q::qs).map rq,(((pre++q::qs).length:Int),((pre.length + 1:Nat):Int))))))))) else some (.inr (.inr ([],false))):=by
   unfold BQ;rw[decide_eq_true (by omega),cT,A9B (YP pre qs q),obs,hi,obs,hg,obs];simp only[A2,A4,AA9,Vq];rw[JQ (k:=40) (by omega) ka kq,obs]
   try simp only[A2,A4,AA9,Vq]
   rw[Tk,obs,obs,hg,obs];by_cases hz:Sz 40 (a + q)
   ·rw[if_pos hz,JI hz,nT,cF,AR (by omega)];rw[<-AN3 dn us a (a + q) hd];rfl
   ·rw[if_neg hz,QK hz,nF,cT]
  rw[VR];by_cases hz:Sz 40 (a + q)
  ·rw[if_pos hz] at key ⊢
   refine (AY (f:=fun (s:(Cp×((List RQ)×(FJ×(Int×(Int×((List RQ)×(Int×Int))))))))=>BQ s.1 s.2.1 s.2.2.1 s.2.2.2.1 s.2.2.2.2.1 s.2.2.2.2.2.1 s.2.2.2.2.2.2.1 s.2.2.2.2.2.2.2) (s:=(w,((dn++a::us).map rq,(ws,(c,(d,((pre++q::qs).map rq,(((pre++q::qs).length:Int),(pre.length:Int))))))))) key).trans ?_
   have ih:=A7i w ws c d us qs (dn ++ [a + q]) (pre ++ [q]) (fun x hx=>ha x (by simp[hx])) (fun x hx=>hq x (by simp[hx])) (by simpa using hl) (by simp[hd]) (by simp; omega);rw[show (pre ++ [q])++qs=pre++q::qs by simp,show (pre ++ [q]).length=pre.length + 1 by simp] at ih;rw[ih];cases Jf us qs with
   | none=>rfl
   | some r=>simp[adR]
  ·rw[if_neg hz] at key ⊢
   exact Aq key
theorem A71 (w:Cp) (ws:FJ) (c d:Int):∀ (us qs dn pre:List Rat),(∀ q∈us,Sz 40 q)->(∀ q∈qs,Sz 40 q)->us.length=qs.length->dn.length=pre.length->pre.length + qs.length<=1000 ->
  Ah (fun (s:(Cp×((List RQ)×(FJ×(Int×(Int×((List RQ)×(Int×Int))))))))=>BS s.1 s.2.1 s.2.2.1 s.2.2.2.1 s.2.2.2.2.1 s.2.2.2.2.2.1 s.2.2.2.2.2.2.1 s.2.2.2.2.2.2.2) (w,((dn++us).map rq,(ws,(c,(d,((pre++qs).map rq,(((pre++qs).length:Int),(pre.length:Int))))))))=some (adR w ws c d dn (Jf us qs))
 | [],[],dn,pre,_,_,_,hd,hp=>by
  refine Aq ?_
  show BS w ((dn ++ []).map rq) ws c d ((pre ++ []).map rq) ((pre ++ []).length:Int) (pre.length:Int)=_;unfold BS;rw[decide_eq_false (by simp),cF];rfl
 | [],q::qs,dn,pre,_,_,hl,_,_=>by cases hl
 | a::us,[],dn,pre,_,_,hl,_,_=>by cases hl
 | a::us,q::qs,dn,pre,ha,hq,hl,hd,hp=>by
  have ka:=ha a (by simp);have kq:=hq q (by simp);have h81:Sz 81 (a + q):=(R6 ka kq).mono (by omega);rw[zc0] at hp;have hlen:((pre++q::qs).length:Int)=(pre.length:Int) + qs.length + 1:=by simp; omega
  have hg:A1 ((dn++a::us).map rq) pre.length=some (rq a):=by
   show ((dn++a::us).map rq)[pre.length]? = _;rw[zc8,<-hd,YP];rfl
  have hi:A8 (pre.length:Int) ((dn++a::us).map rq).length=some pre.length:=A5 (by simp[hd]);have key:BS w ((dn++a::us).map rq) ws c d ((pre++q::qs).map rq) ((pre++q::qs).length:Int) (pre.length:Int)=if Sz 40 (a + q) then some (.inl (w,((dn ++ [a + q]++us).map rq,(ws,(c,(d,((pre++q::qs).map rq,(((pre++q::qs).length:Int),((pre.length + 1:Nat):Int))))))))) else some (.inr (.inr ([],false))):=by
   unfold BS;rw[decide_eq_true (by omega),cT,A9B (YP pre qs q),obs,hi,obs,hg,obs];simp only[A2,A4,AA9,Vq];rw[U2 (k:=40) (by omega) ka kq,obs]
   try simp only[A2,A4,AA9,Vq]
   rw[T8 (k:=81) (by omega) h81,obs];by_cases hz:Sz 40 (a + q)
   ·rw[if_pos hz,JI hz,nT,cF,obs,hg,obs,AR (by omega)];rw[<-AN3 dn us a (a + q) hd];rfl
   ·rw[if_neg hz,QK hz,nF,cT]
  rw[VR];by_cases hz:Sz 40 (a + q)
  ·rw[if_pos hz] at key ⊢
   refine (AY (f:=fun (s:(Cp×((List RQ)×(FJ×(Int×(Int×((List RQ)×(Int×Int))))))))=>BS s.1 s.2.1 s.2.2.1 s.2.2.2.1 s.2.2.2.2.1 s.2.2.2.2.2.1 s.2.2.2.2.2.2.1 s.2.2.2.2.2.2.2) (s:=(w,((dn++a::us).map rq,(ws,(c,(d,((pre++q::qs).map rq,(((pre++q::qs).length:Int),(pre.length:Int))))))))) key).trans ?_
   have ih:=A71 w ws c d us qs (dn ++ [a + q]) (pre ++ [q]) (fun x hx=>ha x (by simp[hx])) (fun x hx=>hq x (by simp[hx])) (by simpa using hl) (by simp[hd]) (by simp; omega);rw[show (pre ++ [q])++qs=pre++q::qs by simp,show (pre ++ [q]).length=pre.length + 1 by simp] at ih;rw[ih];cases Jf us qs with
   | none=>rfl
   | some r=>simp[adR]
  ·rw[if_neg hz] at key ⊢
   exact Aq key
theorem A0N {x:List P2} (hx:Lo x=true):JU x=some ((x.map ptQ).map rp,true):=by
 have h12:=(JJ.1 hx).1.2;unfold JU;rw[A8M (by unfold AZ6; omega),obs,hx,nT,cF,An0 (by omega) (A1y hx),obs]
noncomputable def AW1 (w:Cp):FJ->List Rat->Option (List Rat)
 | [],acc=>some acc
 | x::l,acc=>(shW w x).bind fun qs=>(Jf acc qs).bind fun r=>AW1 w l r
def Bc0:Option (List Rat)->List RQ ⊕ (List RQ×Bool)
 | some r=>.inl (r.map rq)
 | none=>.inr ([],false)
section
variable {w:Cp} {l:FJ} (hw:IF w=true) (hg:∀ x∈l,Lo x=true) (hl:l.length<=4)
include hw hg
theorem Au7:∀ (m:FJ) (acc r:List Rat),(∀ x∈m,Lo x=true)->acc.length=nW w->(∀ q∈acc,Sz 40 q)->AW1 w m acc=some r->r.length=nW w/\∀ q∈r,Sz 40 q
 | [],acc,r,_,h1,h2,h=>by
  cases h
  exact ⟨h1,h2⟩
 | x::m,acc,r,hm,h1,h2,h=>by
  obtain ⟨_,_,k⟩:=A07 (hm x (by simp)) hw;rw[AW1] at h;cases hs:shW w x with
  | none=>rw[hs] at h; cases h
  | some qs =>
   obtain ⟨k1,k2⟩:=k qs hs;rw[hs,obs] at h;cases ha:Jf acc qs with
   | none=>rw[ha] at h; cases h
   | some r' =>
    obtain ⟨a1,a2⟩:=SX acc qs r' (by omega) ha;rw[ha,obs] at h;exact Au7 m r' r (fun y hy=>hm y (by simp[hy])) (by omega) a2 h
include hl
theorem A90:∀ (m k:Nat) (acc:List Rat),k + m=l.length->acc.length=nW w->(∀ q∈acc,Sz 40 q) ->
  Ah (fun (s:(Cp×((List RQ)×(FJ×(Int×Int)))))=>Br s.1 s.2.1 s.2.2.1 s.2.2.2.1 s.2.2.2.2) (w,(acc.map rq,(l,((l.length:Int),(k:Int)))))=some (Bc0 (AW1 w (l.drop k) acc))
 | 0,k,acc,hk,h1,h2=>by
  refine Aq ?_
  show Br w (acc.map rq) l (l.length:Int) (k:Int)=_;unfold Br;rw[decide_eq_false (by omega),cF,List.drop_of_length_le (by omega)];rfl
 | m + 1,k,acc,hk,h1,h2=>by
  have hkl:k<l.length:=by omega
  have he:l[k]? = some l[k]:=za1 hkl;have hx:=hg _ (za4 he);rw[zb0 hkl];generalize l[k]=x at he hx;obtain ⟨s1,s2,s3⟩:=A07 hx hw;have hn:=ZX hw;have h12:=(JJ.1 hx).1.2;rw[AW1];have top:Br w (acc.map rq) l (l.length:Int) (k:Int)=(some (KT (shW w x))).bind fun x2 =>
    bif (!x2.2) then some (Sum.inr (Sum.inr (([]:List RQ),false))) else
    (Ah (fun (s:(Cp×((List RQ)×(FJ×(Int×(Int×((List RQ)×(Int×Int))))))))=>BQ s.1 s.2.1 s.2.2.1 s.2.2.2.1 s.2.2.2.2.1 s.2.2.2.2.2.1 s.2.2.2.2.2.2.1 s.2.2.2.2.2.2.2) (w,(acc.map rq,(l,((l.length:Int),((k:Int),(x2.1,((x2.1.length:Int),(0:Int))))))))).bind fun x3 =>
    Sum.elim (fun x4=>some (Sum.inl (x4.1,(x4.2.1,(x4.2.2.1,(x4.2.2.2.1,IntKind.wrap .i64 (x4.2.2.2.2 + (1:Int)))))))) (fun x5=>some (Sum.inr (Sum.inr (x5.1,x5.2)))) x3:=by
   unfold Br;rw[decide_eq_true (by omega),cT,Ao,he,obs,A51 (by omega) (A1y hx),obs];rw[show B8 ((x.map ptQ).map rp) (w.1,(w.2.1,(w.2.2.1,w.2.2.2)))=some (KT (shW w x)) from s1]
  cases hs:shW w x with
  | none =>
   refine Aq ?_
   show Br w (acc.map rq) l (l.length:Int) (k:Int)=_;rw[top,hs,obs];rfl
  | some qs =>
   obtain ⟨q1,q2⟩:=s3 qs hs;have ad:=A7i w l (l.length:Int) (k:Int) acc qs [] [] h2 q2 (by omega) rfl (by simp; omega);rw[hs,obs] at top;have ad':Ah (fun (s:(Cp×((List RQ)×(FJ×(Int×(Int×((List RQ)×(Int×Int))))))))=>BQ s.1 s.2.1 s.2.2.1 s.2.2.2.1 s.2.2.2.2.1 s.2.2.2.2.2.1 s.2.2.2.2.2.2.1 s.2.2.2.2.2.2.2) (w,(acc.map rq,(l,((l.length:Int),((k:Int),((KT (some qs)).1,(((KT (some qs)).1.length:Int),(0:Int))))))))=some (adR w l (l.length:Int) (k:Int) [] (Jf acc qs)):=by
    have el:(KT (some qs)).1.length=([]++qs:List Rat).length:=by show (qs.map rq).length=_; simp
    rw[el];exact ad
   rw[ad',obs,show (KT (some qs)).2=true from rfl,nT,cF] at top;rw[obs];cases ha:Jf acc qs with
   | none =>
    refine Aq ?_
    show Br w (acc.map rq) l (l.length:Int) (k:Int)=_;rw[top,ha];rfl
   | some r =>
    obtain ⟨a1,a2⟩:=SX acc qs r (by omega) ha;have go:Br w (acc.map rq) l (l.length:Int) (k:Int)=some (.inl (w,(r.map rq,(l,((l.length:Int),((k + 1:Nat):Int)))))):=by
     rw[top,ha,<-AR (k:=k) (by omega)];rfl
    refine (AY (f:=fun (s:(Cp×((List RQ)×(FJ×(Int×Int)))))=>Br s.1 s.2.1 s.2.2.1 s.2.2.2.1 s.2.2.2.2) (s:=(w,(acc.map rq,(l,((l.length:Int),(k:Int)))))) go).trans ?_
    rw[obs];exact A90 m (k + 1) r (by omega) (by omega) a2
theorem A9Y:∀ (m k:Nat) (acc:List Rat),k + m=l.length->acc.length=nW w->(∀ q∈acc,Sz 40 q) ->
  Ah (fun (s:(Cp×((List RQ)×(FJ×(Int×Int)))))=>Bp s.1 s.2.1 s.2.2.1 s.2.2.2.1 s.2.2.2.2) (w,(acc.map rq,(l,((l.length:Int),(k:Int)))))=some (Bc0 (AW1 w (l.drop k) acc))
 | 0,k,acc,hk,h1,h2=>by
  refine Aq ?_
  show Bp w (acc.map rq) l (l.length:Int) (k:Int)=_;unfold Bp;rw[decide_eq_false (by omega),cF,List.drop_of_length_le (by omega)];rfl
 | m + 1,k,acc,hk,h1,h2=>by
  have hkl:k<l.length:=by omega
  have he:l[k]? = some l[k]:=za1 hkl;have hx:=hg _ (za4 he);rw[zb0 hkl];generalize l[k]=x at he hx;obtain ⟨s1,s2,s3⟩:=A07 hx hw;have hn:=ZX hw;have h12:=(JJ.1 hx).1.2;have r2:=A0N hx;rw[AW1];have top:Bp w (acc.map rq) l (l.length:Int) (k:Int)=(some (KT (shW w x))).bind fun x2 =>
    bif (!x2.2) then some (Sum.inr (Sum.inr (([]:List RQ),false))) else
    (Ah (fun (s:(Cp×((List RQ)×(FJ×(Int×(Int×((List RQ)×(Int×Int))))))))=>BS s.1 s.2.1 s.2.2.1 s.2.2.2.1 s.2.2.2.2.1 s.2.2.2.2.2.1 s.2.2.2.2.2.2.1 s.2.2.2.2.2.2.2) (w,(acc.map rq,(l,((l.length:Int),((k:Int),(x2.1,((x2.1.length:Int),(0:Int))))))))).bind fun x3 =>
    Sum.elim (fun x4=>some (Sum.inl (x4.1,(x4.2.1,(x4.2.2.1,(x4.2.2.2.1,IntKind.wrap .i64 (x4.2.2.2.2 + (1:Int)))))))) (fun x5=>some (Sum.inr (Sum.inr (x5.1,x5.2)))) x3:=by
   unfold Bp;rw[decide_eq_true (by omega),cT,A5 hkl,obs,show A1 l k=some x from he,obs,r2,obs];rw[show CO ((x.map ptQ).map rp) (w.1,(w.2.1,(w.2.2.1,w.2.2.2)))=some (KT (shW w x)) from s2]
  cases hs:shW w x with
  | none =>
   refine Aq ?_
   show Bp w (acc.map rq) l (l.length:Int) (k:Int)=_;rw[top,hs,obs];rfl
  | some qs =>
   obtain ⟨q1,q2⟩:=s3 qs hs;have ad:=A71 w l (l.length:Int) (k:Int) acc qs [] [] h2 q2 (by omega) rfl (by simp; omega);rw[hs,obs] at top;have ad':Ah (fun (s:(Cp×((List RQ)×(FJ×(Int×(Int×((List RQ)×(Int×Int))))))))=>BS s.1 s.2.1 s.2.2.1 s.2.2.2.1 s.2.2.2.2.1 s.2.2.2.2.2.1 s.2.2.2.2.2.2.1 s.2.2.2.2.2.2.2) (w,(acc.map rq,(l,((l.length:Int),((k:Int),((KT (some qs)).1,(((KT (some qs)).1.length:Int),(0:Int))))))))=some (adR w l (l.length:Int) (k:Int) [] (Jf acc qs)):=by
    have el:(KT (some qs)).1.length=([]++qs:List Rat).length:=by show (qs.map rq).length=_; simp
    rw[el];exact ad
   rw[ad',obs,show (KT (some qs)).2=true from rfl,nT,cF] at top;rw[obs];cases ha:Jf acc qs with
   | none =>
    refine Aq ?_
    show Bp w (acc.map rq) l (l.length:Int) (k:Int)=_;rw[top,ha];rfl
   | some r =>
    obtain ⟨a1,a2⟩:=SX acc qs r (by omega) ha;have go:Bp w (acc.map rq) l (l.length:Int) (k:Int)=some (.inl (w,(r.map rq,(l,((l.length:Int),((k + 1:Nat):Int)))))):=by
     rw[top,ha,<-AR (k:=k) (by omega)];rfl
    refine (AY (f:=fun (s:(Cp×((List RQ)×(FJ×(Int×Int)))))=>Bp s.1 s.2.1 s.2.2.1 s.2.2.2.1 s.2.2.2.2) (s:=(w,(acc.map rq,(l,((l.length:Int),(k:Int)))))) go).trans ?_
    rw[obs];exact A9Y m (k + 1) r (by omega) (by omega) a2
end
def zer (n:Nat):List Rat:=List.replicate n 0
theorem A7o (n:Nat):zer (n + 1)=zer n ++ [0]:=List.replicate_succ'
theorem A12 {n:Nat}:∀ q∈zer n,Sz 40 q:=fun q hq=>by
 rw[List.eq_of_mem_replicate hq];exact S0r.mono (by omega)
theorem Bh2 {n:Nat} (h:n<=1000):De 64 4 ((zer n).map rq) [rq 0]=some ((zer (n + 1)).map rq):=by
 rw[Bf0 (by simp[zer]; omega),A7o,List.map_append];rfl
theorem Bg9 (w:Cp) (l:FJ) {n:Nat} (hn:n<=1000):Ah (fun (s:(Cp×((List RQ)×(FJ×(Int×Int)))))=>Cg s.1 s.2.1 s.2.2.1 s.2.2.2.1 s.2.2.2.2) (w,((List.nil:List RQ),(l,((n:Int),(0:Int)))))=some (w,((zer n).map rq,l)):=by
 obtain ⟨_,h1,_⟩:=EM (body:=fun (s:(Cp×((List RQ)×(FJ×(Int×Int)))))=>Cg s.1 s.2.1 s.2.2.1 s.2.2.2.1 s.2.2.2.2) (fun k (_:Unit)=>(w,((zer k).map rq,(l,((n:Int),(k:Int)))))) (fun _=>(w,((zer n).map rq,l))) (fun _ _=>True) n (by
  intro k _ hk _;refine ⟨(),?_,trivial⟩
  show Cg w ((zer k).map rq) l (n:Int) (k:Int)=_;unfold Cg;rw[decide_eq_true (by omega),cT,Av6,obs];rw[show De 64 4 ((zer k).map rq) (List.cons (((rqF 0).1,(rqF 0).2.1),((rqF 0).2.2.1,(rqF 0).2.2.2)) (List.nil:List RQ))=some ((zer (k + 1)).map rq) from Bh2 (by omega),obs,AR (by omega)]) (by
  intro _ _;show Cg w ((zer n).map rq) l (n:Int) (n:Int)=_;unfold Cg;rw[decide_eq_false (by omega),cF]) 0 () (by omega) trivial
 exact h1
theorem A9X (w:Cp) (l:FJ):∀ (m n:Nat),m + n<=1000->Ah (fun (s:(Cp×(FJ×((List RQ)×Int))))=>Ci s.1 s.2.1 s.2.2.1 s.2.2.2) (w,(l,((zer n).map rq,(m:Int))))=some (w,(l,(zer (n + m)).map rq))
 | 0,n,h=>by
  refine Aq ?_
  show Ci w l ((zer n).map rq) (0:Int)=_;unfold Ci;rw[decide_eq_false (by omega),cF];rfl
 | m + 1,n,h=>by
  have go:Ci w l ((zer n).map rq) ((m + 1:Nat):Int)=some (.inl (w,(l,((zer (n + 1)).map rq,(m:Int))))):=by
   unfold Ci;rw[decide_eq_true (by omega),cT,Ax1,obs];rw[show De 64 4 ((zer n).map rq) (List.cons (((rqF 0).1,(rqF 0).2.1),((rqF 0).2.2.1,(rqF 0).2.2.2)) (List.nil:List RQ))=some ((zer (n + 1)).map rq) from Bh2 (by omega),obs,Aj (by omega) (by omega),show ((m + 1:Nat):Int)-1=(m:Int) by omega]
  refine (AY (f:=fun (s:(Cp×(FJ×((List RQ)×Int))))=>Ci s.1 s.2.1 s.2.2.1 s.2.2.2) (s:=(w,(l,((zer n).map rq,((m + 1:Nat):Int))))) go).trans ?_
  rw[A9X w l m (n + 1) (by omega),show n + 1 + m=n + (m + 1) by omega]
noncomputable def WK (s:Str) (w:Cp):Option (List Rat):=if (Mc s).2.2.2=true/\IF w=true then AW1 w (Mc s).1 (zer (nW w)) else none
theorem A7q (o:Option (List Rat)):(Sum.elim (fun x4=>some (x4,true)) (fun x5=>some (x5.1,x5.2)) (Bc0 o):Option (List RQ×Bool))=some (KT o):=by
 cases o <;> rfl
theorem TW {l:FJ} (h:KJ l=true):∀ w∈l,Lo w=true:=by
 unfold KJ at h;simp only[za2] at h;exact za5.1 h.1
theorem RO {s:Str} {w:Cp} {r:List Rat} (h:WK s w=some r):IF w=true/\r.length=nW w/\∀ q∈r,Sz 40 q:=by
 unfold WK at h
 split at h
 ·rename_i hc;rcases RU s with ⟨l,e,hg⟩ | ⟨c,a,e,hc'⟩
  ·rw[e] at h;exact ⟨hc.2,Au7 (l:=l) hc.2 (TW hg) l _ _ (TW hg) (by simp[zer]) A12 h⟩
  ·rw[e] at hc; cases hc.1
 ·cases h
theorem AR1 {s:Str} (hs:s.length<=1048576) (w:Cp):Ey s w=some (KT (WK s w)):=by
 unfold Ey WK;rw[AS1 (by omega),obs];rcases RU s with ⟨l,e,hg⟩ | ⟨c,a,e,hc⟩
 ·rw[e];simp only;rw[nT,cF,show Da (w.1,(w.2.1,(w.2.2.1,w.2.2.2)))=some (IF w) from Nl w,obs];cases hw:IF w with
  | false=>rw[nF,cT,if_neg (by simp)]; rfl
  | true =>
   obtain ⟨n1,n2,n3⟩:=ZX hw;have hn:=A3k hg;have z:=Bg9 w l (n:=nW w) (by omega);have p:=A90 hw (TW hg) (l:=l) (by omega) l.length 0 (zer (nW w)) (by omega) (by simp[zer]) A12;rw[nT,cF,n1,Aj (by omega) (by omega)];rw[show Ah (fun (s:(Cp×((List RQ)×(FJ×(Int×Int)))))=>Cg s.1 s.2.1 s.2.2.1 s.2.2.2.1 s.2.2.2.2) ((w.1,(w.2.1,(w.2.2.1,w.2.2.2))),((List.nil:List RQ),(l,((nW w:Int),(0:Int)))))=_ from z,obs]
   rw[show Ah (fun (s:(Cp×((List RQ)×(FJ×(Int×Int)))))=>Br s.1 s.2.1 s.2.2.1 s.2.2.2.1 s.2.2.2.2) ((w.1,(w.2.1,(w.2.2.1,w.2.2.2))),((zer (nW w)).map rq,(l,((l.length:Int),(0:Int)))))=_ from p,obs,A7q,if_pos ⟨trivial,rfl⟩];rfl
 ·rw[e];simp only;rw[nF,cT,if_neg (by simp)];rfl
theorem A0D {s:Str} (hs:s.length<=1048576) (w:Cp):EC s w=some (KT (WK s w)):=by
 unfold EC WK;rw[AY4 (by omega),obs];rcases RU s with ⟨l,e,hg⟩ | ⟨c,a,e,hc⟩
 ·rw[e];simp only;rw[nT,cF,show C6 (w.1,(w.2.1,(w.2.2.1,w.2.2.2)))=some (IF w) from NZ w,obs];cases hw:IF w with
  | false=>rw[nF,cT,if_neg (by simp)]; rfl
  | true =>
   obtain ⟨n1,n2,n3⟩:=ZX hw;have hn:=A3k hg;have z:=A9X w l (nW w) 0 (by omega);rw[ze4] at z;have p:=A9Y hw (TW hg) (l:=l) (by omega) l.length 0 (zer (nW w)) (by omega) (by simp[zer]) A12;rw[nT,cF,n1,Aj (by omega) (by omega)];rw[show Ah (fun (s:(Cp×(FJ×((List RQ)×Int))))=>Ci s.1 s.2.1 s.2.2.1 s.2.2.2) ((w.1,(w.2.1,(w.2.2.1,w.2.2.2))),(l,((List.nil:List RQ),(nW w:Int))))=_ from z,obs]
   rw[show Ah (fun (s:(Cp×((List RQ)×(FJ×(Int×Int)))))=>Bp s.1 s.2.1 s.2.2.1 s.2.2.2.1 s.2.2.2.2) ((w.1,(w.2.1,(w.2.2.1,w.2.2.2))),((zer (nW w)).map rq,(l,((l.length:Int),(0:Int)))))=_ from p,obs,A7q,if_pos ⟨trivial,rfl⟩];rfl
 ·rw[e];simp only;rw[nF,cT,if_neg (by simp)];rfl
def A4f:Option (List Rat)->List Int×Bool
 | none=>([],false)
 | some r=>(r.map byQ,true)
theorem A8n {s:Str} {w:Cp}:(A4f (WK s w)).1.length<=64:=by
 cases h:WK s w with
 | none=>simp[A4f]
 | some r =>
  obtain ⟨h1,h2,h3⟩:=RO h;have:=(ZX h1).2.2;simp[A4f];omega
theorem AE2 {s:Str} (hs:s.length<=1048576) (w:Cp):DL s w=some (A4f (WK s w)):=by
 unfold DL;rw[show Ey s (w.1,(w.2.1,(w.2.2.1,w.2.2.2)))=_ from AR1 hs w,obs];cases h:WK s w with
 | none=>rfl
 | some r =>
  obtain ⟨h1,h2,h3⟩:=RO h;have:=(ZX h1).2.2;show (bif !true then _ else (GR (r.map rq)).bind fun x1=>some (x1,true))=_;rw[nT,cF,A5a h3 (by omega),obs];rfl
theorem AJ1 {s:Str} (hs:s.length<=1048576) (w:Cp):E8 s w=some (A4f (WK s w)):=by
 unfold E8;rw[show EC s (w.1,(w.2.1,(w.2.2.1,w.2.2.2)))=_ from A0D hs w,obs];cases h:WK s w with
 | none=>rfl
 | some r =>
  obtain ⟨h1,h2,h3⟩:=RO h;have:=(ZX h1).2.2;have lp:=AM5 h3 (by omega);have lp':Ah (fun (s:((List Int)×((List RQ)×(Int×Int))))=>BX s.1 s.2.1 s.2.2.1 s.2.2.2) ((List.nil:List Int),((KT (some r)).1,(((KT (some r)).1.length:Int),(0:Int))))=some (r.map byQ):=by
   rw[show (KT (some r)).1.length=r.length by show (r.map rq).length=_; simp];exact lp
  rw[show (KT (some r)).2=true from rfl,nT,cF,lp',obs];rfl
end
section
open Go
theorem AV8 {l m:List Int} (hl:l.length<4611686018427387904):H9 l m=some (decide (l=m)):=by
 unfold H9;by_cases hlm:m.length=l.length
 ·rw[show ((l.length:Int) != (m.length:Int))=false by simp[hlm],cF];obtain ⟨r,h1,h2,h3⟩:=A4S (E:=fun a b:Int=>some (a==b)) (l:=l) (m:=m) hl hlm (fun a _ b _=>⟨a==b,rfl,by simp⟩);have e:Ah (fun (s:(List Int×(List Int×Int)))=>U4 s.1 s.2.1 s.2.2) (l,m,(0:Int))=some r:=h1;rw[e,obs];by_cases h:l=m
  ·rw[h2 h,decide_eq_true h]; rfl
  ·rw[h3 h,decide_eq_false h]; rfl
 ·rw[show ((l.length:Int) != (m.length:Int))=true by simp[bne]; omega,cT,decide_eq_false];rintro rfl;exact hlm rfl
theorem A2K {l:List Int} (hl:l.length<1099511627776):HC l 1=some (Hd 1 l.length,1 + (l.length:Int)):=by
 unfold HC;have h:Ah (fun (s:(List Int×(Int×Int)))=>OY s.1 s.2.1 s.2.2) (l,(1:Int),(0:Int))=some (Hd 1 l.length,1 + (l.length:Int)):=A1w hl (by omega) (by omega);rw[h,obs]
theorem A14 {n:Nat} (hl:n<1099511627776):Fz (Hd 1 n) 1=some (1 + (n:Int)):=by
 unfold Fz;have h:Ah (fun (s:(List Int×(Int×Int)))=>Px s.1 s.2.1 s.2.2) (Hd 1 n,(1:Int),(0:Int))=some (.inl (1 + (n:Int))):=A1A hl (by omega) (by omega);rw[h,obs];rfl
end
section
open Go
theorem OD (s:Str) (w:Cp):Co s w=some true:=by
 unfold Co;by_cases h:(s.length:Int)>1048576
 ·rw[decide_eq_true h]; rfl
 ·have hs:=AJ1 (s:=s) (by omega) w;have hi:=AE2 (s:=s) (by omega) w;have hl:=A8n (s:=s) (w:=w);have tw:Eb w=some w:=by unfold Eb; rfl
  generalize A4f (WK s w)=v at hs hi hl;have hm:(Hd 1 v.1.length).length=v.1.length:=by simp[Hd]
  have hx:∀ n:Int,(n != n)=false:=fun n=>by simp[bne]
  rw[decide_eq_false h,cF];simp only[A4];rw[tw,obs,hs,obs,obs,hi,obs,AV8 (by omega),decide_eq_true rfl,obs,nT,cF,beq_self_eq_true,nT,cF,A2K (by omega),obs];simp only[hm,decide_true,cond_true];rw[A14 (by omega),obs,decide_eq_false (by omega),cF,hx,cF,obs,hi,obs,AV8 (by omega),decide_eq_true rfl,obs,nT,cF,beq_self_eq_true,nT,cF]
  try rw[obs]
  try rw[decide_eq_false (by omega)]
  try rw[cF]
  try rw[hx,cF]
end
end Go.Proofs.YtiijheppiboglaaGreatDoor.Ev
section
namespace Go.Proofs.YtiijheppiboglaaGreatDoor.Ev
open Go Go.RowKit Go.ChangeShapes Go.WideShapes Go.ChangeAt
set_option maxRecDepth 100000
def shs:List Sh:=[.str,.pair (.int .i64) (.pair (.int .i64) (.pair (.int .i64) (.int .i64)))]
theorem fits:A31 Tryz.prog [9,55] shs:=by
 exact ⟨.str (by kernel_rfl),.st Tryz.underlying55 (by kernel_rfl) (.cons rfl (by kernel_rfl) (.int (by kernel_rfl)) (.cons rfl (by kernel_rfl) (.int (by kernel_rfl)) (.cons rfl (by kernel_rfl) (.int (by kernel_rfl)) (.one rfl (by kernel_rfl) (.int (by kernel_rfl)))))),trivial⟩
theorem own:ownKnob Tryz.prog.godebug=none:=by kernel_rfl
theorem laid:laidOutB Tryz.prog=true:=by kernel_rfl
theorem door_met (os:Os) (args:Array Value):laidMetH Tryz.prog Rows.fnExactPictureForRow.laid ((World.laidAll Tryz.prog os Rows.fnExactPictureForRow.laid).forCall (fun _ _=>0) ⟨#[],args,[]⟩).memory:=by
 rw[MakeChecks.laidMetH_plain _ _ _ (by kernel_rfl)];exact laidMet_laidAll _ (by kernel_rfl) (by kernel_rfl)
theorem starE : "*" ++ "errors.errorString" = "*errors.errorString" := by decide
def ids:List Nat:=[0,1,2,3]
theorem libJ {W:World} (hsh:W.ShapedOpen Tryz.prog) (hL:laidMetH Tryz.prog Rows.fnExactPictureForRow.laid W):LibJ (Jof W ids):=by
 rw[MakeChecks.laidMetH_plain _ _ _ (by kernel_rfl)] at hL;have hP:laidMet Tryz.prog Rows.fnExactPictureForRow.laid W:=hL;have htab:Lib.TabIs Tryz.prog W "internal/strconv.uint64pow10" .u64 Lib.pow10Tab:=Lib.tabIs_of_head (g:=3) (t:=254) (e:=113) (n:=20) (by kernel_rfl) (by kernel_rfl) (by kernel_rfl) (by kernel_rfl) (by kernel_rfl) (by kernel_rfl) (show laidMet Tryz.prog ((_,Lib.tabData .u64 Lib.pow10Tab)::_) W from Jp 2 hP)
 have hmax:∃ m:Int,W.cell? ⟨2,0,none⟩=some (.int .i64 m):=Go.Proofs.cell_of_shapedOpen_int (zero:=#[.int .i64 0]) (t:=3) hsh (of_decide_eq_true (by kernel_rfl)) (by kernel_rfl) rfl (by kernel_rfl) (by kernel_rfl) Tryz.underlying3;have hsyn:∃ tp p,W.var? Tryz.prog "strconv.ErrSyntax" = some #[.iface tp p]:=by
  obtain ⟨a,s,hv,_⟩:=laid_sentinel (g:=0) (ti:=125) (tp:=259) (te:=261) (ts:=9) (Jp 5 hP) (by kernel_rfl) (by kernel_rfl) Tryz.underlying125 (fun u h=>typeName_ptr_named (nm := "errors.errorString") (by rw[starE]; kernel_rfl) (by kernel_rfl) (by decide) u (by rw[starE]; exact h)) Tryz.underlying259 Tryz.underlying261 rfl rfl Tryz.underlying9 (by kernel_rfl) (by kernel_rfl);exact ⟨_,_,hv⟩
 have hrng:∃ tp p,W.var? Tryz.prog "strconv.ErrRange" = some #[.iface tp p]:=by
  obtain ⟨a,s,hv,_⟩:=laid_sentinel (g:=1) (ti:=125) (tp:=259) (te:=261) (ts:=9) (Jp 4 hP) (by kernel_rfl) (by kernel_rfl) Tryz.underlying125 (fun u h=>typeName_ptr_named (nm := "errors.errorString") (by rw[starE]; kernel_rfl) (by kernel_rfl) (by decide) u (by rw[starE]; exact h)) Tryz.underlying259 Tryz.underlying261 rfl rfl Tryz.underlying9 (by kernel_rfl) (by kernel_rfl);exact ⟨_,_,hv⟩
 unfold ids;exact { tab:=Bl3 (g:=3) (by kernel_rfl) (by simp) htab,max:=Bl5 (g:=2) (by simp) hmax,syn:=Bi3 (g:=0) (by kernel_rfl) (by simp) hsyn,rng:=Bi3 (g:=1) (by kernel_rfl) (by simp) hrng }
theorem lifted (os:Os) (started:os.Started) (H:Type) (enc:TypeId×Value->H) :
  ReturnsInHanded {} Tryz.checked os 6 .any (fun w args=>(Rows.fnExactPictureForSpec.pre enc Tryz.prog Tryz.f6 [] false w args/\laidMetH Tryz.prog Rows.fnExactPictureForRow.laid w)/\sizedMet enc Tryz.prog Tryz.f6 (OpenSpec.ofChange Rows.fnExactPictureForSpec) false w args)
   (Rows.fnExactPictureForSpec.post enc Tryz.prog Tryz.f6 false true false false):=by
 refine Qa (C:=Tryz.checked) (X:=fun w _=>laidMetH Tryz.prog Rows.fnExactPictureForRow.laid w) (fun _ _ _ hh h=>h.of_heap hh) own started (by kernel_rfl) Tryz.func6
  (ChangeSpec.witness_shaped (enc:=enc) (C:=Tryz.checked) (os:=os) (X:=fun w _=>laidMetH Tryz.prog Rows.fnExactPictureForRow.laid w) false (World.laidAll Tryz.prog os Rows.fnExactPictureForRow.laid) #[.string ⟨#[]⟩,.agg #[.int .i64 0,.int .i64 0,.int .i64 0,.int .i64 0]] 8 (World.laidAll_os _ _ _) (World.shaped_of_ZipB (by kernel_rfl) (by kernel_rfl)) (by kernel_rfl) (by kernel_rfl) (by kernel_rfl) (door_met os _)) ?_
 intro W base args ds gs before hval hW hsz hsh hL;exact Ao9 (P:=Tryz.prog) (J:=Jof W ids) (cf:=cf0) (ext:=Bc6) (F:=fun x=>Co x.1 x.2) (shs:=shs) (by kernel_rfl) (A7A (libJ hsh hL)) Ng (fun d=>by kernel_rfl)
  (fun d hd=>OD d.1 d.2) rfl rfl (by kernel_rfl) fits laid
  (fun t ht=>by
   have:t=9\/t=55:=by simpa using ht
   rcases this with rfl | rfl <;> exact ⟨by kernel_rfl,of_decide_eq_true (by kernel_rfl)⟩) rfl
  (fun ds hl=>by
   match ds,hl with
   | [_,_],_=>rfl) A57 hval hW hsz
theorem hfn:Tryz.prog.funcNamed "loop.example/g00409/laws.FnExactPictureFor" = some 6:=by kernel_rfl
theorem closed:joinedFacts Tryz.prog 6 Tryz.f6 Rows.fnExactPictureForSpec Rows.fnExactPictureForRow=true:=by
 unfold joinedFacts;simp only[za2]
 repeat' apply And.intro
 all_goals (as_aux_lemma=>kernel_rfl)
theorem over:Rows.fnExactPictureForRow.holds Tryz.pinned (OpenSpec.ofChange Rows.fnExactPictureForSpec) :=
 OpenClaim.holds_of_wide 6 Tryz.f6 rfl rfl rfl rfl rfl rfl rfl ⟨rfl,rfl,rfl,rfl,rfl⟩ rfl rfl rfl rfl rfl hfn Tryz.func6 closed
  (of_decide_eq_true (by as_aux_lemma=>kernel_rfl)) (by unfold Func.isWrapper; first | (rw[if_pos (by decide +kernel)]; kernel_rfl) | (rw[if_neg (by decide +kernel)]; exact ⟨rfl,rfl⟩))
  (fun os started H enc _=>lifted os started H enc)
theorem carded:Rows.FnExactPictureForCardSaid :=
 Claim7.holds_tied_plain_at .later [] [.data,.data,.data,.data,.sentinel,.sentinel,.pinned] true (true, "468de68268811ac350c0866b8afcc88575c2e10ab6507847880ba7abcce4bdc1") true
  over (fun _ h=>by cases h) (by as_aux_lemma=>kernel_rfl) (fun _ h=>by cases h) fnExactPictureFor_row_tie rfl ⟨rfl,rfl⟩ (by as_aux_lemma=>kernel_rfl) rfl
  (fun f fn hf hf2=>by
   obtain rfl:f=6:=Option.some.inj (hfn.symm.trans hf) |>.symm
   obtain rfl:fn=Tryz.f6:=(Option.some.inj (Tryz.func6.symm.trans hf2)).symm;exact ⟨by as_aux_lemma=>kernel_rfl,fun j t ht=>by
    rw[show Tryz.f6.params = #[9,55] from rfl] at ht;have hm:t∈[9,55]:=by simpa using Array.mem_of_getElem? ht
    have hall:([9,55].all fun u=>!Tryz.prog.wantsStandIn u)=true:=by kernel_rfl
    exact (show Tryz.prog.wantsStandIn t=false by simpa using za5.1 hall t hm)⟩)
  (by as_aux_lemma=>kernel_rfl)
end Go.Proofs.YtiijheppiboglaaGreatDoor.Ev
namespace Go.Proofs.YtiijheppiboglaaGreatDoor
theorem fnExactPictureFor_holds:Rows.FnExactPictureForSaid:=Ev.over
theorem fnExactPictureFor_card_holds:Rows.FnExactPictureForCardSaid:=Ev.carded
#print axioms fnExactPictureFor_card_holds
end Go.Proofs.YtiijheppiboglaaGreatDoor

end
