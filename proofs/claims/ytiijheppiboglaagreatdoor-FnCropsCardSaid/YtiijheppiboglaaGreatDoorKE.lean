/- What the theorem of this claim leans on, part 5. -/
import Derived.Test.YtiijheppiboglaaGreatDoorKD
import Derived.Test.YtiijheppiboglaaGreatDoorProg
import Derived.KernelRfl
import Derived.Lib.ItoaNum
import Derived.Lib.ItoaLen
import Derived.Lib.AtoiAll
import Derived.Lib.Split
import Derived.Lib.SplitLaws
import Derived.Lib.IndexMore
import Derived.Lib.Join
set_option maxHeartbeats 2000000
open Option renaming bind_some → za0
open List renaming getElem?_eq_getElem → za1,mem_of_getElem? → za3,getElem?_eq_some_iff → za4,all_eq_true → za5,drop_eq_getElem_cons → za9,mem_append → zb0,eq_nil_of_length_eq_zero → zb2,length_append → zb5,length_cons → zb7,map_cons → zb9,mem_cons → zc1,take_of_length_le → zc3,length_map → zc5,mem_singleton → zd0,all_cons → zd1,drop_eq_nil_of_le → zd2,mem_map → zd3,getElem?_drop → zd5,length_pos_iff → zd6,length_take → zd9,mem_cons_of_mem → ze4,drop_zero → ze5,append_assoc → ze6,take_add_one → ze7,cons_append → ze8,length_nil → zf0,append_nil → zf1
open Bool renaming and_eq_true → za2,true_and → ze2,not_true → zf5,false_and → zf8
open Sum renaming elim_inr → za6,elim_inl → zg0
open Nat renaming le_refl → za7,lt_or_ge → zd8,mul_le_mul_right → ze0,lt_of_lt_of_le → ze1,le_trans → zf2,zero_add → zf3,add_mul → zf9
open Int renaming toNat_natCast → zc2,tmod_eq_emod_of_nonneg → zc6,tdiv_eq_ediv_of_nonneg → zc7,mul_add → ze3,natAbs_natCast → zf4
open Go.IntKind renaming wrap → zi, i64 → zj, u64 → zk
open Option.some renaming inj → zv, injEq → zx
open Sum renaming inl → zy, inr → zb
noncomputable section
set_option linter.unusedVariables false
set_option linter.unusedSimpArgs false
set_option linter.unusedSectionVars false
namespace Go.Proofs.YtiijheppiboglaaGreatDoor.Ev
section
open Go
set_option maxRecDepth 100000
def GR (a0:List UInt8) (a1:Tq6):Option (List Tq22×Bool):=(GO a0).bind fun x0=>bif(!x0.2.2.2)then some (([]:List Tq1),false)else(Ci (a1.1,a1.2.1,a1.2.2.1,a1.2.2.2)).bind fun x1=>bif(!x1)then some (([]:List Tq1),false)else(Ad (fun(s:Tq6×List Tq1×List Tq2×Int×Int)=>Ct s.1 s.2.1 s.2.2.1 s.2.2.2.1 s.2.2.2.2) ((a1.1,a1.2.1,a1.2.2.1,a1.2.2.2),([]:List Tq1),x0.1,(zi zj (a1.2.2.1*a1.2.2.2)),(0:Int))).bind fun x2=>(Ad (fun(s:Tq6×List Tq1×List Tq2×Int×Int)=>Bk s.1 s.2.1 s.2.2.1 s.2.2.2.1 s.2.2.2.2) ((x2.1.1,x2.1.2.1,x2.1.2.2.1,x2.1.2.2.2),x2.2.1,x2.2.2,(x2.2.2.length:Int),(0:Int))).bind fun x3=>Sum.elim (fun x4=>some (x4,true)) (fun x5=>some (x5.1,x5.2)) x3
def b7:OKE:=fq RG (fun x=>GR x.1 x.2) [Rx,Ie,IZ,mJ,fW,JJ,Pu] Tryz.func50
def Pk (a0:Tq5):Option Tq12:=(Bo false a0.2).bind fun x0=>some (x0.2,x0.1)
def iU:OKE:=fq WE (fun x=>Pk x) [Fm] Tryz.func263
def Mg (a0:Tq3):Option Tq7:=(Pk (a0.1,a0.2.1)).bind fun x0=>(Bo false a0.2.2.2).bind fun x1=>some (x0.1,x0.2,x1.2,x1.1)
def iZ:OKE:=fq WQ (fun x=>Mg x) [iU,Fm] Tryz.func219
def Pl (a0 a1:Tq5):Option Tq12:=(Hu (a1.1,a1.2)).bind fun x0=>(Jw (a0.1,a0.2) (x0.1,x0.2)).bind fun x1=>some (x1.1,x1.2)
def iV:OKE:=fq WK (fun x=>Pl x.1 x.2) [Pq,Wr] Tryz.func294
def IS (a0 a1:Tq5):Option Tq12:=(Ht (a0.1,a0.2) (a1.1,a1.2)).bind fun x0=>(BZ (x0.2.1,x0.2.2)).bind fun x1=>bif decide (x1<0)then(Ez 1).bind fun x2=>(Pl (x0.1.1,x0.1.2) (x2.1,x2.2)).bind fun x3=>some (x3.1,x3.2)else some (x0.1.1,x0.1.2)
def U7:OKE:=fq M4 (fun x=>IS x.1 x.2) [Ws,NU,M0,iV] Tryz.func266
def GQ (a0:Tq3):Option Tq12:=(IS (a0.1,a0.2.1) (a0.2.2.1,a0.2.2.2)).bind fun x0=>some (x0.1,x0.2)
def bZ:OKE:=fq RD (fun x=>GQ x) [U7] Tryz.func222
def FG (s0:Tq5) (s1 s2:Int):Option (Tq5×Int×Int⊕Tq5×Int):=bif decide (s2>=0)then(AA s0.2 s2).bind fun x0=>some (zy ((s0.1,s0.2),(zi zj ((zi zj (s1*65536))+x0)),(zi zj (s2-1))))else some (zb ((s0.1,s0.2),s1))
def KJ (a0:Tq5):Option (Int×Bool):=(Jy (a0.1,a0.2)).bind fun x0=>bif(!x0)then some ((0:Int),false)else(Ez 4611686018427387904).bind fun x1=>(B8 a0.2 x1.2).bind fun x2=>bif decide (x2>0)then some ((0:Int),false)else(Ad (fun(s:Tq5×Int×Int)=>FG s.1 s.2.1 s.2.2) ((a0.1,a0.2),(0:Int),(zi zj ((a0.2.length:Int)-1)))).bind fun x3=>bif x3.1.1 then some ((zi zj ((0:Int)-x3.2)),true)else some (x3.2,true)
def rn:OKE:=fq cW (fun x=>KJ x) [Wv,M0,Gr] Tryz.func221
def NF (a0:Tq3):Option Int:=(Mg (a0.1,a0.2.1,a0.2.2.1,a0.2.2.2)).bind fun x0=>((Be 1).bind fun x1=>(DY (x1.1,x1.2.1,x1.2.2.1,x1.2.2.2) (x0.1,x0.2.1,x0.2.2.1,x0.2.2.2)).bind fun x2=>bif x2 then(Be 1).bind fun x3=>some (zb (x3.1,x3.2.1,x3.2.2.1,x3.2.2.2))else some (zb (x0.1,x0.2.1,x0.2.2.1,x0.2.2.2))).bind fun x4=>Sum.elim (fun x5=>some x5) (fun x6=>(Be 255).bind fun x7=>(CY (x6.1,x6.2.1,x6.2.2.1,x6.2.2.2) (x7.1,x7.2.1,x7.2.2.1,x7.2.2.2)).bind fun x8=>(Be 1).bind fun x9=>(DX (x9.1,x9.2.1,x9.2.2.1,x9.2.2.2)).bind fun x10=>(Dj (x8.1,x8.2.1,x8.2.2.1,x8.2.2.2) (x10.1,x10.2.1,x10.2.2.1,x10.2.2.2)).bind fun x11=>(GQ (x11.1,x11.2.1,x11.2.2.1,x11.2.2.2)).bind fun x12=>(KJ (x12.1,x12.2)).bind fun x13=>some x13.1) x4
def mF:OKE:=fq Zc (fun x=>NF x) [iZ,IZ,NX,Pr,Tc,JJ,bZ,rn] Tryz.func172
def D9 (s0:List Int) (s1:List Tq1) (s2 s3:Int):Option (List Int×List Tq1×Int×Int⊕List Int):=bif decide (s3<s2)then(AA s1 s3).bind fun x0=>(NF (x0.1.1,x0.1.2,x0.2.1,x0.2.2)).bind fun x1=>(BV 8 1 s0 ([x1]:List Int)).bind fun x2=>some (zy (x2,s1,s2,(zi zj (s3+1))))else some (zb s0)
def Jz (a0:List Tq1):Option (List Int):=(Ad (fun(s:List Int×List Tq1×Int×Int)=>D9 s.1 s.2.1 s.2.2.1 s.2.2.2) (([]:List Int),a0,(a0.length:Int),(0:Int))).bind fun x0=>some x0
def i8:OKE:=fq WY (fun x=>Jz x) [mF] Tryz.func109
def BS (a0:List UInt8) (a1:Tq6):Option (List Int×Bool):=(GR a0 (a1.1,a1.2.1,a1.2.2.1,a1.2.2.2)).bind fun x0=>bif(!x0.2)then some (([]:List Int),false)else(Jz x0.1).bind fun x1=>some (x1,true)
def Ig:OKE:=fq PE (fun x=>BS x.1 x.2) [b7,i8] Tryz.func40
def HX (a0:Int):Option Bool:=(AE a0 0 255).bind fun x0=>some (!x0)
def Pt:OKE:=fq PG (fun x=>HX x) [Eg] Tryz.func181
def Ar (s0:List Int) (s1 s2:Int):Option (List Int×Int×Int⊕(Unit⊕Int)):=bif decide (s2<s1)then(AA s0 s2).bind fun x0=>(HX x0).bind fun x1=>bif x1 then some (zb (zb s2))else some (zy (s0,s1,(zi zj (s2+1))))else some (zb (zy ()))
def BN (a0:List Int):Option Int:=(Ad (fun(s:Tq10)=>Ar s.1 s.2.1 s.2.2) (a0,(a0.length:Int),(0:Int))).bind fun x0=>Sum.elim (fun x1=>some (-(1:Int))) (fun x2=>some x2) x0
def EL:Ent:=⟨C1,fun x=>BN x⟩
def EM:TX:=⟨UY,R8,[],[4],[Pt.E],C1⟩
theorem JM(a0:List (Int)):wtF EM Tryz.f233 (a0)=BN a0:=by kernel_rfl
theorem IY:Ch RR EL:=Q3 (X:=EM) ⟨uf,Vq,r8⟩ (Uc (by exact⟨⟨Pt.k,rfl⟩,trivial⟩)) (uO Dc (by kernel_rfl) rfl rfl rfl rfl rfl rfl) ⟨Tryz.func233,rfl,by kernel_rfl,rfl⟩ (fun x=>by exact JM x)
def Bs (a0:List Int):Option Bool:=(BN a0).bind fun x0=>some (decide (x0>=0))
def DW:Ent:=⟨Cm,fun x=>Bs x⟩
def D2:TX:=⟨UY,R8,[],[4],[EL],Cm⟩
theorem Im(a0:List (Int)):wtF D2 Tryz.f180 (a0)=Bs a0:=by kernel_rfl
theorem HL:Ch RR DW:=Q3 (X:=D2) ⟨uf,Vq,r8⟩ (Uc (by exact⟨⟨IY,rfl⟩,trivial⟩)) (uO CL (by kernel_rfl) rfl rfl rfl rfl rfl rfl) ⟨Tryz.func180,rfl,by kernel_rfl,rfl⟩ (fun x=>by exact Im x)
def Ii:OKE:=⟨DW,HL,rfl⟩
def HW (a0:List Int):Option Bool:=(Bs a0).bind fun x0=>some (!x0)
def fZ:OKE:=fq TC (fun x=>HW x) [Ii] Tryz.func123
def MS (a0 a1:Int):Option (List UInt8):=(BU a0).bind fun x0=>(Ds ([80,53,10]:List UInt8) x0).bind fun x1=>(Ds x1 ([32]:List UInt8)).bind fun x2=>(BU a1).bind fun x3=>(Ds x2 x3).bind fun x4=>(Ds x4 ([10,50,53,53,10]:List UInt8)).bind fun x5=>some x5
def jc:OKE:=fq jA (fun x=>MS x.1 x.2) [Ik] Tryz.func128
def Gl (a0 a1:Int) (a2:List Int):Option Tq24:=tg AE HW MS a0 a1 a2
def MR:Ent:=⟨M5,fun x=>Gl x.1 x.2.1 x.2.2⟩
theorem S8:Ch RR MR:=zm AE HW MS (by kernel_rfl) (fun J hJ=>j8 hJ) Eg.k fZ.k jc.k fun _ _ _ _ _ h=>Or.inr (Or.inr (Or.inr (Or.inr (Or.inr (Or.inl h)))))
def U8:OKE:=⟨MR,S8,rfl⟩
def Mc (a0:List UInt8) (a1:Tq6):Option Tq24:=(BS a0 (a1.1,a1.2.1,a1.2.2.1,a1.2.2.2)).bind fun x0=>bif(!x0.2)then some (([]:List UInt8),false)else(Gl a1.2.2.1 a1.2.2.2 x0.1).bind fun x1=>some (x1.1,x1.2)
def Wu:OKE:=fq WM (fun x=>Mc x.1 x.2) [Ig,U8] Tryz.func64
def FS (s0:Tq8) (s1:List UInt8) (s2 s3:Int):Option (Tq8×List UInt8×Int×Int⊕Tq8×List UInt8×Int):=bif decide (s3<(s1.length:Int))then(AA s1 s3).bind fun x0=>bif((((UInt8.toNat x0):Nat):Int)==32)then(Fx s2 s3 (List.length s1)).bind fun x1=>(BV 16 1 s0 ([(List.drop x1.1 (List.take x1.2 s1))]:List (List UInt8))).bind fun x2=>some (zy (x2,s1,(zi zj (s3+1)),(zi zj (s3+1))))else some (zy (s0,s1,s2,(zi zj (s3+1))))else some (zb (s0,s1,s2))
def Kt (a0:List UInt8):Option Tq8:=(Ad (fun(s:Tq8×List UInt8×Int×Int)=>FS s.1 s.2.1 s.2.2.1 s.2.2.2) (([]:List (List UInt8)),a0,(0:Int),(0:Int))).bind fun x0=>(Fx x0.2.2 (x0.2.1.length:Int) (List.length x0.2.1)).bind fun x1=>(BV 16 1 x0.1 ([(List.drop x1.1 (List.take x1.2 x0.2.1))]:List (List UInt8))).bind fun x2=>some x2
def gg:OKE:=fq TU (fun x=>Kt x) [] Tryz.func95
def DT (s0:List UInt8) (s1 s2 s3:Int):Option (List UInt8×Int×Int×Int⊕List UInt8×Int×Int×Int):=bif decide (s3<(s0.length:Int))then bif decide (s3<(zi zj (s1+4)))then(AA s0 s3).bind fun x0=>bif decide ((((UInt8.toNat x0):Nat):Int)>=48)then(AA s0 s3).bind fun x1=>bif decide ((((UInt8.toNat x1):Nat):Int)<=57)then(AA s0 s3).bind fun x2=>some (zy (s0,s1,(zi zj ((zi zj ((10:Int)*s2))+(zi zj (zi .u8 ((((UInt8.toNat x2):Nat):Int)-48))))),(zi zj (s3+1))))else some (zb (s0,s1,s2,s3))else some (zb (s0,s1,s2,s3))else some (zb (s0,s1,s2,s3))else some (zb (s0,s1,s2,s3))
def NN (a0:List UInt8) (a1:Int):Option (Int×Int):=(Ad (fun(s:List UInt8×Int×Int×Int)=>DT s.1 s.2.1 s.2.2.1 s.2.2.2) (a0,a1,(0:Int),a1)).bind fun x0=>bif(x0.2.2.2==x0.2.1)then some ((-(1:Int)),x0.2.1)else(AA x0.1 x0.2.1).bind fun x1=>bif((((UInt8.toNat x1):Nat):Int)==48)then bif decide (x0.2.2.2>(zi zj (x0.2.1+1)))then some ((-(1:Int)),x0.2.1)else some (x0.2.2.1,x0.2.2.2)else some (x0.2.2.1,x0.2.2.2)
def mQ:OKE:=fq Zp (fun x=>NN x.1 x.2) [] Tryz.func102
def H6 (a0:List UInt8):Option (Int×Bool):=(bif decide ((a0.length:Int)>0)then(AA a0 0).bind fun x0=>some (zb (a0,((((UInt8.toNat x0):Nat):Int)==45)))else some (zb (a0,false))).bind fun x1=>Sum.elim (fun x2=>some x2) (fun x3=>(bif x3.2 then(Fx (1:Int) (x3.1.length:Int) (List.length x3.1)).bind fun x4=>some (zb (x3.2,(List.drop x4.1 (List.take x4.2 x3.1))))else some (zb (x3.2,x3.1))).bind fun x5=>Sum.elim (fun x6=>some x6) (fun x7=>(NN x7.2 0).bind fun x8=>(bif decide (x8.1<0)then some (zy ((0:Int),false))else bif decide (x8.2<(x7.2.length:Int))then some (zy ((0:Int),false))else bif x7.1 then bif(x8.1==0)then some (zy ((0:Int),false))else some (zb (x7.1,x8.1))else some (zb (x7.1,x8.1))).bind fun x9=>Sum.elim (fun x10=>some x10) (fun x11=>bif x11.1 then some ((zi zj ((0:Int)-x11.2)),true)else some (x11.2,true)) x9) x5) x1
def YY:OKE:=fq PO (fun x=>H6 x) [mQ] Tryz.func31
def Aq (a0:Tq19) (a1:List Tq2) (a2:Tq2):Option ((List (List UInt8)×Int×Int)×List Tq2×List (Int×Int)×Int):=bif(a0.2.2 != (0:Int))then some ((a0.1,a0.2.1,a0.2.2),a1,a2,(0:Int))else bif(a0.2.1==(a0.1.length:Int))then some ((a0.1,a0.2.1,(3:Int)),a1,a2,(0:Int))else(AA a0.1 a0.2.1).bind fun x0=>(H6 x0).bind fun x1=>bif(!x1.2)then some ((a0.1,a0.2.1,(3:Int)),a1,a2,(0:Int))else some ((a0.1,(zi zj (a0.2.1+1)),a0.2.2),a1,a2,x1.1)
def Yd:OKE:=fq O6 (fun x=>Aq x.1 x.2.1 x.2.2) [YY] Tryz.func161
def AF (a0:Tq19) (a1:List Tq2) (a2:Tq2) (a3:Int×Int):Option ((List (List UInt8)×Int×Int)×List Tq2×List (Int×Int)):=bif(a0.2.2 != (0:Int))then some ((a0.1,a0.2.1,a0.2.2),a1,a2)else(He (a3.1,a3.2)).bind fun x0=>bif(!x0)then some ((a0.1,(zi zj (a0.2.1-1)),(6:Int)),a1,a2)else(BV 16 2 a2 ([(a3.1,a3.2)]:List (Int×Int))).bind fun x1=>some ((a0.1,a0.2.1,a0.2.2),a1,x1)
def Y1:OKE:=fq PQ (fun x=>AF x.1 x.2.1 x.2.2.1 x.2.2.2) [YX] Tryz.func162
def Dz (s0:Tq19) (s1:Tq8) (s2:List Tq2) (s3:Tq2) (s4:List UInt8) (s5 s6:Bool) (s7 s8:Int):Option (Tq19×Tq8×List Tq2×Tq2×List UInt8×Bool×Bool×Int×Int⊕Tq19×List Tq2×Tq2×List UInt8×Bool×Bool):=bif decide (s8<s7)then(AW s8 (List.length s1)).bind fun x0=>(AN s1 x0).bind fun x1=>bif s6 then some (zy ((s0.1,s0.2.1,s0.2.2),s1,s2,s3,s4,s5,true,s7,(zi zj (s8+1))))else some (zy ((s0.1,s0.2.1,s0.2.2),s1,s2,s3,s4,s5,(x1==s4),s7,(zi zj (s8+1))))else some (zb ((s0.1,s0.2.1,s0.2.2),s2,s3,s4,s5,s6))
def Av (a0:Tq19) (a1:List Tq2) (a2:Tq2):Option ((List (List UInt8)×Int×Int)×List Tq2×List (Int×Int)):=(AA a0.1 a0.2.1).bind fun x0=>(Ad (fun(s:Tq19×Tq8×List Tq2×Tq2×List UInt8×Bool×Bool×Int×Int)=>Dz s.1 s.2.1 s.2.2.1 s.2.2.2.1 s.2.2.2.2.1 s.2.2.2.2.2.1 s.2.2.2.2.2.2.1 s.2.2.2.2.2.2.2.1 s.2.2.2.2.2.2.2.2) ((a0.1,a0.2.1,a0.2.2),([([77]:List UInt8),([76]:List UInt8),([108]:List UInt8),([72]:List UInt8),([104]:List UInt8),([86]:List UInt8),([118]:List UInt8),([90]:List UInt8)]:List (List UInt8)),a1,a2,x0,decide ((a2.length:Int)>0),false,((8:Nat):Int),(0:Int))).bind fun x1=>(bif(!x1.2.2.2.2.2)then some (zb ((x1.1.1,x1.1.2.1,(2:Int)),x1.2.1,x1.2.2.1,x1.2.2.2.1,x1.2.2.2.2.1))else bif(x1.2.2.2.2.1==(x1.2.2.2.1==([77]:List UInt8)))then some (zb ((x1.1.1,x1.1.2.1,(4:Int)),x1.2.1,x1.2.2.1,x1.2.2.2.1,x1.2.2.2.2.1))else bif(x1.2.2.2.1==([77]:List UInt8))then bif((x1.2.1.length:Int)==4)then bif((x1.2.1.length:Int)==4)then some (zb ((x1.1.1,x1.1.2.1,(5:Int)),x1.2.1,x1.2.2.1,x1.2.2.2.1,x1.2.2.2.2.1))else some (zb ((x1.1.1,x1.1.2.1,x1.1.2.2),x1.2.1,x1.2.2.1,x1.2.2.2.1,x1.2.2.2.2.1))else bif(x1.2.2.2.1==([90]:List UInt8))then bif decide ((x1.2.2.1.length:Int)<3)then bif decide ((x1.2.2.1.length:Int)<3)then some (zb ((x1.1.1,x1.1.2.1,(5:Int)),x1.2.1,x1.2.2.1,x1.2.2.2.1,x1.2.2.2.2.1))else some (zb ((x1.1.1,x1.1.2.1,x1.1.2.2),x1.2.1,x1.2.2.1,x1.2.2.2.1,x1.2.2.2.2.1))else bif(!(x1.2.2.2.1==([90]:List UInt8)))then bif((x1.2.2.1.length:Int)==12)then some (zb ((x1.1.1,x1.1.2.1,(5:Int)),x1.2.1,x1.2.2.1,x1.2.2.2.1,x1.2.2.2.2.1))else some (zb ((x1.1.1,x1.1.2.1,x1.1.2.2),x1.2.1,x1.2.2.1,x1.2.2.2.1,x1.2.2.2.2.1))else some (zb ((x1.1.1,x1.1.2.1,x1.1.2.2),x1.2.1,x1.2.2.1,x1.2.2.2.1,x1.2.2.2.2.1))else bif(!(x1.2.2.2.1==([90]:List UInt8)))then bif((x1.2.2.1.length:Int)==12)then some (zb ((x1.1.1,x1.1.2.1,(5:Int)),x1.2.1,x1.2.2.1,x1.2.2.2.1,x1.2.2.2.2.1))else some (zb ((x1.1.1,x1.1.2.1,x1.1.2.2),x1.2.1,x1.2.2.1,x1.2.2.2.1,x1.2.2.2.2.1))else some (zb ((x1.1.1,x1.1.2.1,x1.1.2.2),x1.2.1,x1.2.2.1,x1.2.2.2.1,x1.2.2.2.2.1))else bif(x1.2.2.2.1==([90]:List UInt8))then bif decide ((x1.2.2.1.length:Int)<3)then bif decide ((x1.2.2.1.length:Int)<3)then some (zb ((x1.1.1,x1.1.2.1,(5:Int)),x1.2.1,x1.2.2.1,x1.2.2.2.1,x1.2.2.2.2.1))else some (zb ((x1.1.1,x1.1.2.1,x1.1.2.2),x1.2.1,x1.2.2.1,x1.2.2.2.1,x1.2.2.2.2.1))else bif(!(x1.2.2.2.1==([90]:List UInt8)))then bif((x1.2.2.1.length:Int)==12)then some (zb ((x1.1.1,x1.1.2.1,(5:Int)),x1.2.1,x1.2.2.1,x1.2.2.2.1,x1.2.2.2.2.1))else some (zb ((x1.1.1,x1.1.2.1,x1.1.2.2),x1.2.1,x1.2.2.1,x1.2.2.2.1,x1.2.2.2.2.1))else some (zb ((x1.1.1,x1.1.2.1,x1.1.2.2),x1.2.1,x1.2.2.1,x1.2.2.2.1,x1.2.2.2.2.1))else bif(!(x1.2.2.2.1==([90]:List UInt8)))then bif((x1.2.2.1.length:Int)==12)then some (zb ((x1.1.1,x1.1.2.1,(5:Int)),x1.2.1,x1.2.2.1,x1.2.2.2.1,x1.2.2.2.2.1))else some (zb ((x1.1.1,x1.1.2.1,x1.1.2.2),x1.2.1,x1.2.2.1,x1.2.2.2.1,x1.2.2.2.2.1))else some (zb ((x1.1.1,x1.1.2.1,x1.1.2.2),x1.2.1,x1.2.2.1,x1.2.2.2.1,x1.2.2.2.2.1))).bind fun x2=>Sum.elim (fun x3=>some x3) (fun x4=>bif(x4.1.2.2 != (0:Int))then some ((x4.1.1,x4.1.2.1,x4.1.2.2),x4.2.1,x4.2.2.1)else(bif x4.2.2.2.2 then(AW (zi zj ((x4.2.2.1.length:Int)-1)) (List.length x4.2.2.1)).bind fun x5=>(AN x4.2.2.1 x5).bind fun x6=>some (zb ((x4.1.1,(zi zj (x4.1.2.1+1)),x4.1.2.2),(x6.1,x6.2),x4.2.1,x4.2.2.1,x4.2.2.2.1))else some (zb ((x4.1.1,(zi zj (x4.1.2.1+1)),x4.1.2.2),((0:Int),(0:Int)),x4.2.1,x4.2.2.1,x4.2.2.2.1))).bind fun x7=>Sum.elim (fun x8=>some x8) (fun x9=>bif(x9.2.2.2.2==([77]:List UInt8))then bif(x9.2.2.2.2==([77]:List UInt8))then(Aq (x9.1.1,x9.1.2.1,x9.1.2.2) x9.2.2.1 x9.2.2.2.1).bind fun x10=>(Aq (x10.1.1,x10.1.2.1,x10.1.2.2) x10.2.1 x10.2.2.1).bind fun x11=>(AF (x11.1.1,x11.1.2.1,x11.1.2.2) x11.2.1 x11.2.2.1 (x10.2.2.2,x11.2.2.2)).bind fun x12=>some ((x12.1.1,x12.1.2.1,x12.1.2.2),x12.2.1,x12.2.2)else bif(x9.2.2.2.2==([108]:List UInt8))then(Aq (x9.1.1,x9.1.2.1,x9.1.2.2) x9.2.2.1 x9.2.2.2.1).bind fun x13=>(Aq (x13.1.1,x13.1.2.1,x13.1.2.2) x13.2.1 x13.2.2.1).bind fun x14=>(AF (x14.1.1,x14.1.2.1,x14.1.2.2) x14.2.1 x14.2.2.1 ((zi zj (x9.2.1.1+x13.2.2.2)),(zi zj (x9.2.1.2+x14.2.2.2)))).bind fun x15=>some ((x15.1.1,x15.1.2.1,x15.1.2.2),x15.2.1,x15.2.2)else bif(x9.2.2.2.2==([72]:List UInt8))then(Aq (x9.1.1,x9.1.2.1,x9.1.2.2) x9.2.2.1 x9.2.2.2.1).bind fun x16=>(AF (x16.1.1,x16.1.2.1,x16.1.2.2) x16.2.1 x16.2.2.1 (x16.2.2.2,x9.2.1.2)).bind fun x17=>some ((x17.1.1,x17.1.2.1,x17.1.2.2),x17.2.1,x17.2.2)else bif(x9.2.2.2.2==([104]:List UInt8))then(Aq (x9.1.1,x9.1.2.1,x9.1.2.2) x9.2.2.1 x9.2.2.2.1).bind fun x18=>(AF (x18.1.1,x18.1.2.1,x18.1.2.2) x18.2.1 x18.2.2.1 ((zi zj (x9.2.1.1+x18.2.2.2)),x9.2.1.2)).bind fun x19=>some ((x19.1.1,x19.1.2.1,x19.1.2.2),x19.2.1,x19.2.2)else bif(x9.2.2.2.2==([86]:List UInt8))then(Aq (x9.1.1,x9.1.2.1,x9.1.2.2) x9.2.2.1 x9.2.2.2.1).bind fun x20=>(AF (x20.1.1,x20.1.2.1,x20.1.2.2) x20.2.1 x20.2.2.1 (x9.2.1.1,x20.2.2.2)).bind fun x21=>some ((x21.1.1,x21.1.2.1,x21.1.2.2),x21.2.1,x21.2.2)else bif(x9.2.2.2.2==([118]:List UInt8))then(Aq (x9.1.1,x9.1.2.1,x9.1.2.2) x9.2.2.1 x9.2.2.2.1).bind fun x22=>(AF (x22.1.1,x22.1.2.1,x22.1.2.2) x22.2.1 x22.2.2.1 (x9.2.1.1,(zi zj (x9.2.1.2+x22.2.2.2)))).bind fun x23=>some ((x23.1.1,x23.1.2.1,x23.1.2.2),x23.2.1,x23.2.2)else(BV 24 1 x9.2.2.1 ([x9.2.2.2.1]:List Tq2)).bind fun x24=>some ((x9.1.1,x9.1.2.1,x9.1.2.2),x24,([]:List (Int×Int)))else bif(x9.2.2.2.2==([76]:List UInt8))then(Aq (x9.1.1,x9.1.2.1,x9.1.2.2) x9.2.2.1 x9.2.2.2.1).bind fun x25=>(Aq (x25.1.1,x25.1.2.1,x25.1.2.2) x25.2.1 x25.2.2.1).bind fun x26=>(AF (x26.1.1,x26.1.2.1,x26.1.2.2) x26.2.1 x26.2.2.1 (x25.2.2.2,x26.2.2.2)).bind fun x27=>some ((x27.1.1,x27.1.2.1,x27.1.2.2),x27.2.1,x27.2.2)else bif(x9.2.2.2.2==([108]:List UInt8))then(Aq (x9.1.1,x9.1.2.1,x9.1.2.2) x9.2.2.1 x9.2.2.2.1).bind fun x28=>(Aq (x28.1.1,x28.1.2.1,x28.1.2.2) x28.2.1 x28.2.2.1).bind fun x29=>(AF (x29.1.1,x29.1.2.1,x29.1.2.2) x29.2.1 x29.2.2.1 ((zi zj (x9.2.1.1+x28.2.2.2)),(zi zj (x9.2.1.2+x29.2.2.2)))).bind fun x30=>some ((x30.1.1,x30.1.2.1,x30.1.2.2),x30.2.1,x30.2.2)else bif(x9.2.2.2.2==([72]:List UInt8))then(Aq (x9.1.1,x9.1.2.1,x9.1.2.2) x9.2.2.1 x9.2.2.2.1).bind fun x31=>(AF (x31.1.1,x31.1.2.1,x31.1.2.2) x31.2.1 x31.2.2.1 (x31.2.2.2,x9.2.1.2)).bind fun x32=>some ((x32.1.1,x32.1.2.1,x32.1.2.2),x32.2.1,x32.2.2)else bif(x9.2.2.2.2==([104]:List UInt8))then(Aq (x9.1.1,x9.1.2.1,x9.1.2.2) x9.2.2.1 x9.2.2.2.1).bind fun x33=>(AF (x33.1.1,x33.1.2.1,x33.1.2.2) x33.2.1 x33.2.2.1 ((zi zj (x9.2.1.1+x33.2.2.2)),x9.2.1.2)).bind fun x34=>some ((x34.1.1,x34.1.2.1,x34.1.2.2),x34.2.1,x34.2.2)else bif(x9.2.2.2.2==([86]:List UInt8))then(Aq (x9.1.1,x9.1.2.1,x9.1.2.2) x9.2.2.1 x9.2.2.2.1).bind fun x35=>(AF (x35.1.1,x35.1.2.1,x35.1.2.2) x35.2.1 x35.2.2.1 (x9.2.1.1,x35.2.2.2)).bind fun x36=>some ((x36.1.1,x36.1.2.1,x36.1.2.2),x36.2.1,x36.2.2)else bif(x9.2.2.2.2==([118]:List UInt8))then(Aq (x9.1.1,x9.1.2.1,x9.1.2.2) x9.2.2.1 x9.2.2.2.1).bind fun x37=>(AF (x37.1.1,x37.1.2.1,x37.1.2.2) x37.2.1 x37.2.2.1 (x9.2.1.1,(zi zj (x9.2.1.2+x37.2.2.2)))).bind fun x38=>some ((x38.1.1,x38.1.2.1,x38.1.2.2),x38.2.1,x38.2.2)else(BV 24 1 x9.2.2.1 ([x9.2.2.2.1]:List Tq2)).bind fun x39=>some ((x9.1.1,x9.1.2.1,x9.1.2.2),x39,([]:List (Int×Int)))) x7) x2
def Vc:OKE:=fq M9 (fun x=>Av x.1 x.2.1 x.2.2) [Yd,Y1] Tryz.func96
def DM (s0:Tq19) (s1:List Tq2) (s2:Tq2):Option (Tq19×List Tq2×Tq2⊕Tq19×List Tq2×Tq2):=bif decide (s0.2.1<(s0.1.length:Int))then bif(s0.2.2==0)then(Av (s0.1,s0.2.1,s0.2.2) s1 s2).bind fun x0=>some (zy ((x0.1.1,x0.1.2.1,x0.1.2.2),x0.2.1,x0.2.2))else some (zb ((s0.1,s0.2.1,s0.2.2),s1,s2))else some (zb ((s0.1,s0.2.1,s0.2.2),s1,s2))
def Jj (a0:List UInt8):Option (List Tq2×Int×Int×Bool):=bif((a0.length:Int)==0)then some (([]:List Tq2),(1:Int),(0:Int),false)else bif decide ((a0.length:Int)>400)then some (([]:List Tq2),(1:Int),(0:Int),false)else(Kt a0).bind fun x0=>(Ad (fun(s:Tq19×List Tq2×Tq2)=>DM s.1 s.2.1 s.2.2) ((x0,(0:Int),(0:Int)),([]:List Tq2),([]:List (Int×Int)))).bind fun x1=>(bif(x1.1.2.2==0)then bif decide ((x1.2.2.length:Int)>0)then some (zb ((x1.1.1,x1.1.2.1,(7:Int)),x1.2.1,x1.2.2))else some (zb ((x1.1.1,x1.1.2.1,x1.1.2.2),x1.2.1,x1.2.2))else some (zb ((x1.1.1,x1.1.2.1,x1.1.2.2),x1.2.1,x1.2.2))).bind fun x2=>Sum.elim (fun x3=>some x3) (fun x4=>bif(x4.1.2.2 != (0:Int))then some (([]:List Tq2),x4.1.2.2,x4.1.2.1,false)else some (x4.2.1,(0:Int),(0:Int),true)) x2
def b9:OKE:=fq RJ (fun x=>Jj x) [gg,Vc] Tryz.func25
def EA (a0:Tq6):Option Bool:=(BT a0.1 (-(20:Int)) 20).bind fun x0=>bif x0 then(BT a0.2.1 (-(20:Int)) 20).bind fun x1=>bif x1 then(BT a0.2.2.1 1 8).bind fun x2=>bif x2 then(BT a0.2.2.2 1 8).bind fun x3=>some x3 else some false else some false else some false
def Pw:OKE:=fq PM (fun x=>EA x) [Ld] Tryz.func117
def Ma (s0:List Int):Option (List Int⊕List Int):=bif decide ((s0.length:Int)>0)then(AA s0 (zi zj ((s0.length:Int)-1))).bind fun x0=>bif(x0==0)then(Fx (0:Int) (zi zj ((s0.length:Int)-1)) (List.length s0)).bind fun x1=>some (zy (List.drop x1.1 (List.take x1.2 s0)))else some (zb s0)else some (zb s0)
def C3 (a0:List Int):Option (List Int):=(Ad (fun(s:List Int)=>Ma s) a0).bind fun x0=>bif(ft (List.length x0) 8 1)then some x0 else none
def I0:OKE:=fq dr (fun x=>C3 x) [] Tryz.func188
def BC (a0:Bool) (a1:List Int):Option (List Int×Bool):=(C3 a1).bind fun x0=>bif a0 then some (x0,decide ((x0.length:Int)>0))else some (x0,false)
def F4:OKE:=fq Zw (fun x=>BC x.1 x.2) [I0] Tryz.func133
def L8 (s0:Tq5) (s1:List Int) (s2 s3:Int):Option (Tq5×List Int×Int×Int⊕Tq5×List Int×Int):=bif(s3 != (0:Int))then bif decide ((Int.tmod s3 65536)<0)then(BV 8 1 s1 ([(zi zj ((0:Int)-(Int.tmod s3 65536)))]:List Int)).bind fun x0=>some (zy ((s0.1,s0.2),x0,s2,(zi zj (Int.tdiv s3 65536))))else(BV 8 1 s1 ([(Int.tmod s3 65536)]:List Int)).bind fun x1=>some (zy ((s0.1,s0.2),x1,s2,(zi zj (Int.tdiv s3 65536))))else some (zb ((s0.1,s0.2),s1,s2))
def Fk (a0:Int):Option Tq12:=(Ad (fun(s:Tq5×List Int×Int×Int)=>L8 s.1 s.2.1 s.2.2.1 s.2.2.2) ((false,([]:List Int)),([]:List Int),a0,a0)).bind fun x0=>(BC (decide (x0.2.2<0)) x0.2.1).bind fun x1=>some (x1.2,x1.1)
def QL:OKE:=fq di (fun x=>Fk x) [F4] Tryz.func72
def C4 (a0:Int):Option Tq7:=(Fk a0).bind fun x0=>(Fk 1).bind fun x1=>some (x0.1,x0.2,x1.1,x1.2)
def QO:OKE:=fq dE (fun x=>C4 x) [QL] Tryz.func118
def KL (a0:Int×Int):Option Tq11:=(C4 a0.1).bind fun x0=>(C4 a0.2).bind fun x1=>some (x0.1,x0.2.1,x0.2.2.1,x0.2.2.2,x1.1,x1.2.1,x1.2.2.1,x1.2.2.2)
def cN:OKE:=fq dk (fun x=>KL x) [QO] Tryz.func176
def DS (s0:List Tq0) (s1:Tq2) (s2 s3:Int):Option (List Tq0×Tq2×Int×Int⊕List Tq0):=bif decide (s3<s2)then(AA s1 s3).bind fun x0=>(KL (x0.1,x0.2)).bind fun x1=>(BV 128 8 s0 ([(((x1.1,x1.2.1),x1.2.2.1,x1.2.2.2.1),(x1.2.2.2.2.1,x1.2.2.2.2.2.1),x1.2.2.2.2.2.2.1,x1.2.2.2.2.2.2.2)]:List Tq0)).bind fun x2=>some (zy (x2,s1,s2,(zi zj (s3+1))))else some (zb s0)
def NI (a0:Tq2):Option (List Tq9×Bool):=(MZ a0).bind fun x0=>bif(!x0)then some (([]:List Tq0),false)else(Ad (fun(s:List Tq0×Tq2×Int×Int)=>DS s.1 s.2.1 s.2.2.1 s.2.2.2) (([]:List Tq0),a0,(a0.length:Int),(0:Int))).bind fun x1=>some (x1,true)
def mL:OKE:=fq Zk (fun x=>NI x) [cS,cN] Tryz.func119
def GL (s0:Tq5) (s1:List Int) (s2 s3:Int):Option (Tq5×List Int×Int×Int⊕(Bool×List Int⊕Bool)):=bif decide (s3<s2)then(AA s1 s3).bind fun x0=>(BT x0 0 65535).bind fun x1=>bif(!x1)then some (zb (zb false))else some (zy ((s0.1,s0.2),s1,s2,(zi zj (s3+1))))else some (zb (zy (s0.1,s0.2)))
def Hy (a0:Tq5):Option Bool:=(Ad (fun(s:Tq5×List Int×Int×Int)=>GL s.1 s.2.1 s.2.2.1 s.2.2.2) ((a0.1,a0.2),a0.2,(a0.2.length:Int),(0:Int))).bind fun x0=>Sum.elim (fun x1=>bif((x1.2.length:Int)==0)then some (!x1.1)else bif decide ((x1.2.length:Int)<=40)then(AA x1.2 (zi zj ((x1.2.length:Int)-1))).bind fun x2=>some (x2 != (0:Int))else some false) (fun x3=>some x3) x0
def WA:OKE:=fq W5 (fun x=>Hy x) [Ld] Tryz.func216
def DU (s0 s1:List Int) (s2:Int):Option (List Int×List Int×Int⊕(Unit⊕Int)):=bif decide (s2>=0)then(AA s0 s2).bind fun x0=>(AA s1 s2).bind fun x1=>bif decide (x0<x1)then some (zb (zb (-(1:Int))))else(AA s0 s2).bind fun x2=>(AA s1 s2).bind fun x3=>bif decide (x2>x3)then some (zb (zb (1:Int)))else some (zy (s0,s1,(zi zj (s2-1))))else some (zb (zy ()))
def CK (a0 a1:List Int):Option Int:=bif((a0.length:Int) != (a1.length:Int))then bif decide ((a0.length:Int)<(a1.length:Int))then some (-(1:Int))else some (1:Int)else(Ad (fun(s:List Int×List Int×Int)=>DU s.1 s.2.1 s.2.2) (a0,a1,(zi zj ((a0.length:Int)-1)))).bind fun x0=>Sum.elim (fun x1=>some (0:Int)) (fun x2=>some x2) x0
def M1:OKE:=fq dq (fun x=>CK x.1 x.2) [] Tryz.func217
def GN (s0 s1:List Int) (s2 s3 s4:Int):Option (List Int×List Int×Int×Int×Int⊕List Int×Int):=bif decide (s4>=0)then(AA s1 s4).bind fun x0=>bif(s2==0)then none else(AW s4 (List.length s0)).bind fun x1=>(AN s0 x1).bind fun x2=>bif(s2==0)then none else some (zy ((List.set s0 x1 (zi zj (Int.tdiv (zi zj ((zi zj (s3*65536))+x0)) s2))),s1,s2,(Int.tmod (zi zj ((zi zj (s3*65536))+x0)) s2),(zi zj (s4-1))))else some (zb (s0,s3))
def Ms (a0:List Int) (a1:Int):Option (List Int×List Int):=(Ru (a0.length:Int) 8 1).bind fun x0=>(Ad (fun(s:Tq16)=>GN s.1 s.2.1 s.2.2.1 s.2.2.2.1 s.2.2.2.2) ((List.replicate x0 (0:Int)),a0,a1,(0:Int),(zi zj ((a0.length:Int)-1)))).bind fun x1=>(C3 x1.1).bind fun x2=>(C3 ([x1.2]:List Int)).bind fun x3=>some (x2,x3)
def jt:OKE:=fq Xj (fun x=>Ms x.1 x.2) [I0] Tryz.func239
def NE (s0:List Int) (s1:Int) (s2:List Int) (s3 s4:Int):Option (List Int×Int×List Int×Int×Int⊕List Int):=bif decide (s4<s3)then(AA s2 s4).bind fun x0=>bif decide ((zi zk s1)<0)then none else(AW s4 (List.length s0)).bind fun x1=>(AN s0 x1).bind fun x2=>(AW s4 (List.length s0)).bind fun x3=>(AN s0 x3).bind fun x4=>(AW (zi zj (s4+1)) (List.length (List.set s0 x3 (orI Go.IntKind.i64 x2 (Int.tmod (Wd Go.IntKind.i64 x0 (zi zk s1)) 65536))))).bind fun x5=>(AN (List.set s0 x3 (orI Go.IntKind.i64 x2 (Int.tmod (Wd Go.IntKind.i64 x0 (zi zk s1)) 65536))) x5).bind fun x6=>some (zy ((List.set (List.set s0 x3 (orI Go.IntKind.i64 x2 (Int.tmod (Wd Go.IntKind.i64 x0 (zi zk s1)) 65536))) x5 (zi zj (Int.tdiv (Wd Go.IntKind.i64 x0 (zi zk s1)) 65536))),s1,s2,s3,(zi zj (s4+1))))else some (zb s0)
def Pm (a0:List Int) (a1:Int):Option (List Int):=(Ru (zi zj ((a0.length:Int)+1)) 8 1).bind fun x0=>(Ad (fun(s:List Int×Int×List Int×Int×Int)=>NE s.1 s.2.1 s.2.2.1 s.2.2.2.1 s.2.2.2.2) ((List.replicate x0 (0:Int)),a1,a0,(a0.length:Int),(0:Int))).bind fun x1=>some x1
def uy:OKE:=fq jC (fun x=>Pm x.1 x.2) [] Tryz.func240
def Fj (s0 s1:List Int) (s2 s3:Int) (s4 s5:Int):Option (List Int×List Int×Int×Int×Int×Int⊕Int):=(bif decide (s5<65536)then bif decide (s4>=65536)then some (zb (s0,s1,s2,s3,s4,s5))else(AA s1 (zi zj (s3-2))).bind fun x0=>(AA s0 (zi zj ((zi zj (s2+s3))-2))).bind fun x1=>bif decide ((zi zj (s4*x0))>(zi zj ((zi zj (s5*65536))+x1)))then some (zb (s0,s1,s2,s3,s4,s5))else some (zy (zb s4))else some (zy (zb s4))).bind fun x2=>Sum.elim (fun x3=>some x3) (fun x4=>(AA x4.2.1 (zi zj (x4.2.2.2.1-1))).bind fun x5=>some (zy (x4.1,x4.2.1,x4.2.2.1,x4.2.2.2.1,(zi zj (x4.2.2.2.2.1-1)),(zi zj (x4.2.2.2.2.2+x5))))) x2
def Mr (a0 a1:List Int) (a2:Int):Option Int:=(AA a0 (zi zj (a2+(a1.length:Int)))).bind fun x0=>(AA a0 (zi zj ((zi zj (a2+(a1.length:Int)))-1))).bind fun x1=>(AA a1 (zi zj ((a1.length:Int)-1))).bind fun x2=>bif(x2==0)then none else(AA a1 (zi zj ((a1.length:Int)-1))).bind fun x3=>bif(x3==0)then none else(Ad (fun(s:List Int×List Int×Int×Int×Int×Int)=>Fj s.1 s.2.1 s.2.2.1 s.2.2.2.1 s.2.2.2.2.1 s.2.2.2.2.2) (a0,a1,a2,(a1.length:Int),(zi zj (Int.tdiv (zi zj ((zi zj (x0*65536))+x1)) x2)),(Int.tmod (zi zj ((zi zj (x0*65536))+x1)) x3))).bind fun x4=>some x4
def jr:OKE:=fq Xi (fun x=>Mr x.1 x.2.1 x.2.2) [] Tryz.func241
def Ef (a0:List Int) (a1:Int):Option Int:=bif decide (a1<(a0.length:Int))then(AA a0 a1).bind fun x0=>some x0 else some (0:Int)
def I1:OKE:=fq Zv (fun x=>Ef x.1 x.2) [] Tryz.func276
def Kj (s0 s1:List Int) (s2 s3:Int) (s4 s5:Int):Option (List Int×List Int×Int×Int×Int×Int⊕List Int×Int):=bif decide (s5<=(s1.length:Int))then(AW (zi zj (s2+s5)) (List.length s0)).bind fun x0=>(AN s0 x0).bind fun x1=>(Ef s1 s5).bind fun x2=>(bif decide ((zi zj ((zi zj (x1-(zi zj (s3*x2))))-s4))<0)then some (zb (s0,s1,s2,s3,(zi zj (Int.tdiv (zi zj ((zi zj ((zi zj ((0:Int)-(zi zj ((zi zj (x1-(zi zj (s3*x2))))-s4))))+65536))-1)) 65536)),s5,(zi zj ((zi zj ((zi zj (x1-(zi zj (s3*x2))))-s4))+(zi zj ((zi zj (Int.tdiv (zi zj ((zi zj ((zi zj ((0:Int)-(zi zj ((zi zj (x1-(zi zj (s3*x2))))-s4))))+65536))-1)) 65536))*65536))))))else some (zb (s0,s1,s2,s3,(0:Int),s5,(zi zj ((zi zj (x1-(zi zj (s3*x2))))-s4))))).bind fun x3=>Sum.elim (fun x4=>some x4) (fun x5=>(AW (zi zj (x5.2.2.1+x5.2.2.2.2.2.1)) (List.length x5.1)).bind fun x6=>(AN x5.1 x6).bind fun x7=>some (zy ((List.set x5.1 x6 x5.2.2.2.2.2.2),x5.2.1,x5.2.2.1,x5.2.2.2.1,x5.2.2.2.2.1,(zi zj (x5.2.2.2.2.2.1+1))))) x3 else some (zb (s0,s4))
def NR (a0 a1:List Int) (a2 a3:Int):Option (List Int×Int):=(Ad (fun(s:List Int×List Int×Int×Int×Int×Int)=>Kj s.1 s.2.1 s.2.2.1 s.2.2.2.1 s.2.2.2.2.1 s.2.2.2.2.2) (a0,a1,a2,a3,(0:Int),(0:Int))).bind fun x0=>some (x0.1,x0.2)
def mU:OKE:=fq Zu (fun x=>NR x.1 x.2.1 x.2.2.1 x.2.2.2) [I1] Tryz.func242
def Kh (s0 s1:List Int) (s2 s3 s4:Int):Option Tq21:=bif decide (s4<=(s1.length:Int))then(AW (zi zj (s2+s4)) (List.length s0)).bind fun x0=>(AN s0 x0).bind fun x1=>(Ef s1 s4).bind fun x2=>(AW (zi zj (s2+s4)) (List.length s0)).bind fun x3=>(AN s0 x3).bind fun x4=>some (zy ((List.set s0 x3 (Int.tmod (zi zj ((zi zj (x1+x2))+s3)) 65536)),s1,s2,(zi zj (Int.tdiv (zi zj ((zi zj (x1+x2))+s3)) 65536)),(zi zj (s4+1))))else some (zb s0)
def NP (a0 a1:List Int) (a2:Int):Option (List Int):=(Ad (fun(s:Tq16)=>Kh s.1 s.2.1 s.2.2.1 s.2.2.2.1 s.2.2.2.2) (a0,a1,a2,(0:Int),(0:Int))).bind fun x0=>some x0
def mS:OKE:=fq Zs (fun x=>NP x.1 x.2.1 x.2.2) [I1] Tryz.func243
def Ki (s0 s1:List Int) (s2 s3 s4:Int):Option Tq21:=bif decide (s4<s3)then(AA s1 s4).bind fun x0=>(Ef s1 (zi zj (s4+1))).bind fun x1=>bif decide ((zi zk s2)<0)then none else(AW s4 (List.length s0)).bind fun x2=>(AN s0 x2).bind fun x3=>some (zy ((List.set s0 x2 (Int.tmod (oM Go.IntKind.i64 (orI Go.IntKind.i64 x0 (Wd Go.IntKind.i64 x1 (16:Int))) (zi zk s2)) 65536)),s1,s2,s3,(zi zj (s4+1))))else some (zb s0)
def NQ (a0:List Int) (a1:Int):Option (List Int):=(Ru (a0.length:Int) 8 1).bind fun x0=>(Ad (fun(s:Tq16)=>Ki s.1 s.2.1 s.2.2.1 s.2.2.2.1 s.2.2.2.2) ((List.replicate x0 (0:Int)),a0,a1,(a0.length:Int),(0:Int))).bind fun x1=>(C3 x1).bind fun x2=>some x2
def mT:OKE:=fq Zt (fun x=>NQ x.1 x.2) [I1,I0] Tryz.func244
def Eu (s0 s1:List Int) (s2:Int):Option (List Int×List Int×Int⊕List Int×List Int×Int):=(AA s1 (zi zj ((s1.length:Int)-1))).bind fun x0=>bif decide ((zi zk s2)<0)then none else bif decide ((Wd Go.IntKind.i64 x0 (zi zk s2))<32768)then some (zy (s0,s1,(zi zj (s2+1))))else some (zb (s0,s1,s2))
def CJ (s0 s1 s2:List Int) (s3 s4:Int):Option (List Int×List Int×List Int×Int×Int⊕List Int×List Int×Int):=bif decide (s4>=0)then(Mr s0 s1 s4).bind fun x0=>(NR s0 s1 s4 x0).bind fun x1=>bif decide ((List.length x1.1)=(List.length s0))then bif decide (x1.2>0)then(NP x1.1 s1 s4).bind fun x2=>bif decide ((List.length x2)=(List.length x1.1))then(AW s4 (List.length s2)).bind fun x3=>(AN s2 x3).bind fun x4=>some (zy (x2,s1,(List.set s2 x3 (zi zj (x0-1))),s3,(zi zj (s4-1))))else none else(AW s4 (List.length s2)).bind fun x5=>(AN s2 x5).bind fun x6=>some (zy (x1.1,s1,(List.set s2 x5 x0),s3,(zi zj (s4-1))))else none else some (zb (s0,s2,s3))
def F0 (a0 a1:List Int):Option (List Int×List Int):=(C3 a0).bind fun x0=>(CK x0 a1).bind fun x1=>bif decide (x1<0)then some (([]:List Int),x0)else bif((a1.length:Int)==1)then(AA a1 0).bind fun x2=>(Ms x0 x2).bind fun x3=>some (x3.1,x3.2)else(Ad (fun(s:List Int×List Int×Int)=>Eu s.1 s.2.1 s.2.2) (x0,a1,(0:Int))).bind fun x4=>(Pm x4.1 x4.2.2).bind fun x5=>(Pm x4.2.1 x4.2.2).bind fun x6=>(C3 x6).bind fun x7=>(Ru (zi zj ((zi zj ((x4.1.length:Int)-(x4.2.1.length:Int)))+1)) 8 1).bind fun x8=>(Ad (fun(s:Tq14)=>CJ s.1 s.2.1 s.2.2.1 s.2.2.2.1 s.2.2.2.2) (x5,x7,(List.replicate x8 (0:Int)),x4.2.2,(zi zj ((x4.1.length:Int)-(x4.2.1.length:Int))))).bind fun x9=>(C3 x9.2.1).bind fun x10=>(C3 x9.1).bind fun x11=>(NQ x11 x9.2.2).bind fun x12=>some (x10,x12)
def Py:OKE:=fq PX (fun x=>F0 x.1 x.2) [I0,M1,jt,uy,jr,mU,mS,mT] Tryz.func189
def Mb (s0 s1:List Int):Option (List Int×List Int⊕List Int):=bif decide ((s1.length:Int)>0)then(F0 s0 s1).bind fun x0=>some (zy (s1,x0.2))else some (zb s0)
def MX (a0 a1:List Int):Option (List Int):=(Ad (fun(s:List Int×List Int)=>Mb s.1 s.2) (a0,a1)).bind fun x0=>(C3 x0).bind fun x1=>some x1
def cQ:OKE:=fq dw (fun x=>MX x.1 x.2) [Py,I0] Tryz.func134
def JB (a0:Tq3):Option Bool:=(Hy (a0.1,a0.2.1)).bind fun x0=>bif(!x0)then some false else(Hy (a0.2.2.1,a0.2.2.2)).bind fun x1=>bif(!x1)then some false else bif a0.2.2.1 then some false else bif((a0.2.2.2.length:Int)==0)then some false else(MX a0.2.1 a0.2.2.2).bind fun x2=>(CK x2 ([1]:List Int)).bind fun x3=>some (x3==0)
def WB:OKE:=fq W6 (fun x=>JB x) [WA,cQ,M1] Tryz.func311
def JE (a0:Tq3):Option Bool:=bif decide ((a0.2.1.length:Int)<=8)then bif decide ((a0.2.2.2.length:Int)<=8)then(JB (a0.1,a0.2.1,a0.2.2.1,a0.2.2.2)).bind fun x0=>some x0 else some false else some false
def jl:OKE:=fq Xc (fun x=>JE x) [WB] Tryz.func297
def CX (s0 s1:List Tq0) (s2 s3:Int):Option (List Tq0×List Tq0×Int×Int⊕(List Tq0⊕Bool)):=bif decide (s3<s2)then(AA s1 s3).bind fun x0=>(JE (x0.1.1.1,x0.1.1.2,x0.1.2.1,x0.1.2.2)).bind fun x1=>bif(!x1)then some (zb (zb false))else(JE (x0.2.1.1,x0.2.1.2,x0.2.2.1,x0.2.2.2)).bind fun x2=>bif(!x2)then some (zb (zb false))else some (zy (s0,s1,s2,(zi zj (s3+1))))else some (zb (zy s0))
def H5 (a0:List Tq0):Option Bool:=(Ad (fun(s:List Tq0×List Tq0×Int×Int)=>CX s.1 s.2.1 s.2.2.1 s.2.2.2) (a0,a0,(a0.length:Int),(0:Int))).bind fun x0=>Sum.elim (fun x1=>some (decide ((x1.length:Int)<=40))) (fun x2=>some x2) x0
def Tj:OKE:=fq TN (fun x=>H5 x) [jl] Tryz.func270
def H7 (a0:Tq3):Option Bool:=bif decide ((a0.2.1.length:Int)<=2)then bif decide ((a0.2.2.2.length:Int)<=2)then(JB (a0.1,a0.2.1,a0.2.2.1,a0.2.2.2)).bind fun x0=>some x0 else some false else some false
def gd:OKE:=fq TQ (fun x=>H7 x) [WB] Tryz.func298
def MV (a0:Tq4):Option Bool:=(H7 (a0.1,a0.2.1,a0.2.2.1,a0.2.2.2.1)).bind fun x0=>bif x0 then(H7 (a0.2.2.2.2.1,a0.2.2.2.2.2.1,a0.2.2.2.2.2.2.1,a0.2.2.2.2.2.2.2)).bind fun x1=>some x1 else some false
def ru:OKE:=fq dm (fun x=>MV x) [gd] Tryz.func271
def Ey (s0 s1:List Int) (s2 s3:Int) (s4 s5:Int) (s6:List Int) (s7 s8:Int):Option (List Int×List Int×Int×Int×Int×Int×List Int×Int×Int⊕List Int×List Int×List Int×Int×Int):=(bif decide (s5<(s1.length:Int))then some (zb (s0,s1,s2,s3,s4,s5,s6,s7,s8))else bif decide (s4>0)then some (zb (s0,s1,s2,s3,s4,s5,s6,s7,s8))else some (zy (zb (s0,s1,s6,s7,s8)))).bind fun x0=>Sum.elim (fun x1=>some x1) (fun x2=>(AW (zi zj (x2.2.2.1+x2.2.2.2.2.2.1)) (List.length x2.1)).bind fun x3=>(AN x2.1 x3).bind fun x4=>(Ef x2.2.1 x2.2.2.2.2.2.1).bind fun x5=>(AW (zi zj (x2.2.2.1+x2.2.2.2.2.2.1)) (List.length x2.1)).bind fun x6=>(AN x2.1 x6).bind fun x7=>some (zy ((List.set x2.1 x6 (Int.tmod (zi zj ((zi zj (x4+(zi zj (x2.2.2.2.1*x5))))+x2.2.2.2.2.1)) 65536)),x2.2.1,x2.2.2.1,x2.2.2.2.1,(zi zj (Int.tdiv (zi zj ((zi zj (x4+(zi zj (x2.2.2.2.1*x5))))+x2.2.2.2.2.1)) 65536)),(zi zj (x2.2.2.2.2.2.1+1)),x2.2.2.2.2.2.2.1,x2.2.2.2.2.2.2.2.1,x2.2.2.2.2.2.2.2.2))) x0
def Gj (s0 s1 s2:List Int) (s3 s4:Int):Option Tq20:=bif decide (s4<s3)then(AA s2 s4).bind fun x0=>(Ad (fun(s:List Int×List Int×Int×Int×Int×Int×List Int×Int×Int)=>Ey s.1 s.2.1 s.2.2.1 s.2.2.2.1 s.2.2.2.2.1 s.2.2.2.2.2.1 s.2.2.2.2.2.2.1 s.2.2.2.2.2.2.2.1 s.2.2.2.2.2.2.2.2) (s0,s1,s4,x0,(0:Int),(0:Int),s2,s3,s4)).bind fun x1=>some (zy (x1.1,x1.2.1,x1.2.2.1,x1.2.2.2.1,(zi zj (x1.2.2.2.2+1))))else some (zb s0)
def Id (a0 a1:List Int):Option (List Int):=(Ru (zi zj ((zi zj ((a0.length:Int)+(a1.length:Int)))+1)) 8 1).bind fun x0=>(Ad (fun(s:Tq14)=>Gj s.1 s.2.1 s.2.2.1 s.2.2.2.1 s.2.2.2.2) ((List.replicate x0 (0:Int)),a1,a0,(a0.length:Int),(0:Int))).bind fun x1=>(C3 x1).bind fun x2=>some x2
def Y6:OKE:=fq PY (fun x=>Id x.1 x.2) [I1,I0] Tryz.func232
def DO (a0 a1:Tq5):Option Tq12:=(Id a0.2 a1.2).bind fun x0=>(BC (!(a0.1==a1.1)) x0).bind fun x1=>some (x1.2,x1.1)
def QN:OKE:=fq dy (fun x=>DO x.1 x.2) [Y6,F4] Tryz.func179
def Ku (a0 a1:Tq5):Option Int:=bif a0.1 then bif(!a1.1)then some (-(1:Int))else bif(!a0.1)then bif a1.1 then some (1:Int)else bif a0.1 then(CK a1.2 a0.2).bind fun x0=>some x0 else(CK a0.2 a1.2).bind fun x1=>some x1 else bif a0.1 then(CK a1.2 a0.2).bind fun x2=>some x2 else(CK a0.2 a1.2).bind fun x3=>some x3 else bif(!a0.1)then bif a1.1 then some (1:Int)else bif a0.1 then(CK a1.2 a0.2).bind fun x4=>some x4 else(CK a0.2 a1.2).bind fun x5=>some x5 else bif a0.1 then(CK a1.2 a0.2).bind fun x6=>some x6 else(CK a0.2 a1.2).bind fun x7=>some x7
def gi:OKE:=fq TV (fun x=>Ku x.1 x.2) [M1] Tryz.func215
def IV (a0 a1:Tq3):Option Int:=(DO (a0.1,a0.2.1) (a1.2.2.1,a1.2.2.2)).bind fun x0=>(DO (a1.1,a1.2.1) (a0.2.2.1,a0.2.2.2)).bind fun x1=>(Ku (x0.1,x0.2) (x1.1,x1.2)).bind fun x2=>some x2
def Vh:OKE:=fq dC (fun x=>IV x.1 x.2) [QN,gi] Tryz.func168
def H8 (a0:Tq4) (a1:Bool):Option Tq7:=bif a1 then some (a0.2.2.2.2.1,a0.2.2.2.2.2.1,a0.2.2.2.2.2.2.1,a0.2.2.2.2.2.2.2)else some (a0.1,a0.2.1,a0.2.2.1,a0.2.2.2.1)
def Tk:OKE:=fq TR (fun x=>H8 x.1 x.2) [] Tryz.func316
def JF (a0:Tq4) (a1:Bool) (a2:Tq3) (a3:Bool):Option Int:=(H8 (a0.1,a0.2.1,a0.2.2.1,a0.2.2.2.1,a0.2.2.2.2.1,a0.2.2.2.2.2.1,a0.2.2.2.2.2.2.1,a0.2.2.2.2.2.2.2) a1).bind fun x0=>(IV (x0.1,x0.2.1,x0.2.2.1,x0.2.2.2) (a2.1,a2.2.1,a2.2.2.1,a2.2.2.2)).bind fun x1=>bif a3 then some (zi zj ((0:Int)-x1))else some x1
def jn:OKE:=fq Xe (fun x=>JF x.1 x.2.1 x.2.2.1 x.2.2.2) [Tk,Vh] Tryz.func313
def IU (a0:Tq5):Option Tq12:=(BC (!a0.1) a0.2).bind fun x0=>some (x0.2,x0.1)
def Vf:OKE:=fq dz (fun x=>IU x) [F4] Tryz.func136
def QH (a0:Tq3):Option Tq7:=(IU (a0.1,a0.2.1)).bind fun x0=>some (x0.1,x0.2,a0.2.2.1,a0.2.2.2)
def rx:OKE:=fq dG (fun x=>QH x) [Vf] Tryz.func301
def Et (s0 s1 s2:List Int) (s3 s4:Int):Option Tq20:=(bif decide (s4<(s1.length:Int))then some (zb (s0,s1,s2,s3,s4))else bif decide (s4<(s2.length:Int))then some (zb (s0,s1,s2,s3,s4))else bif decide (s3>0)then some (zb (s0,s1,s2,s3,s4))else some (zy (zb s0))).bind fun x0=>Sum.elim (fun x1=>some x1) (fun x2=>(Ef x2.2.1 x2.2.2.2.2).bind fun x3=>(Ef x2.2.2.1 x2.2.2.2.2).bind fun x4=>(BV 8 1 x2.1 ([(Int.tmod (zi zj ((zi zj (x3+x4))+x2.2.2.2.1)) 65536)]:List Int)).bind fun x5=>some (zy (x5,x2.2.1,x2.2.2.1,(zi zj (Int.tdiv (zi zj ((zi zj (x3+x4))+x2.2.2.2.1)) 65536)),(zi zj (x2.2.2.2.2+1))))) x0
def Ia (a0 a1:List Int):Option (List Int):=(Ad (fun(s:Tq14)=>Et s.1 s.2.1 s.2.2.1 s.2.2.2.1 s.2.2.2.2) (([]:List Int),a0,a1,(0:Int),(0:Int))).bind fun x0=>some x0
def Y2:OKE:=fq PR (fun x=>Ia x.1 x.2) [I1] Tryz.func230
def Gk (s0 s1 s2:List Int) (s3 s4 s5:Int):Option (List Int×List Int×List Int×Int×Int×Int⊕List Int):=bif decide (s5<s4)then(AA s1 s5).bind fun x0=>(Ef s2 s5).bind fun x1=>bif decide ((zi zj ((zi zj (x0-x1))-s3))<0)then(BV 8 1 s0 ([(zi zj ((zi zj ((zi zj (x0-x1))-s3))+65536))]:List Int)).bind fun x2=>some (zy (x2,s1,s2,(1:Int),s4,(zi zj (s5+1))))else(BV 8 1 s0 ([(zi zj ((zi zj (x0-x1))-s3))]:List Int)).bind fun x3=>some (zy (x3,s1,s2,(0:Int),s4,(zi zj (s5+1))))else some (zb s0)
def F1 (a0 a1:List Int):Option (List Int):=(Ad (fun(s:List Int×List Int×List Int×Int×Int×Int)=>Gk s.1 s.2.1 s.2.2.1 s.2.2.2.1 s.2.2.2.2.1 s.2.2.2.2.2) (([]:List Int),a0,a1,(0:Int),(a0.length:Int),(0:Int))).bind fun x0=>(C3 x0).bind fun x1=>some x1
def Y7:OKE:=fq PZ (fun x=>F1 x.1 x.2) [I1,I0] Tryz.func231
def MW (a0 a1:Tq5):Option Tq12:=bif(a0.1==a1.1)then(Ia a0.2 a1.2).bind fun x0=>(BC a0.1 x0).bind fun x1=>some (x1.2,x1.1)else(CK a0.2 a1.2).bind fun x2=>bif decide (x2>=0)then(F1 a0.2 a1.2).bind fun x3=>(BC a0.1 x3).bind fun x4=>some (x4.2,x4.1)else(F1 a1.2 a0.2).bind fun x5=>(BC a1.1 x5).bind fun x6=>some (x6.2,x6.1)
def cO:OKE:=fq dp (fun x=>MW x.1 x.2) [Y2,F4,M1,Y7] Tryz.func178
def KM (a0 a1:Tq5):Option Tq22:=(F0 a0.2 a1.2).bind fun x0=>(BC (!(a0.1==a1.1)) x0.1).bind fun x1=>(BC a0.1 x0.2).bind fun x2=>some ((x1.2,x1.1),x2.2,x2.1)
def cP:OKE:=fq dt (fun x=>KM x.1 x.2) [Py,F4] Tryz.func135
def Hf (a0 a1:Tq5):Option Tq7:=(MX a0.2 a1.2).bind fun x0=>(BC false x0).bind fun x1=>(KM (a0.1,a0.2) (x1.2,x1.1)).bind fun x2=>(KM (a1.1,a1.2) (x1.2,x1.1)).bind fun x3=>bif x3.1.1 then(IU (x2.1.1,x2.1.2)).bind fun x4=>(IU (x3.1.1,x3.1.2)).bind fun x5=>some (x4.1,x4.2,x5.1,x5.2)else some (x2.1.1,x2.1.2,x3.1.1,x3.1.2)
def NY:OKE:=fq Zy (fun x=>Hf x.1 x.2) [cQ,F4,cP,Vf] Tryz.func71
def Hz (a0 a1:Tq3):Option Tq7:=(DO (a0.1,a0.2.1) (a1.2.2.1,a1.2.2.2)).bind fun x0=>(DO (a1.1,a1.2.1) (a0.2.2.1,a0.2.2.2)).bind fun x1=>(MW (x0.1,x0.2) (x1.1,x1.2)).bind fun x2=>(DO (a0.2.2.1,a0.2.2.2) (a1.2.2.1,a1.2.2.2)).bind fun x3=>(Hf (x2.1,x2.2) (x3.1,x3.2)).bind fun x4=>some (x4.1,x4.2.1,x4.2.2.1,x4.2.2.2)
def M2:OKE:=fq dB (fun x=>Hz x.1 x.2) [QN,cO,NY] Tryz.func121
def IX (a0 a1:Tq3):Option Tq7:=(QH (a1.1,a1.2.1,a1.2.2.1,a1.2.2.2)).bind fun x0=>(Hz (a0.1,a0.2.1,a0.2.2.1,a0.2.2.2) (x0.1,x0.2.1,x0.2.2.1,x0.2.2.2)).bind fun x1=>some (x1.1,x1.2.1,x1.2.2.1,x1.2.2.2)
def Vj:OKE:=fq dH (fun x=>IX x.1 x.2) [rx,M2] Tryz.func274
def MY (a0 a1:Tq3):Option Tq7:=(DO (a0.1,a0.2.1) (a1.2.2.1,a1.2.2.2)).bind fun x0=>(DO (a0.2.2.1,a0.2.2.2) (a1.1,a1.2.1)).bind fun x1=>(Hf (x0.1,x0.2) (x1.1,x1.2)).bind fun x2=>some (x2.1,x2.2.1,x2.2.2.1,x2.2.2.2)
def cR:OKE:=fq dD (fun x=>MY x.1 x.2) [QN,NY] Tryz.func275
def IW (a0 a1:Tq3):Option Tq7:=(DO (a0.1,a0.2.1) (a1.1,a1.2.1)).bind fun x0=>(DO (a0.2.2.1,a0.2.2.2) (a1.2.2.1,a1.2.2.2)).bind fun x1=>(Hf (x0.1,x0.2) (x1.1,x1.2)).bind fun x2=>some (x2.1,x2.2.1,x2.2.2.1,x2.2.2.2)
def Vi:OKE:=fq dF (fun x=>IW x.1 x.2) [QN,NY] Tryz.func171
def JC (a0 a1 a2:Tq3):Option Tq7:=(IX (a1.1,a1.2.1,a1.2.2.1,a1.2.2.2) (a0.1,a0.2.1,a0.2.2.1,a0.2.2.2)).bind fun x0=>(IW (a2.1,a2.2.1,a2.2.2.1,a2.2.2.2) (x0.1,x0.2.1,x0.2.2.1,x0.2.2.2)).bind fun x1=>(Hz (a0.1,a0.2.1,a0.2.2.1,a0.2.2.2) (x1.1,x1.2.1,x1.2.2.1,x1.2.2.2)).bind fun x2=>some (x2.1,x2.2.1,x2.2.2.1,x2.2.2.2)
def ji:OKE:=fq W9 (fun x=>JC x.1 x.2.1 x.2.2) [Vj,Vi,M2] Tryz.func318
def NK (a0 a1:Tq4) (a2:Tq3):Option Tq11:=(JC (a0.1,a0.2.1,a0.2.2.1,a0.2.2.2.1) (a1.1,a1.2.1,a1.2.2.1,a1.2.2.2.1) (a2.1,a2.2.1,a2.2.2.1,a2.2.2.2)).bind fun x0=>(JC (a0.2.2.2.2.1,a0.2.2.2.2.2.1,a0.2.2.2.2.2.2.1,a0.2.2.2.2.2.2.2) (a1.2.2.2.2.1,a1.2.2.2.2.2.1,a1.2.2.2.2.2.2.1,a1.2.2.2.2.2.2.2) (a2.1,a2.2.1,a2.2.2.1,a2.2.2.2)).bind fun x1=>some (x0.1,x0.2.1,x0.2.2.1,x0.2.2.2,x1.1,x1.2.1,x1.2.2.1,x1.2.2.2)
def mN:OKE:=fq Zm (fun x=>NK x.1 x.2.1 x.2.2) [ji] Tryz.func317
def NM (a0 a1:Tq4) (a2:Bool) (a3:Tq3):Option Tq11:=(H8 (a0.1,a0.2.1,a0.2.2.1,a0.2.2.2.1,a0.2.2.2.2.1,a0.2.2.2.2.2.1,a0.2.2.2.2.2.2.1,a0.2.2.2.2.2.2.2) a2).bind fun x0=>(IX (a3.1,a3.2.1,a3.2.2.1,a3.2.2.2) (x0.1,x0.2.1,x0.2.2.1,x0.2.2.2)).bind fun x1=>(H8 (a1.1,a1.2.1,a1.2.2.1,a1.2.2.2.1,a1.2.2.2.2.1,a1.2.2.2.2.2.1,a1.2.2.2.2.2.2.1,a1.2.2.2.2.2.2.2) a2).bind fun x2=>(IX (x2.1,x2.2.1,x2.2.2.1,x2.2.2.2) (x0.1,x0.2.1,x0.2.2.1,x0.2.2.2)).bind fun x3=>(MY (x1.1,x1.2.1,x1.2.2.1,x1.2.2.2) (x3.1,x3.2.1,x3.2.2.1,x3.2.2.2)).bind fun x4=>(NK (a0.1,a0.2.1,a0.2.2.1,a0.2.2.2.1,a0.2.2.2.2.1,a0.2.2.2.2.2.1,a0.2.2.2.2.2.2.1,a0.2.2.2.2.2.2.2) (a1.1,a1.2.1,a1.2.2.1,a1.2.2.2.1,a1.2.2.2.2.1,a1.2.2.2.2.2.1,a1.2.2.2.2.2.2.1,a1.2.2.2.2.2.2.2) (x4.1,x4.2.1,x4.2.2.1,x4.2.2.2)).bind fun x5=>bif a2 then some (x5.1,x5.2.1,x5.2.2.1,x5.2.2.2.1,a3.1,a3.2.1,a3.2.2.1,a3.2.2.2)else some (a3.1,a3.2.1,a3.2.2.1,a3.2.2.2,x5.2.2.2.2.1,x5.2.2.2.2.2.1,x5.2.2.2.2.2.2.1,x5.2.2.2.2.2.2.2)
def mP:OKE:=fq Zo (fun x=>NM x.1 x.2.1 x.2.2.1 x.2.2.2) [Tk,Vj,cR,mN] Tryz.func314
def Di (s0:Tq3) (s1 s2:List Tq0) (s3 s4:Bool) (s5:List Tq0) (s6 s7:Int):Option (Tq3×List Tq0×List Tq0×Bool×Bool×List Tq0×Int×Int⊕List Tq0):=bif decide (s7<s6)then(AA s5 s7).bind fun x0=>bif((s2.length:Int)==0)then none else(AA s2 (Int.tmod (zi zj ((zi zj (s7+(s2.length:Int)))-1)) (s2.length:Int))).bind fun x1=>(JF (x1.1.1.1,x1.1.1.2,x1.1.2.1,x1.1.2.2,x1.2.1.1,x1.2.1.2,x1.2.2.1,x1.2.2.2) s3 (s0.1,s0.2.1,s0.2.2.1,s0.2.2.2) s4).bind fun x2=>(JF (x0.1.1.1,x0.1.1.2,x0.1.2.1,x0.1.2.2,x0.2.1.1,x0.2.1.2,x0.2.2.1,x0.2.2.2) s3 (s0.1,s0.2.1,s0.2.2.1,s0.2.2.2) s4).bind fun x3=>bif(!(decide (x2<=0)==decide (x3<=0)))then(NM (x1.1.1.1,x1.1.1.2,x1.1.2.1,x1.1.2.2,x1.2.1.1,x1.2.1.2,x1.2.2.1,x1.2.2.2) (x0.1.1.1,x0.1.1.2,x0.1.2.1,x0.1.2.2,x0.2.1.1,x0.2.1.2,x0.2.2.1,x0.2.2.2) s3 (s0.1,s0.2.1,s0.2.2.1,s0.2.2.2)).bind fun x4=>(BV 128 8 s1 ([(((x4.1,x4.2.1),x4.2.2.1,x4.2.2.2.1),(x4.2.2.2.2.1,x4.2.2.2.2.2.1),x4.2.2.2.2.2.2.1,x4.2.2.2.2.2.2.2)]:List Tq0)).bind fun x5=>bif decide (x3<=0)then(BV 128 8 x5 ([(((x0.1.1.1,x0.1.1.2),x0.1.2.1,x0.1.2.2),(x0.2.1.1,x0.2.1.2),x0.2.2.1,x0.2.2.2)]:List Tq0)).bind fun x6=>some (zy ((s0.1,s0.2.1,s0.2.2.1,s0.2.2.2),x6,s2,s3,s4,s5,s6,(zi zj (s7+1))))else some (zy ((s0.1,s0.2.1,s0.2.2.1,s0.2.2.2),x5,s2,s3,s4,s5,s6,(zi zj (s7+1))))else bif decide (x3<=0)then(BV 128 8 s1 ([(((x0.1.1.1,x0.1.1.2),x0.1.2.1,x0.1.2.2),(x0.2.1.1,x0.2.1.2),x0.2.2.1,x0.2.2.2)]:List Tq0)).bind fun x7=>some (zy ((s0.1,s0.2.1,s0.2.2.1,s0.2.2.2),x7,s2,s3,s4,s5,s6,(zi zj (s7+1))))else some (zy ((s0.1,s0.2.1,s0.2.2.1,s0.2.2.2),s1,s2,s3,s4,s5,s6,(zi zj (s7+1))))else some (zb s1)
def FX (a0:List Tq0) (a1:Bool) (a2:Tq3) (a3:Bool):Option (List Tq9):=(Ad (fun(s:Tq3×List Tq0×List Tq0×Bool×Bool×List Tq0×Int×Int)=>Di s.1 s.2.1 s.2.2.1 s.2.2.2.1 s.2.2.2.2.1 s.2.2.2.2.2.1 s.2.2.2.2.2.2.1 s.2.2.2.2.2.2.2) ((a2.1,a2.2.1,a2.2.2.1,a2.2.2.2),([]:List Tq0),a0,a1,a3,a0,(a0.length:Int),(0:Int))).bind fun x0=>some x0
def jk:OKE:=fq Xb (fun x=>FX x.1 x.2.1 x.2.2.1 x.2.2.2) [jn,mP] Tryz.func300
def NL (a0:List Tq0) (a1 a2:Tq4):Option (List Tq9):=(FX a0 false (a1.1,a1.2.1,a1.2.2.1,a1.2.2.2.1) true).bind fun x0=>(FX x0 false (a2.1,a2.2.1,a2.2.2.1,a2.2.2.2.1) false).bind fun x1=>(FX x1 true (a1.2.2.2.2.1,a1.2.2.2.2.2.1,a1.2.2.2.2.2.2.1,a1.2.2.2.2.2.2.2) true).bind fun x2=>(FX x2 true (a2.2.2.2.2.1,a2.2.2.2.2.2.1,a2.2.2.2.2.2.2.1,a2.2.2.2.2.2.2.2) false).bind fun x3=>some x3
def mO:OKE:=fq Zn (fun x=>NL x.1 x.2.1 x.2.2) [jk] Tryz.func273
def F2 (a0:Tq3):Option (Tq7×Bool):=bif decide ((a0.2.1.length:Int)>40)then some ((false,([]:List Int),false,([]:List Int)),false)else bif decide ((a0.2.2.2.length:Int)>40)then some ((false,([]:List Int),false,([]:List Int)),false)else(BC a0.1 a0.2.1).bind fun x0=>(BC false a0.2.2.2).bind fun x1=>some ((x0.2,x0.1,x1.2,x1.1),true)
def R0:OKE:=fq Zx (fun x=>F2 x) [F4] Tryz.func70
def Mn (a0:Tq4):Option (Tq11×Bool):=(F2 (a0.1,a0.2.1,a0.2.2.1,a0.2.2.2.1)).bind fun x0=>(F2 (a0.2.2.2.2.1,a0.2.2.2.2.2.1,a0.2.2.2.2.2.2.1,a0.2.2.2.2.2.2.2)).bind fun x1=>bif(!x0.2)then some ((false,([]:List Int),false,([]:List Int),false,([]:List Int),false,([]:List Int)),false)else bif(!x1.2)then some ((false,([]:List Int),false,([]:List Int),false,([]:List Int),false,([]:List Int)),false)else some ((x0.1.1,x0.1.2.1,x0.1.2.2.1,x0.1.2.2.2,x1.1.1,x1.1.2.1,x1.1.2.2.1,x1.1.2.2.2),true)
def jg:OKE:=fq W8 (fun x=>Mn x) [R0] Tryz.func312
def ES (s0 s1:List Tq0) (s2 s3:Int):Option (List Tq0×List Tq0×Int×Int⊕(List Tq0⊕List Tq0×Bool)):=bif decide (s3<s2)then(AA s1 s3).bind fun x0=>(Mn (x0.1.1.1,x0.1.1.2,x0.1.2.1,x0.1.2.2,x0.2.1.1,x0.2.1.2,x0.2.2.1,x0.2.2.2)).bind fun x1=>bif(!x1.2)then some (zb (zb (([]:List Tq0),false)))else(BV 128 8 s0 ([(((x1.1.1,x1.1.2.1),x1.1.2.2.1,x1.1.2.2.2.1),(x1.1.2.2.2.2.1,x1.1.2.2.2.2.2.1),x1.1.2.2.2.2.2.2.1,x1.1.2.2.2.2.2.2.2)]:List Tq0)).bind fun x2=>some (zy (x2,s1,s2,(zi zj (s3+1))))else some (zb (zy s0))
def NJ (a0:List Tq0):Option (List Tq9×Bool):=(Ad (fun(s:List Tq0×List Tq0×Int×Int)=>ES s.1 s.2.1 s.2.2.1 s.2.2.2) (([]:List Tq0),a0,(a0.length:Int),(0:Int))).bind fun x0=>Sum.elim (fun x1=>some (x1,true)) (fun x2=>some (x2.1,x2.2)) x0
def mM:OKE:=fq Zl (fun x=>NJ x) [jg] Tryz.func299
def Mo (a0:List Tq0):Option (List Tq9×Bool):=(H5 a0).bind fun x0=>bif(!x0)then some (([]:List Tq0),false)else(NJ a0).bind fun x1=>some (x1.1,x1.2)
def jm:OKE:=fq Xd (fun x=>Mo x) [Tj,mM] Tryz.func272
def Cx (a0:List Tq0) (a1 a2:Tq4):Option (List Tq9×Bool):=(H5 a0).bind fun x0=>bif(!x0)then some (([]:List Tq0),false)else(MV (a1.1,a1.2.1,a1.2.2.1,a1.2.2.2.1,a1.2.2.2.2.1,a1.2.2.2.2.2.1,a1.2.2.2.2.2.2.1,a1.2.2.2.2.2.2.2)).bind fun x1=>bif(!x1)then some (([]:List Tq0),false)else(MV (a2.1,a2.2.1,a2.2.2.1,a2.2.2.2.1,a2.2.2.2.2.1,a2.2.2.2.2.2.1,a2.2.2.2.2.2.2.1,a2.2.2.2.2.2.2.2)).bind fun x2=>bif(!x2)then some (([]:List Tq0),false)else(IV (a1.1,a1.2.1,a1.2.2.1,a1.2.2.2.1) (a2.1,a2.2.1,a2.2.2.1,a2.2.2.2.1)).bind fun x3=>bif decide (x3>0)then some (([]:List Tq0),false)else(IV (a1.2.2.2.2.1,a1.2.2.2.2.2.1,a1.2.2.2.2.2.2.1,a1.2.2.2.2.2.2.2) (a2.2.2.2.2.1,a2.2.2.2.2.2.1,a2.2.2.2.2.2.2.1,a2.2.2.2.2.2.2.2)).bind fun x4=>bif decide (x4>0)then some (([]:List Tq0),false)else(NL a0 (a1.1,a1.2.1,a1.2.2.1,a1.2.2.2.1,a1.2.2.2.2.1,a1.2.2.2.2.2.1,a1.2.2.2.2.2.2.1,a1.2.2.2.2.2.2.2) (a2.1,a2.2.1,a2.2.2.1,a2.2.2.2.1,a2.2.2.2.2.1,a2.2.2.2.2.2.1,a2.2.2.2.2.2.2.1,a2.2.2.2.2.2.2.2)).bind fun x5=>(Mo x5).bind fun x6=>some (x6.1,x6.2)
def jf:OKE:=fq W3 (fun x=>Cx x.1 x.2.1 x.2.2) [Tj,ru,Vh,mO,jm] Tryz.func228
def BR (s0 s1:Tq3) (s2 s3:List Tq0) (s4 s5:Int):Option Tq25:=bif decide (s5<s4)then(AA s3 s5).bind fun x0=>bif((s2.length:Int)==0)then none else(AA s2 (Int.tmod (zi zj (s5+1)) (s2.length:Int))).bind fun x1=>(IW (x0.1.1.1,x0.1.1.2,x0.1.2.1,x0.1.2.2) (x1.2.1.1,x1.2.1.2,x1.2.2.1,x1.2.2.2)).bind fun x2=>(IW (x1.1.1.1,x1.1.1.2,x1.1.2.1,x1.1.2.2) (x0.2.1.1,x0.2.1.2,x0.2.2.1,x0.2.2.2)).bind fun x3=>(IX (x2.1,x2.2.1,x2.2.2.1,x2.2.2.2) (x3.1,x3.2.1,x3.2.2.1,x3.2.2.2)).bind fun x4=>(Hz (s1.1,s1.2.1,s1.2.2.1,s1.2.2.2) (x4.1,x4.2.1,x4.2.2.1,x4.2.2.2)).bind fun x5=>some (zy ((s0.1,s0.2.1,s0.2.2.1,s0.2.2.2),(x5.1,x5.2.1,x5.2.2.1,x5.2.2.2),s2,s3,s4,(zi zj (s5+1))))else some (zb ((s0.1,s0.2.1,s0.2.2.1,s0.2.2.2),s1.1,s1.2.1,s1.2.2.1,s1.2.2.2))
def JD (a0:List Tq0):Option Tq7:=(C4 0).bind fun x0=>(Ad (fun(s:Tq3×Tq3×List Tq0×List Tq0×Int×Int)=>BR s.1 s.2.1 s.2.2.1 s.2.2.2.1 s.2.2.2.2.1 s.2.2.2.2.2) ((false,([]:List Int),false,([]:List Int)),(x0.1,x0.2.1,x0.2.2.1,x0.2.2.2),a0,a0,(a0.length:Int),(0:Int))).bind fun x1=>(C4 2).bind fun x2=>(MY (x1.2.1,x1.2.2.1,x1.2.2.2.1,x1.2.2.2.2) (x2.1,x2.2.1,x2.2.2.1,x2.2.2.2)).bind fun x3=>some (x3.1,x3.2.1,x3.2.2.1,x3.2.2.2)
def jj:OKE:=fq Xa (fun x=>JD x) [QO,Vi,Vj,M2,cR] Tryz.func229
def Gn (a0:List Tq0) (a1 a2:Int):Option (Tq7×Bool):=(KL (a1,a2)).bind fun x0=>(KL ((zi zj (a1+1)),(zi zj (a2+1)))).bind fun x1=>(Cx a0 (x0.1,x0.2.1,x0.2.2.1,x0.2.2.2.1,x0.2.2.2.2.1,x0.2.2.2.2.2.1,x0.2.2.2.2.2.2.1,x0.2.2.2.2.2.2.2) (x1.1,x1.2.1,x1.2.2.1,x1.2.2.2.1,x1.2.2.2.2.1,x1.2.2.2.2.2.1,x1.2.2.2.2.2.2.1,x1.2.2.2.2.2.2.2)).bind fun x2=>bif(!x2.2)then some ((false,([]:List Int),false,([]:List Int)),false)else(JD x2.1).bind fun x3=>(F2 (x3.1,x3.2.1,x3.2.2.1,x3.2.2.2)).bind fun x4=>some ((x4.1.1,x4.1.2.1,x4.1.2.2.1,x4.1.2.2.2),x4.2)
def ge:OKE:=fq TS (fun x=>Gn x.1 x.2.1 x.2.2) [cN,jf,jj,R0] Tryz.func177
def Cg (s0:Tq6) (s1:List Tq1) (s2:List Tq0) (s3 s4:Int):Option Tq23:=bif decide (s4<(zi zj (s0.1+s0.2.2.1)))then(Gn s2 s4 s3).bind fun x0=>bif(!x0.2)then some (zb (zb (([]:List Tq1),false)))else(BV 64 4 s1 ([((x0.1.1,x0.1.2.1),x0.1.2.2.1,x0.1.2.2.2)]:List Tq1)).bind fun x1=>some (zy ((s0.1,s0.2.1,s0.2.2.1,s0.2.2.2),x1,s2,s3,(zi zj (s4+1))))else some (zb (zy ((s0.1,s0.2.1,s0.2.2.1,s0.2.2.2),s1,s2,s3)))
def BQ (s0:Tq6) (s1:List Tq1) (s2:List Tq0) (s3:Int):Option (Tq6×List Tq1×List Tq0×Int⊕(List Tq1⊕List Tq1×Bool)):=bif decide (s3<(zi zj (s0.2.1+s0.2.2.2)))then(Ad (fun(s:Tq6×List Tq1×List Tq0×Int×Int)=>Cg s.1 s.2.1 s.2.2.1 s.2.2.2.1 s.2.2.2.2) ((s0.1,s0.2.1,s0.2.2.1,s0.2.2.2),s1,s2,s3,s0.1)).bind fun x0=>Sum.elim (fun x1=>some (zy ((x1.1.1,x1.1.2.1,x1.1.2.2.1,x1.1.2.2.2),x1.2.1,x1.2.2.1,(zi zj (x1.2.2.2+1))))) (fun x2=>some (zb (zb (x2.1,x2.2)))) x0 else some (zb (zy s1))
def D0 (a0:List Tq0) (a1:Tq6):Option (List Tq22×Bool):=(EA (a1.1,a1.2.1,a1.2.2.1,a1.2.2.2)).bind fun x0=>bif(!x0)then some (([]:List Tq1),false)else(Ad (fun(s:Tq6×List Tq1×List Tq0×Int)=>BQ s.1 s.2.1 s.2.2.1 s.2.2.2) ((a1.1,a1.2.1,a1.2.2.1,a1.2.2.2),([]:List Tq1),a0,a1.2.1)).bind fun x1=>Sum.elim (fun x2=>some (x2,true)) (fun x3=>some (x3.1,x3.2)) x1
def gc:OKE:=fq TP (fun x=>D0 x.1 x.2) [Pw,ge] Tryz.func120
def Cu (s0:Tq6) (s1:List Tq2) (s2:List Tq1) (s3:Int):Option (Tq6×List Tq2×List Tq1×Int⊕Tq6×List Tq2×List Tq1):=bif decide (s3>0)then(C4 0).bind fun x0=>(BV 64 4 s2 ([((x0.1,x0.2.1),x0.2.2.1,x0.2.2.2)]:List Tq1)).bind fun x1=>some (zy ((s0.1,s0.2.1,s0.2.2.1,s0.2.2.2),s1,x1,(zi zj (s3-1))))else some (zb ((s0.1,s0.2.1,s0.2.2.1,s0.2.2.2),s1,s2))
def BY (s0:Tq6) (s1:List Tq1) (s2:List Tq2) (s3 s4:Int) (s5:List Tq1) (s6 s7:Int):Option Tq18:=bif decide (s7<s6)then(AA s5 s7).bind fun x0=>(AW s7 (List.length s1)).bind fun x1=>(AN s1 x1).bind fun x2=>(Hz (x2.1.1,x2.1.2,x2.2.1,x2.2.2) (x0.1.1,x0.1.2,x0.2.1,x0.2.2)).bind fun x3=>(F2 (x3.1,x3.2.1,x3.2.2.1,x3.2.2.2)).bind fun x4=>bif(!x4.2)then some (zb (zb (([]:List Tq1),false)))else(AW s7 (List.length s1)).bind fun x5=>(AN s1 x5).bind fun x6=>some (zy ((s0.1,s0.2.1,s0.2.2.1,s0.2.2.2),(List.set s1 x5 ((x4.1.1,x4.1.2.1),x4.1.2.2.1,x4.1.2.2.2)),s2,s3,s4,s5,s6,(zi zj (s7+1))))else some (zb (zy ((s0.1,s0.2.1,s0.2.2.1,s0.2.2.2),s1,s2,s3,s4)))
def Bl (s0:Tq6) (s1:List Tq1) (s2:List Tq2) (s3 s4:Int):Option (Tq6×List Tq1×List Tq2×Int×Int⊕(List Tq1⊕List Tq1×Bool)):=bif decide (s4<s3)then(AW s4 (List.length s2)).bind fun x0=>(AN s2 x0).bind fun x1=>(NI x1).bind fun x2=>(D0 x2.1 (s0.1,s0.2.1,s0.2.2.1,s0.2.2.2)).bind fun x3=>bif(!x3.2)then some (zb (zb (([]:List Tq1),false)))else(Ad (fun(s:Tq6×List Tq1×List Tq2×Int×Int×List Tq1×Int×Int)=>BY s.1 s.2.1 s.2.2.1 s.2.2.2.1 s.2.2.2.2.1 s.2.2.2.2.2.1 s.2.2.2.2.2.2.1 s.2.2.2.2.2.2.2) ((s0.1,s0.2.1,s0.2.2.1,s0.2.2.2),s1,s2,s3,s4,x3.1,(x3.1.length:Int),(0:Int))).bind fun x4=>Sum.elim (fun x5=>some (zy ((x5.1.1,x5.1.2.1,x5.1.2.2.1,x5.1.2.2.2),x5.2.1,x5.2.2.1,x5.2.2.2.1,(zi zj (x5.2.2.2.2+1))))) (fun x6=>some (zb (zb (x6.1,x6.2)))) x4 else some (zb (zy s1))
def GS (a0:List UInt8) (a1:Tq6):Option (List Tq22×Bool):=(Jj a0).bind fun x0=>bif(!x0.2.2.2)then some (([]:List Tq1),false)else(EA (a1.1,a1.2.1,a1.2.2.1,a1.2.2.2)).bind fun x1=>bif(!x1)then some (([]:List Tq1),false)else(Ad (fun(s:Tq6×List Tq2×List Tq1×Int)=>Cu s.1 s.2.1 s.2.2.1 s.2.2.2) ((a1.1,a1.2.1,a1.2.2.1,a1.2.2.2),x0.1,([]:List Tq1),(zi zj (a1.2.2.1*a1.2.2.2)))).bind fun x2=>(Ad (fun(s:Tq6×List Tq1×List Tq2×Int×Int)=>Bl s.1 s.2.1 s.2.2.1 s.2.2.2.1 s.2.2.2.2) ((x2.1.1,x2.1.2.1,x2.1.2.2.1,x2.1.2.2.2),x2.2.2,x2.2.1,(x2.2.1.length:Int),(0:Int))).bind fun x3=>Sum.elim (fun x4=>some (x4,true)) (fun x5=>some (x5.1,x5.2)) x3
def cd:OKE:=fq RL (fun x=>GS x.1 x.2) [b9,Pw,QO,mL,gc,M2,R0] Tryz.func51
def QI (a0:Tq3):Option Tq7:=(BC false a0.2.1).bind fun x0=>some (x0.2,x0.1,a0.2.2.1,a0.2.2.2)
def rz:OKE:=fq dI (fun x=>QI x) [F4] Tryz.func167
def QG (a0 a1:Tq5):Option Tq12:=(IU (a1.1,a1.2)).bind fun x0=>(MW (a0.1,a0.2) (x0.1,x0.2)).bind fun x1=>some (x1.1,x1.2)
def rv:OKE:=fq dA (fun x=>QG x.1 x.2) [Vf,cO] Tryz.func218
def Mt (a0:Tq3):Option Tq12:=(KM (a0.1,a0.2.1) (a0.2.2.1,a0.2.2.2)).bind fun x0=>bif x0.2.1 then(Fk 1).bind fun x1=>(QG (x0.1.1,x0.1.2) (x1.1,x1.2)).bind fun x2=>some (x2.1,x2.2)else some (x0.1.1,x0.1.2)
def ju:OKE:=fq Xk (fun x=>Mt x) [cP,QL,rv] Tryz.func170
def L9 (s0:Tq5) (s1 s2:Int):Option (Tq5×Int×Int⊕Tq5×Int):=bif decide (s2>=0)then(AA s0.2 s2).bind fun x0=>some (zy ((s0.1,s0.2),(zi zj ((zi zj (s1*65536))+x0)),(zi zj (s2-1))))else some (zb ((s0.1,s0.2),s1))
def MU (a0:Tq5):Option (Int×Bool):=(Hy (a0.1,a0.2)).bind fun x0=>bif(!x0)then some ((0:Int),false)else bif decide ((a0.2.length:Int)>4)then some ((0:Int),false)else(Fk 4611686018427387904).bind fun x1=>(CK a0.2 x1.2).bind fun x2=>bif decide (x2>0)then some ((0:Int),false)else(Ad (fun(s:Tq5×Int×Int)=>L9 s.1 s.2.1 s.2.2) ((a0.1,a0.2),(0:Int),(zi zj ((a0.2.length:Int)-1)))).bind fun x3=>bif x3.1.1 then some ((zi zj ((0:Int)-x3.2)),true)else some (x3.2,true)
def rr:OKE:=fq dj (fun x=>MU x) [WA,QL,M1] Tryz.func169
def Mp (a0:Tq3):Option Int:=(QI (a0.1,a0.2.1,a0.2.2.1,a0.2.2.2)).bind fun x0=>(C4 1).bind fun x1=>(IV (x0.1,x0.2.1,x0.2.2.1,x0.2.2.2) (x1.1,x1.2.1,x1.2.2.1,x1.2.2.2)).bind fun x2=>bif decide (x2>0)then some (255:Int)else(Fk 1).bind fun x3=>(Fk 2).bind fun x4=>(Hf (x3.1,x3.2) (x4.1,x4.2)).bind fun x5=>(C4 255).bind fun x6=>(IW (x0.1,x0.2.1,x0.2.2.1,x0.2.2.2) (x6.1,x6.2.1,x6.2.2.1,x6.2.2.2)).bind fun x7=>(Hz (x7.1,x7.2.1,x7.2.2.1,x7.2.2.2) (x5.1,x5.2.1,x5.2.2.1,x5.2.2.2)).bind fun x8=>(Mt (x8.1,x8.2.1,x8.2.2.1,x8.2.2.2)).bind fun x9=>(MU (x9.1,x9.2)).bind fun x10=>some x10.1
def jo:OKE:=fq Xf (fun x=>Mp x) [rz,QO,Vh,QL,NY,Vi,M2,ju,rr] Tryz.func108
def B5 (s0:List Int) (s1:List Tq1) (s2 s3:Int):Option (List Int×List Tq1×Int×Int⊕List Int):=bif decide (s3<s2)then(AA s1 s3).bind fun x0=>(Mp (x0.1.1,x0.1.2,x0.2.1,x0.2.2)).bind fun x1=>(BV 8 1 s0 ([x1]:List Int)).bind fun x2=>some (zy (x2,s1,s2,(zi zj (s3+1))))else some (zb s0)
def EB (a0:List UInt8) (a1:Tq6):Option (List Int×Bool):=(GS a0 (a1.1,a1.2.1,a1.2.2.1,a1.2.2.2)).bind fun x0=>bif(!x0.2)then some (([]:List Int),false)else(Ad (fun(s:List Int×List Tq1×Int×Int)=>B5 s.1 s.2.1 s.2.2.1 s.2.2.2) (([]:List Int),x0.1,(x0.1.length:Int),(0:Int))).bind fun x1=>some (x1,true)
def Px:OKE:=fq PN (fun x=>EB x.1 x.2) [cd,jo] Tryz.func38
def CQ (s0 s1:List Int) (s2 s3:Int):Option (List Int×List Int×Int×Int⊕(List Int⊕Bool)):=bif decide (s3<s2)then(AA s1 s3).bind fun x0=>(BT x0 0 255).bind fun x1=>bif(!x1)then some (zb (zb false))else some (zy (s0,s1,s2,(zi zj (s3+1))))else some (zb (zy s0))
def NO (a0:List Int):Option Bool:=(Ad (fun(s:List Int×List Int×Int×Int)=>CQ s.1 s.2.1 s.2.2.1 s.2.2.2) (a0,a0,(a0.length:Int),(0:Int))).bind fun x0=>Sum.elim (fun x1=>some (decide ((x1.length:Int)<=100))) (fun x2=>some x2) x0
def mR:OKE:=fq Zq (fun x=>NO x) [Ld] Tryz.func183
def Dq (s0:List UInt8) (s1:List Int) (s2 s3:Int):Option (List UInt8×List Int×Int×Int⊕List UInt8):=bif decide (s3<s2)then(AA s1 s3).bind fun x0=>(Ds s0 (BK ([(zi .u8 x0)]:List Int))).bind fun x1=>some (zy (x1,s1,s2,(zi zj (s3+1))))else some (zb s0)
def H9 (a0 a1:Int) (a2:List Int):Option (List UInt8):=(Fl a0).bind fun x0=>(Ds ([80,53,10]:List UInt8) x0).bind fun x1=>(Ds x1 ([32]:List UInt8)).bind fun x2=>(Fl a1).bind fun x3=>(Ds x2 x3).bind fun x4=>(Ds x4 ([10,50,53,53,10]:List UInt8)).bind fun x5=>(Ad (fun(s:List UInt8×List Int×Int×Int)=>Dq s.1 s.2.1 s.2.2.1 s.2.2.2) (x5,a2,(a2.length:Int),(0:Int))).bind fun x6=>some x6
def YZ:OKE:=fq PP (fun x=>H9 x.1 x.2.1 x.2.2) [Vg] Tryz.func184
def Gm (a0 a1:Int) (a2:List Int):Option Tq24:=(BT a0 1 10).bind fun x0=>bif(!x0)then some (([]:List UInt8),false)else(BT a1 1 10).bind fun x1=>bif(!x1)then some (([]:List UInt8),false)else bif((a2.length:Int) != (zi zj (a0*a1)))then some (([]:List UInt8),false)else(NO a2).bind fun x2=>bif(!x2)then some (([]:List UInt8),false)else(H9 a0 a1 a2).bind fun x3=>some (x3,true)
def Vb:OKE:=fq M8 (fun x=>Gm x.1 x.2.1 x.2.2) [Ld,mR,YZ] Tryz.func125
def Ml (a0:List UInt8) (a1:Tq6):Option Tq24:=(EB a0 (a1.1,a1.2.1,a1.2.2.1,a1.2.2.2)).bind fun x0=>bif(!x0.2)then some (([]:List UInt8),false)else(Gm a1.2.2.1 a1.2.2.2 x0.1).bind fun x1=>some (x1.1,x1.2)
def Wz:OKE:=fq W4 (fun x=>Ml x.1 x.2) [Px,Vb] Tryz.func63
def ER (s0:Tq2) (s1:List Int) (s2 s3:Int):Option (Tq2×List Int×Int×Int⊕Tq2):=bif decide (s3<s2)then(AA s1 s3).bind fun x0=>bif decide ((zi zj ((s0.length:Int)-1))>=0)then(AW (zi zj ((s0.length:Int)-1)) (List.length s0)).bind fun x1=>(AN s0 x1).bind fun x2=>bif(x2.1==x0)then(AW (zi zj ((s0.length:Int)-1)) (List.length s0)).bind fun x3=>(AN s0 x3).bind fun x4=>(AW (zi zj ((s0.length:Int)-1)) (List.length s0)).bind fun x5=>(AN s0 x5).bind fun x6=>some (zy ((List.set s0 x5 (x6.1,(zi zj (x4.2+1)))),s1,s2,(zi zj (s3+1))))else(BV 16 2 s0 ([(x0,(1:Int))]:List (Int×Int))).bind fun x7=>some (zy (x7,s1,s2,(zi zj (s3+1))))else(BV 16 2 s0 ([(x0,(1:Int))]:List (Int×Int))).bind fun x8=>some (zy (x8,s1,s2,(zi zj (s3+1))))else some (zb s0)
def La (a0:List Int):Option Tq2:=(Ad (fun(s:Tq2×List Int×Int×Int)=>ER s.1 s.2.1 s.2.2.1 s.2.2.2) (([]:List (Int×Int)),a0,(a0.length:Int),(0:Int))).bind fun x0=>some x0
def mK:OKE:=fq Zh (fun x=>La x) [] Tryz.func113
def F3 (a0:List (List UInt8)) (a1:List UInt8):Option (List UInt8):=YP a0 a1
def Pj:Ent:=⟨P3,fun x=>F3 x.1 x.2⟩
theorem X9:Ch RR Pj:=v8 fun _ _ _ _ _ h=>Or.inr (Or.inr (Or.inr (Or.inr (Or.inr (Or.inr (Or.inl h))))))
def PA:OKE:=⟨Pj,X9,rfl⟩
def FO (s0:Tq8) (s1:Tq2) (s2 s3:Int):Option (Tq8×Tq2×Int×Int⊕Tq8):=bif decide (s3<s2)then(AA s1 s3).bind fun x0=>(BU x0.2).bind fun x1=>(Ds x1 ([120]:List UInt8)).bind fun x2=>(BU x0.1).bind fun x3=>(Ds x2 x3).bind fun x4=>(BV 16 1 s0 ([x4]:List (List UInt8))).bind fun x5=>some (zy (x5,s1,s2,(zi zj (s3+1))))else some (zb s0)
def H1 (a0:Tq2):Option (List UInt8):=(Ad (fun(s:Tq8×Tq2×Int×Int)=>FO s.1 s.2.1 s.2.2.1 s.2.2.2) (([]:List (List UInt8)),a0,(a0.length:Int),(0:Int))).bind fun x0=>(F3 x0 ([44]:List UInt8)).bind fun x1=>some x1
def Tf:OKE:=fq TI (fun x=>H1 x) [Ik,PA] Tryz.func112
def Df (s0:Tq6) (s1:List Int) (s2:Tq8) (s3 s4:Int):Option (Tq6×List Int×Tq8×Int×Int⊕Tq8):=bif decide (s4<s3)then(Fx (zi zj (s4*s0.2.2.1)) (zi zj ((zi zj (s4+1))*s0.2.2.1)) (List.length s1)).bind fun x0=>(La (List.drop x0.1 (List.take (x0.1+(x0.2-x0.1)) s1))).bind fun x1=>(H1 x1).bind fun x2=>(BV 16 1 s2 ([x2]:List (List UInt8))).bind fun x3=>some (zy ((s0.1,s0.2.1,s0.2.2.1,s0.2.2.2),s1,x3,s3,(zi zj (s4+1))))else some (zb s2)
def Mi (a0:List UInt8) (a1:Tq6):Option (List (List UInt8)×Bool):=(BS a0 (a1.1,a1.2.1,a1.2.2.1,a1.2.2.2)).bind fun x0=>bif(!x0.2)then some (([]:List (List UInt8)),false)else(Ad (fun(s:Tq6×List Int×Tq8×Int×Int)=>Df s.1 s.2.1 s.2.2.1 s.2.2.2.1 s.2.2.2.2) ((a1.1,a1.2.1,a1.2.2.1,a1.2.2.2),x0.1,([]:List (List UInt8)),a1.2.2.2,(0:Int))).bind fun x1=>some (x1,true)
def Wx:OKE:=fq WW (fun x=>Mi x.1 x.2) [Ig,mK,Tf] Tryz.func45
def Ed (s0:Tq2) (s1:List Int) (s2 s3:Int):Option (Tq2×List Int×Int×Int⊕Tq2):=bif decide (s3<s2)then(AA s1 s3).bind fun x0=>bif decide ((s0.length:Int)>0)then(AW (zi zj ((s0.length:Int)-1)) (List.length s0)).bind fun x1=>(AN s0 x1).bind fun x2=>bif(x2.1==x0)then(AW (zi zj ((s0.length:Int)-1)) (List.length s0)).bind fun x3=>(AN s0 x3).bind fun x4=>(AW (zi zj ((s0.length:Int)-1)) (List.length s0)).bind fun x5=>(AN s0 x5).bind fun x6=>some (zy ((List.set s0 x5 (x6.1,(zi zj (x4.2+1)))),s1,s2,(zi zj (s3+1))))else(BV 16 2 s0 ([(x0,(1:Int))]:List (Int×Int))).bind fun x7=>some (zy (x7,s1,s2,(zi zj (s3+1))))else(BV 16 2 s0 ([(x0,(1:Int))]:List (Int×Int))).bind fun x8=>some (zy (x8,s1,s2,(zi zj (s3+1))))else some (zb s0)
def JG (a0:List Int):Option Tq2:=(Ad (fun(s:Tq2×List Int×Int×Int)=>Ed s.1 s.2.1 s.2.2.1 s.2.2.2) (([]:List (Int×Int)),a0,(a0.length:Int),(0:Int))).bind fun x0=>some x0
def jp:OKE:=fq Xg (fun x=>JG x) [] Tryz.func111
def GM (s0:List UInt8) (s1:Tq2) (s2 s3:Int):Option (List UInt8×Tq2×Int×Int⊕List UInt8):=bif decide (s3<s2)then(AA s1 s3).bind fun x0=>(bif decide (s3>0)then(Ds s0 ([44]:List UInt8)).bind fun x1=>some (zb ((x0.1,x0.2),x1,s1,s2,s3))else some (zb ((x0.1,x0.2),s0,s1,s2,s3))).bind fun x2=>Sum.elim (fun x3=>some x3) (fun x4=>(Fl x4.1.2).bind fun x5=>(Ds x5 ([120]:List UInt8)).bind fun x6=>(Fl x4.1.1).bind fun x7=>(Ds x6 x7).bind fun x8=>(Ds x4.2.1 x8).bind fun x9=>some (zy (x9,x4.2.2.1,x4.2.2.2.1,(zi zj (x4.2.2.2.2+1))))) x2 else some (zb s0)
def Mq (a0:Tq2):Option (List UInt8):=(Ad (fun(s:List UInt8×Tq2×Int×Int)=>GM s.1 s.2.1 s.2.2.1 s.2.2.2) (([]:List UInt8),a0,(a0.length:Int),(0:Int))).bind fun x0=>some x0
def jq:OKE:=fq Xh (fun x=>Mq x) [Vg] Tryz.func110
def Dh (s0:Tq6) (s1:List Int) (s2:Tq8) (s3:Int):Option (Tq6×List Int×Tq8×Int⊕Tq8):=bif decide (s3<s0.2.2.2)then(Fx (zi zj (s3*s0.2.2.1)) (zi zj ((zi zj (s3+1))*s0.2.2.1)) (List.length s1)).bind fun x0=>(JG (List.drop x0.1 (List.take (x0.1+(x0.2-x0.1)) s1))).bind fun x1=>(Mq x1).bind fun x2=>(BV 16 1 s2 ([x2]:List (List UInt8))).bind fun x3=>some (zy ((s0.1,s0.2.1,s0.2.2.1,s0.2.2.2),s1,x3,(zi zj (s3+1))))else some (zb s2)
def Mm (a0:List UInt8) (a1:Tq6):Option (List (List UInt8)×Bool):=(EB a0 (a1.1,a1.2.1,a1.2.2.1,a1.2.2.2)).bind fun x0=>bif(!x0.2)then some (([]:List (List UInt8)),false)else(Ad (fun(s:Tq6×List Int×Tq8×Int)=>Dh s.1 s.2.1 s.2.2.1 s.2.2.2) ((a1.1,a1.2.1,a1.2.2.1,a1.2.2.2),x0.1,([]:List (List UInt8)),(0:Int))).bind fun x1=>some (x1,true)
def WC:OKE:=fq W7 (fun x=>Mm x.1 x.2) [Px,jp,jq] Tryz.func44
def Es (a0 a1:List UInt8):Option Tq24:=YN a0 a1
def J6:Ent:=⟨J7,fun x=>Es x.1 x.2⟩
theorem Pp:Ch RR J6:=u6 fun _ _ _ _ _ h=>Or.inr (Or.inr (Or.inr (Or.inr (Or.inr (Or.inr (Or.inr (Or.inl h)))))))
def Rs:OKE:=⟨J6,Pp,rfl⟩
def DQ (s0:List Int) (s1 s2:Int) (s3:List Int) (s4 s5:Int):Option (List Int×Int×Int×List Int×Int×Int⊕List Int×Int×Int):=bif decide (s5<s4)then(AA s3 s5).bind fun x0=>(BV 8 1 s0 ([(zi zj x0)]:List Int)).bind fun x1=>some (zy (x1,s1,s2,s3,s4,(zi zj (s5+1))))else some (zb (s0,s1,s2))
def Ce (s0:List UInt8) (s1 s2:Int):Option (List UInt8×Int×Int⊕(List UInt8×Int⊕List Int×Int×Int×Bool)):=bif decide (s2<=10)then(MS s1 s2).bind fun x0=>(Es s0 x0).bind fun x1=>bif(!x1.2)then some (zy (s0,s1,(zi zj (s2+1))))else bif((x1.1.length:Int) != (zi zj (s1*s2)))then some (zy (s0,s1,(zi zj (s2+1))))else bif decide ((List.length x1.1)<=140737488351232)then(Ad (fun(s:List Int×Int×Int×List Int×Int×Int)=>DQ s.1 s.2.1 s.2.2.1 s.2.2.2.1 s.2.2.2.2.1 s.2.2.2.2.2) (([]:List Int),s1,s2,(GH x1.1),((GH x1.1).length:Int),(0:Int))).bind fun x2=>some (zb (zb (x2.1,x2.2.1,x2.2.2,true)))else none else some (zb (zy (s0,s1)))
def DP (s0:List UInt8) (s1:Int):Option (List UInt8×Int⊕(Unit⊕List Int×Int×Int×Bool)):=bif decide (s1<=10)then(Ad (fun(s:List UInt8×Int×Int)=>Ce s.1 s.2.1 s.2.2) (s0,s1,(1:Int))).bind fun x0=>Sum.elim (fun x1=>some (zy (x1.1,(zi zj (x1.2+1))))) (fun x2=>some (zb (zb (x2.1,x2.2.1,x2.2.2.1,x2.2.2.2)))) x0 else some (zb (zy ()))
def E8 (a0:List UInt8):Option (List Int×Int×Int×Bool):=(Ad (fun(s:List UInt8×Int)=>DP s.1 s.2) (a0,(1:Int))).bind fun x0=>Sum.elim (fun x1=>some (([]:List Int),(0:Int),(0:Int),false)) (fun x2=>some (x2.1,x2.2.1,x2.2.2.1,x2.2.2.2)) x0
def OW:OKE:=fq O2 (fun x=>E8 x) [jc,Rs] Tryz.func66
def Dy (s0 s1:List Int) (s2 s3:Int):Option (List Int×List Int×Int×Int⊕(Unit⊕Bool)):=bif decide (s3<s2)then(AA s0 s3).bind fun x0=>(AA s1 s3).bind fun x1=>bif(x0 != x1)then some (zb (zb false))else some (zy (s0,s1,s2,(zi zj (s3+1))))else some (zb (zy ()))
def DZ (a0 a1:List Int):Option Bool:=bif((a0.length:Int) != (a1.length:Int))then some false else(Ad (fun(s:List Int×List Int×Int×Int)=>Dy s.1 s.2.1 s.2.2.1 s.2.2.2) (a0,a1,(a0.length:Int),(0:Int))).bind fun x0=>Sum.elim (fun x1=>some true) (fun x2=>some x2) x0
def Th:OKE:=fq TL (fun x=>DZ x.1 x.2) [] Tryz.func54
def MG (a0 a1:List UInt8):Option (List UInt8×List UInt8×Bool):=iS a0 a1
def Rw:Ent:=⟨RO,fun x=>MG x.1 x.2⟩
theorem YQ:Ch RR Rw:=yy fun _ _ _ _ _ h=>Or.inr (Or.inr (Or.inr (Or.inr (Or.inr (Or.inr (Or.inr (Or.inr (h))))))))
def cg:OKE:=⟨Rw,YQ,rfl⟩
def FF (s0:Tq2) (s1:Int) (s2:Tq2) (s3 s4:Int):Option (Tq2×Int×Tq2×Int×Int⊕(Unit⊕Bool)):=bif decide (s4<s3)then(AA s2 s4).bind fun x0=>(AE x0.1 0 255).bind fun x1=>bif(!x1)then some (zb (zb false))else(AE x0.2 1 (zi zj ((100:Int)-s1))).bind fun x2=>bif(!x2)then some (zb (zb false))else bif decide (s4>0)then(AA s0 (zi zj (s4-1))).bind fun x3=>bif(x0.1==x3.1)then some (zb (zb false))else some (zy (s0,(zi zj (s1+x0.2)),s2,s3,(zi zj (s4+1))))else some (zy (s0,(zi zj (s1+x0.2)),s2,s3,(zi zj (s4+1))))else some (zb (zy ()))
def HQ (a0:Tq2):Option Bool:=(Ad (fun(s:Tq2×Int×Tq2×Int×Int)=>FF s.1 s.2.1 s.2.2.1 s.2.2.2.1 s.2.2.2.2) (a0,(0:Int),a0,(a0.length:Int),(0:Int))).bind fun x0=>Sum.elim (fun x1=>some true) (fun x2=>some x2) x0
def Ta:OKE:=fq Tq (fun x=>HQ x) [Eg] Tryz.func130
def FH (s0:Tq2) (s1:Tq8) (s2:List UInt8) (s3 s4:Int):Option (Tq2×Tq8×List UInt8×Int×Int⊕Tq2×List UInt8):=bif decide (s4<s3)then(AW s4 (List.length s1)).bind fun x0=>(AN s1 x0).bind fun x1=>(MG x1 ([120]:List UInt8)).bind fun x2=>(EC x2.1).bind fun x3=>(EC x2.2.1).bind fun x4=>(BV 16 2 s0 ([(x4.1,x3.1)]:List (Int×Int))).bind fun x5=>some (zy (x5,s1,s2,s3,(zi zj (s4+1))))else some (zb (s0,s2))
def HU (a0:List UInt8):Option (List (Int×Int)×Bool):=bif(a0==([]:List UInt8))then some (([]:List (Int×Int)),true)else(E9 a0 ([44]:List UInt8)).bind fun x0=>bif decide ((x0.length:Int)>100)then some (([]:List (Int×Int)),false)else(Ad (fun(s:Tq2×Tq8×List UInt8×Int×Int)=>FH s.1 s.2.1 s.2.2.1 s.2.2.2.1 s.2.2.2.2) (([]:List (Int×Int)),x0,a0,(x0.length:Int),(0:Int))).bind fun x1=>(HQ x1.1).bind fun x2=>bif(!x2)then some (([]:List (Int×Int)),false)else(H1 x1.1).bind fun x3=>bif(!(x3==x1.2))then some (([]:List (Int×Int)),false)else some (x1.1,true)
def Td:OKE:=fq Tv (fun x=>HU x) [OZ,cg,Pz,Ta,Tf] Tryz.func67
def EK (s0:List Int) (s1:Int×Int) (s2:Tq2) (s3 s4:Int) (s5 s6:Int):Option (List Int×(Int×Int)×Tq2×Int×Int×Int×Int⊕List Int×Tq2×Int×Int):=bif decide (s6<s5)then(BV 8 1 s0 ([s1.1]:List Int)).bind fun x0=>some (zy (x0,(s1.1,s1.2),s2,s3,s4,s5,(zi zj (s6+1))))else some (zb (s0,s2,s3,s4))
def FN (s0:List Int) (s1:Tq2) (s2 s3:Int):Option (List Int×Tq2×Int×Int⊕List Int):=bif decide (s3<s2)then(AA s1 s3).bind fun x0=>(Ad (fun(s:List Int×(Int×Int)×Tq2×Int×Int×Int×Int)=>EK s.1 s.2.1 s.2.2.1 s.2.2.2.1 s.2.2.2.2.1 s.2.2.2.2.2.1 s.2.2.2.2.2.2) (s0,(x0.1,x0.2),s1,s2,s3,x0.2,(0:Int))).bind fun x1=>some (zy (x1.1,x1.2.1,x1.2.2.1,(zi zj (x1.2.2.2+1))))else some (zb s0)
def QF (a0:Tq2):Option (List Int):=(Ad (fun(s:List Int×Tq2×Int×Int)=>FN s.1 s.2.1 s.2.2.1 s.2.2.2) (([]:List Int),a0,(a0.length:Int),(0:Int))).bind fun x0=>some x0
def ro:OKE:=fq df (fun x=>QF x) [] Tryz.func131
def HO (a0:Tq2):Option (List Int×Bool):=(HQ a0).bind fun x0=>bif(!x0)then some (([]:List Int),false)else(QF a0).bind fun x1=>some (x1,true)
def S9:OKE:=fq Tn (fun x=>HO x) [Ta,ro] Tryz.func68
def Dx (s0:Int) (s1:List Int) (s2 s3:Int):Option (Int×List Int×Int×Int⊕Int):=bif decide (s3<s2)then(AA s1 s3).bind fun x0=>some (zy ((Int.tmod (zi zj ((zi zj ((31:Int)*s0))+(zi zj x0))) 1000003),s1,s2,(zi zj (s3+1))))else some (zb s0)
def H3 (a0:List Int):Option Int:=(Ad (fun(s:Int×List Int×Int×Int)=>Dx s.1 s.2.1 s.2.2.1 s.2.2.2) ((0:Int),a0,(a0.length:Int),(0:Int))).bind fun x0=>some x0
def Tg:OKE:=fq TK (fun x=>H3 x) [] Tryz.func56
def Kn (a0:Int×Int):Option Bool:=(Ee (a0.1,a0.2)).bind fun x0=>some (!x0)
def f0:OKE:=fq TD (fun x=>Kn x) [NW] Tryz.func204
def A6 (s0:Tq2) (s1 s2:Int):Option (Tq2×Int×Int⊕(Unit⊕Int)):=bif decide (s2<s1)then(AA s0 s2).bind fun x0=>(Kn (x0.1,x0.2)).bind fun x1=>bif x1 then some (zb (zb s2))else some (zy (s0,s1,(zi zj (s2+1))))else some (zb (zy ()))
def CZ (a0:Tq2):Option Int:=(Ad (fun(s:Tq2×Int×Int)=>A6 s.1 s.2.1 s.2.2) (a0,(a0.length:Int),(0:Int))).bind fun x0=>Sum.elim (fun x1=>some (-(1:Int))) (fun x2=>some x2) x0
def JK:OKE:=fq EN (fun x=>CZ x) [f0] Tryz.func255
def Ck (a0:Tq2):Option Bool:=(CZ a0).bind fun x0=>some (decide (x0>=0))
def Ih:OKE:=fq D3 (fun x=>Ck x) [JK] Tryz.func203
def K7 (a0:Tq2):Option Bool:=(Ck a0).bind fun x0=>some (!x0)
def YU:OKE:=fq Zb (fun x=>K7 x) [Ih] Tryz.func151
def MT (a0:Tq2):Option Bool:=(AE (a0.length:Int) 3 12).bind fun x0=>bif x0 then(K7 a0).bind fun x1=>some x1 else some false
def cM:OKE:=fq cZ (fun x=>MT x) [Eg,YU] Tryz.func88
def GK (s0:Int×Int) (s1 s2:Tq2) (s3 s4:Int):Option ((Int×Int)×Tq2×Tq2×Int×Int⊕Tq2):=bif decide (s4<s3)then(AA s2 s4).bind fun x0=>(BV 16 2 s1 ([((zi zj (x0.1+s0.1)),(zi zj (x0.2+s0.2)))]:List (Int×Int))).bind fun x1=>some (zy ((s0.1,s0.2),x1,s2,s3,(zi zj (s4+1))))else some (zb s1)
def Mf (a0:Tq2) (a1:Int×Int):Option (List (Int×Int)×Bool):=(MT a0).bind fun x0=>bif(!x0)then some (([]:List (Int×Int)),false)else(Ee (a1.1,a1.2)).bind fun x1=>bif(!x1)then some (([]:List (Int×Int)),false)else(Ad (fun(s:(Int×Int)×Tq2×Tq2×Int×Int)=>GK s.1 s.2.1 s.2.2.1 s.2.2.2.1 s.2.2.2.2) ((a1.1,a1.2),([]:List (Int×Int)),a0,(a0.length:Int),(0:Int))).bind fun x2=>(K7 x2).bind fun x3=>bif(!x3)then some (([]:List (Int×Int)),false)else some (x2,true)
def iY:OKE:=fq WP (fun x=>Mf x.1 x.2) [cM,NW,YU] Tryz.func105
def HR (a0:Tq2):Option Bool:=(MT a0).bind fun x0=>some (!x0)
def YS:OKE:=fq PC (fun x=>HR x) [cM] Tryz.func87
def AZ (s0:List Tq2) (s1 s2:Int):Option (List Tq2×Int×Int⊕(Unit⊕Int)):=bif decide (s2<s1)then(AA s0 s2).bind fun x0=>(HR x0).bind fun x1=>bif x1 then some (zb (zb s2))else some (zy (s0,s1,(zi zj (s2+1))))else some (zb (zy ()))
def Cz (a0:List Tq2):Option Int:=(Ad (fun(s:List Tq2×Int×Int)=>AZ s.1 s.2.1 s.2.2) (a0,(a0.length:Int),(0:Int))).bind fun x0=>Sum.elim (fun x1=>some (-(1:Int))) (fun x2=>some x2) x0
def IG:OKE:=fq Ek (fun x=>Cz x) [YS] Tryz.func150
def B2 (a0:List Tq2):Option Bool:=(Cz a0).bind fun x0=>some (decide (x0>=0))
def Hg:OKE:=fq DA (fun x=>B2 x) [IG] Tryz.func86
def Kk (a0:List Tq2):Option Bool:=(AE (a0.length:Int) 1 4).bind fun x0=>bif x0 then(B2 a0).bind fun x1=>some (!x1)else some false
def fU:OKE:=fq Tr (fun x=>Kk x) [Eg,Hg] Tryz.func20
def E7 (s0:Tq8) (s1:List Tq2) (s2 s3:Int) (s4:Tq2) (s5 s6:Int):Option (Tq8×List Tq2×Int×Int×Tq2×Int×Int⊕Tq8×List Tq2×Int×Int):=bif decide (s6<s5)then(AA s4 s6).bind fun x0=>(bif(s6==0)then some (zb (s0,(x0.1,x0.2),([77]:List UInt8),s1,s2,s3,s4,s5,s6))else some (zb (s0,(x0.1,x0.2),([76]:List UInt8),s1,s2,s3,s4,s5,s6))).bind fun x1=>Sum.elim (fun x2=>some x2) (fun x3=>(BU x3.2.1.1).bind fun x4=>(BU x3.2.1.2).bind fun x5=>(BV 16 1 x3.1 ([x3.2.2.1,x4,x5]:List (List UInt8))).bind fun x6=>some (zy (x6,x3.2.2.2.1,x3.2.2.2.2.1,x3.2.2.2.2.2.1,x3.2.2.2.2.2.2.1,x3.2.2.2.2.2.2.2.1,(zi zj (x3.2.2.2.2.2.2.2.2+1))))) x1 else some (zb (s0,s1,s2,s3))
def E6 (s0:Tq8) (s1:List Tq2) (s2 s3:Int):Option (Tq8×List Tq2×Int×Int⊕Tq8):=bif decide (s3<s2)then(AA s1 s3).bind fun x0=>(Ad (fun(s:Tq8×List Tq2×Int×Int×Tq2×Int×Int)=>E7 s.1 s.2.1 s.2.2.1 s.2.2.2.1 s.2.2.2.2.1 s.2.2.2.2.2.1 s.2.2.2.2.2.2) (s0,s1,s2,s3,x0,(x0.length:Int),(0:Int))).bind fun x1=>(BV 16 1 x1.1 ([([90]:List UInt8)]:List (List UInt8))).bind fun x2=>some (zy (x2,x1.2.1,x1.2.2.1,(zi zj (x1.2.2.2+1))))else some (zb s0)
def Ji (a0:List Tq2):Option Tq24:=(Kk a0).bind fun x0=>bif(!x0)then some (([]:List UInt8),false)else(Ad (fun(s:Tq8×List Tq2×Int×Int)=>E6 s.1 s.2.1 s.2.2.1 s.2.2.2) (([]:List (List UInt8)),a0,(a0.length:Int),(0:Int))).bind fun x1=>(F3 x1 ([32]:List UInt8)).bind fun x2=>bif decide ((x2.length:Int)>400)then some (([]:List UInt8),false)else some (x2,true)
def bY:OKE:=fq RA (fun x=>Ji x) [fU,Ik,PA] Tryz.func18
def CW (s0:Int×Int) (s1 s2:List Tq2) (s3 s4:Int):Option ((Int×Int)×List Tq2×List Tq2×Int×Int⊕(List Tq2⊕List UInt8×Bool)):=bif decide (s4<s3)then(AA s2 s4).bind fun x0=>(Mf x0 (s0.1,s0.2)).bind fun x1=>bif(!x1.2)then some (zb (zb (([]:List UInt8),false)))else(BV 24 1 s1 ([x1.1]:List Tq2)).bind fun x2=>some (zy ((s0.1,s0.2),x2,s2,s3,(zi zj (s4+1))))else some (zb (zy s1))
def HS (a0:List UInt8) (a1:Int×Int):Option Tq24:=(GO a0).bind fun x0=>bif(!x0.2.2.2)then some (([]:List UInt8),false)else(Ee (a1.1,a1.2)).bind fun x1=>bif(!x1)then some (([]:List UInt8),false)else(Ad (fun(s:(Int×Int)×List Tq2×List Tq2×Int×Int)=>CW s.1 s.2.1 s.2.2.1 s.2.2.2.1 s.2.2.2.2) ((a1.1,a1.2),([]:List Tq2),x0.1,(x0.1.length:Int),(0:Int))).bind fun x2=>Sum.elim (fun x3=>(Ji x3).bind fun x4=>some (x4.1,x4.2)) (fun x5=>some (x5.1,x5.2)) x2
def Tb:OKE:=fq Ts (fun x=>HS x.1 x.2) [Rx,NW,iY,bY] Tryz.func33
def Dg (s0:Tq6) (s1 s2:Tq8) (s3 s4:List Int) (s5 s6:List UInt8) (s7:Bool) (s8 s9:Int):Option (Tq6×Tq8×Tq8×List Int×List Int×List UInt8×List UInt8×Bool×Int×Int⊕(Tq6×Tq8×List Int×List Int×List UInt8×List UInt8×Bool⊕Bool)):=bif decide (s9<s8)then(AW s9 (List.length s1)).bind fun x0=>(AN s1 x0).bind fun x1=>(AW s9 (List.length s2)).bind fun x2=>(AN s2 x2).bind fun x3=>bif(!(x1==x3))then some (zb (zb false))else some (zy ((s0.1,s0.2.1,s0.2.2.1,s0.2.2.2),s1,s2,s3,s4,s5,s6,s7,s8,(zi zj (s9+1))))else some (zb (zy ((s0.1,s0.2.1,s0.2.2.1,s0.2.2.2),s1,s3,s4,s5,s6,s7)))
def Ec (s0:Tq6) (s1:List Int) (s2:Tq8) (s3:List Int) (s4:List UInt8) (s5 s6:Int):Option (Tq6×List Int×Tq8×List Int×List UInt8×Int×Int⊕(Tq6×List Int×List Int×List UInt8⊕Bool)):=bif decide (s6<s5)then(AW s6 (List.length s2)).bind fun x0=>(AN s2 x0).bind fun x1=>(HU x1).bind fun x2=>(HO x2.1).bind fun x3=>bif(!x2.2)then some (zb (zb false))else bif(!x3.2)then some (zb (zb false))else(Fx (zi zj (s6*s0.2.2.1)) (zi zj ((zi zj (s6+1))*s0.2.2.1)) (List.length s1)).bind fun x4=>(DZ x3.1 (List.drop x4.1 (List.take (x4.1+(x4.2-x4.1)) s1))).bind fun x5=>bif(!x5)then some (zb (zb false))else some (zy ((s0.1,s0.2.1,s0.2.2.1,s0.2.2.2),s1,s2,s3,s4,s5,(zi zj (s6+1))))else some (zb (zy ((s0.1,s0.2.1,s0.2.2.1,s0.2.2.2),s1,s3,s4)))
def JA (a0 a1:List Int):Option Bool:=bif decide ((zi zj ((a0.length:Int)+(a1.length:Int)))>1048576)then some true else(Hb a0).bind fun x0=>(Mc x0.1 (x0.2.1,x0.2.2.1,x0.2.2.2.1,x0.2.2.2.2)).bind fun x1=>(Ml x0.1 (x0.2.1,x0.2.2.1,x0.2.2.2.1,x0.2.2.2.2)).bind fun x2=>(Mi x0.1 (x0.2.1,x0.2.2.1,x0.2.2.2.1,x0.2.2.2.2)).bind fun x3=>(Mm x0.1 (x0.2.1,x0.2.2.1,x0.2.2.2.1,x0.2.2.2.2)).bind fun x4=>(BS x0.1 (x0.2.1,x0.2.2.1,x0.2.2.2.1,x0.2.2.2.2)).bind fun x5=>bif(!(x1.2==x2.2))then some false else bif(!(x1.1==x2.1))then some false else bif(!(x3.2==x4.2))then some false else bif((x3.1.length:Int) != (x4.1.length:Int))then some false else bif(!(x1.2==x5.2))then some false else bif(!(x3.2==x5.2))then some false else(Ad (fun(s:Tq6×Tq8×Tq8×List Int×List Int×List UInt8×List UInt8×Bool×Int×Int)=>Dg s.1 s.2.1 s.2.2.1 s.2.2.2.1 s.2.2.2.2.1 s.2.2.2.2.2.1 s.2.2.2.2.2.2.1 s.2.2.2.2.2.2.2.1 s.2.2.2.2.2.2.2.2.1 s.2.2.2.2.2.2.2.2.2) ((x0.2.1,x0.2.2.1,x0.2.2.2.1,x0.2.2.2.2),x3.1,x4.1,x5.1,a1,x0.1,x1.1,x1.2,(x3.1.length:Int),(0:Int))).bind fun x6=>Sum.elim (fun x7=>bif x7.2.2.2.2.2.2 then(E8 x7.2.2.2.2.2.1).bind fun x8=>bif(!x8.2.2.2)then some false else bif(x8.2.1 != x7.1.2.2.1)then some false else bif(x8.2.2.1 != x7.1.2.2.2)then some false else(DZ x8.1 x7.2.2.1).bind fun x9=>bif(!x9)then some false else bif((x7.2.1.length:Int) != x7.1.2.2.2)then some false else(Ad (fun(s:Tq6×List Int×Tq8×List Int×List UInt8×Int×Int)=>Ec s.1 s.2.1 s.2.2.1 s.2.2.2.1 s.2.2.2.2.1 s.2.2.2.2.2.1 s.2.2.2.2.2.2) ((x7.1.1,x7.1.2.1,x7.1.2.2.1,x7.1.2.2.2),x7.2.2.1,x7.2.1,x7.2.2.2.1,x7.2.2.2.2.1,(x7.2.1.length:Int),(0:Int))).bind fun x10=>Sum.elim (fun x11=>(H3 x11.2.2.1).bind fun x12=>(H3 x11.2.2.1).bind fun x13=>(HS x11.2.2.2 ((zi zj ((Int.tmod x12 5)-2)),(zi zj ((Int.tmod (zi zj (Int.tdiv x13 5)) 5)-2)))).bind fun x14=>bif x14.2 then(Ci ((zi zj (x11.1.1+(zi zj ((Int.tmod x12 5)-2)))),(zi zj (x11.1.2.1+(zi zj ((Int.tmod (zi zj (Int.tdiv x13 5)) 5)-2)))),x11.1.2.2.1,x11.1.2.2.2)).bind fun x15=>bif x15 then(BS x14.1 ((zi zj (x11.1.1+(zi zj ((Int.tmod x12 5)-2)))),(zi zj (x11.1.2.1+(zi zj ((Int.tmod (zi zj (Int.tdiv x13 5)) 5)-2)))),x11.1.2.2.1,x11.1.2.2.2)).bind fun x16=>bif x16.2 then(DZ x16.1 x11.2.1).bind fun x17=>bif(!x17)then some false else some true else some true else some true else some true) (fun x18=>some x18) x10 else some true) (fun x19=>some x19) x6
def iR:Ent:=⟨PL,fun x=>JA x.1 x.2⟩
def WD:TX:=⟨UY,R8,[],[4],[OX.E,Wu.E,Wz.E,Wx.E,WC.E,Ig.E,OW.E,Th.E,Td.E,S9.E,Tg.E,Tb.E,Ie.E],PL⟩
theorem jy(a0:List (Int))(a1:List (Int)):wtF WD Tryz.f11 (a0,a1)=JA a0 a1:=by kernel_rfl
theorem fT:Ch RR iR:=Q3 (X:=WD) ⟨uf,Vq,r8⟩ (Uc (by exact⟨⟨OX.k,rfl⟩,⟨⟨Wu.k,rfl⟩,⟨⟨Wz.k,rfl⟩,⟨⟨Wx.k,rfl⟩,⟨⟨WC.k,rfl⟩,⟨⟨Ig.k,rfl⟩,⟨⟨OW.k,rfl⟩,⟨⟨Th.k,rfl⟩,⟨⟨Td.k,rfl⟩,⟨⟨S9.k,rfl⟩,⟨⟨Tg.k,rfl⟩,⟨⟨Tb.k,rfl⟩,⟨⟨Ie.k,rfl⟩,trivial⟩⟩⟩⟩⟩⟩⟩⟩⟩⟩⟩⟩⟩)) (pq (by kernel_rfl)) ⟨Tryz.func11,rfl,by kernel_rfl,rfl⟩ (fun x=>by exact jy x.1 x.2)
end
open Go
section
variable {α β σ ρ:Type} {body:σ->Option (σ⊕ρ)}
theorem KR{l:List α}(st:Nat->β->σ)(step:β->α->β)(fin:β->ρ)(I:Nat->β->Prop)
  (hgo:∀k b a,l[k]? =some a->I k b->body (st k b)=some (.inl (st (k+1) (step b a)))/\I (k+1) (step b a))
  (hend:∀b,I l.length b->body (st l.length b)=some (.inr (fin b))) (b:β) (h0:I 0 b):
  Ad body (st 0 b)=some (fin (l.foldl step b))/\I l.length (l.foldl step b):=by
 have key:∀(n k:Nat)(b:β),k+n=l.length->I k b->Ad body (st k b)=some (fin ((l.drop k).foldl step b))/\I l.length ((l.drop k).foldl step b):=by
  intro n
  induction n with
  |zero=>
   intro k b hk hI;have:k=l.length:=by omega
   subst this;rw[List.drop_length];exact⟨Ak (hend b hI),hI⟩
  |succ n ih=>
   intro k b hk hI;have hlt:k<l.length:=by omega
   have hd:l.drop k=l[k]::l.drop (k+1):=za9 hlt;have he:l[k]? =some l[k]:=za1 hlt;obtain⟨h1,h2⟩:=hgo k b _ he hI;rw[hd,List.foldl_cons,AP h1];exact ih (k+1) _ (by omega) h2
 have:=key l.length 0 b (by omega) h0
 rwa[ze5]at this
def Eo(step:β->α->ρ⊕β):β->List α->ρ⊕β
 |b,[]=>.inr b
 |b,a::l=>match step b a with|.inl r=>.inl r|.inr b'=>Eo step b' l
theorem bK{l:List α}(st:Nat->β->σ)(step:β->α->ρ⊕β)(fin:β->ρ)(I:Nat->β->Prop)
  (hgo:∀k b a,l[k]? =some a->I k b->(∃b',step b a=.inr b'/\body (st k b)=some (.inl (st (k+1) b'))/\I (k+1) b')\/∃r,step b a=.inl r/\body (st k b)=some (.inr r))
  (hend:∀b,I l.length b->body (st l.length b)=some (.inr (fin b))) (b:β) (h0:I 0 b):
  Ad body (st 0 b)=some (Sum.elim id fin (Eo step b l))/\∀b',Eo step b l=.inr b'->I l.length b':=by
 have key:∀(n k:Nat)(b:β),k+n=l.length->I k b->Ad body (st k b)=some (Sum.elim id fin (Eo step b (l.drop k)))/\∀b',Eo step b (l.drop k)=.inr b'->I l.length b':=by
  intro n
  induction n with
  |zero=>
   intro k b hk hI;have:k=l.length:=by omega
   subst this;rw[List.drop_length];exact⟨Ak (hend b hI),fun b' h=>by cases h;exact hI⟩
  |succ n ih=>
   intro k b hk hI;have hlt:k<l.length:=by omega
   have hd:l.drop k=l[k]::l.drop (k+1):=za9 hlt;have he:l[k]? =some l[k]:=za1 hlt;rw[hd];unfold Eo;rcases hgo k b _ he hI with⟨b',h1,h2,h3⟩|⟨r,h1,h2⟩
   ·rw[h1,AP h2];exact ih (k+1) _ (by omega) h3
   ·rw[h1];exact⟨Ak h2,fun b' h=>by cases h⟩
 have:=key l.length 0 b (by omega) h0
 rwa[ze5]at this
theorem KP(st:Nat->β->σ)(fin:β->ρ)(I:Nat->β->Prop)
  (hgo:∀n b,I (n+1) b->∃b',body (st (n+1) b)=some (.inl (st n b'))/\I n b')
  (hend:∀b,I 0 b->body (st 0 b)=some (.inr (fin b))):∀n b,I n b->∃b',Ad body (st n b)=some (fin b')/\I 0 b':=by
 intro n
 induction n with
 |zero=>intro b h;exact⟨b,Ak (hend b h),h⟩
 |succ n ih=>
  intro b h;obtain⟨b1,h1,h2⟩:=hgo n b h;obtain⟨b2,h3,h4⟩:=ih b1 h2;exact⟨b2,by rw[AP h1,h3],h4⟩
end
theorem Bw{β σ ρ:Type}{body:σ->Option (σ⊕ρ)}(st:Nat->β->σ)(fin:β->ρ)(I:Nat->β->Prop)(e:Nat)
  (hgo:∀k b,k<e->I k b->∃b',body (st k b)=some (.inl (st (k+1) b'))/\I (k+1) b')
  (hend:∀b,I e b->body (st e b)=some (.inr (fin b))):∀k b,k<=e->I k b->∃b',Ad body (st k b)=some (fin b')/\I e b':=by
 have key:∀(n k:Nat)(b:β),k+n=e->I k b->∃b',Ad body (st k b)=some (fin b')/\I e b':=by
  intro n
  induction n with
  |zero=>
   intro k b hk hI;have:k=e:=by omega
   subst this;exact⟨b,Ak (hend b hI),hI⟩
  |succ n ih=>
   intro k b hk hI;obtain⟨b1,h1,h2⟩:=hgo k b (by omega) hI;obtain⟨b2,h3,h4⟩:=ih (k+1) b1 (by omega) h2;exact⟨b2,by rw[AP h1,h3],h4⟩
 intro k b hk hI;exact key (e-k) k b (by omega) hI
def I64(n:Int):Prop:= -9223372036854775808<=n/\n<=9223372036854775807
theorem bT{n:Int}(h1:0<=n:=by omega)(h2:n<18446744073709551616:=by omega):zi zk n=n:=by rw[IntKind.wrap_u64];omega
theorem yj(n:Int):0<=zi zk n/\zi zk n<18446744073709551616:=by rw[IntKind.wrap_u64];omega
def ED{α:Type}(l:List α):Prop:=l.length<1099511627776
theorem Dd{α:Type}{l:List α}{k:Nat}{a:α}(h:l[k]? =some a):k<l.length:=(za4.1 h).1
structure Cur (B:Nat) (c:List Int×Int×Int):Prop where
 bytes:∀b∈c.1,0<=b/\b<=255
 short:c.1.length<=1048576
 lo:0<=c.2.1
 hi:c.2.1<=(B:Int)
 seed0:0<=c.2.2
 seed1:c.2.2<18446744073709551616
theorem Cur.start{l:List Int}(h:∀b∈l,0<=b/\b<=255)(hl:l.length<=1048576):Cur 0 (l,0,0):=⟨h,hl,by simp,by simp,by simp,by simp⟩
theorem Cur.mono{B B':Nat}{c:List Int×Int×Int}(h:Cur B c)(hb:B<=B'):Cur B' c:=⟨h.bytes,h.short,h.lo,by have:=h.hi;omega,h.seed0,h.seed1⟩
theorem obs{α β:Type}(a:α)(f:α->Option β):(some a).bind f=f a:=(rfl)
theorem cT{α:Type}(a b:α):(bif true then a else b)=a:=(rfl)
theorem cF{α:Type}(a b:α):(bif false then a else b)=b:=(rfl)
theorem nT:(!true)=false:=(rfl)
theorem nF:(!false)=true:=(rfl)
theorem AR{α β:Type}(p:α×β):(p.1,p.2)=p:=by cases p;rfl
theorem sEl{α β γ:Type}(f:α->γ)(g:β->γ)(x:α):Sum.elim f g (.inl x)=f x:=(rfl)
theorem sEr{α β γ:Type}(f:α->γ)(g:β->γ)(x:β):Sum.elim f g (.inr x)=g x:=(rfl)
theorem Ae7(a:Int):0<=uE .u64 a 255/\uE .u64 a 255<=255:=by
 unfold uE;have h:((BitVec.ofInt (IntKind.bits .u64) a&&& BitVec.ofInt (IntKind.bits .u64) 255).toNat)<=255:=by
  rw[BitVec.toNat_and];exact zf2 Nat.and_le_right (by decide)
 rw[bT];omega
theorem pV{B:Nat}{c:List Int×Int×Int}(h:Cur B c)(hB:B<=1125899906842624):∃c' v,FY c=some (c',v)/\Cur (B+1) c'/\0<=v/\v<=255:=by
 obtain⟨l,i,s⟩:=c;obtain⟨h1,h2,h3,h4,h5,h6⟩:=h;simp only at h1 h2 h3 h4 h5 h6;have w1:zi zj (i+1)=i+1:=Ae (by omega) (by omega);have hcur:∀x:Int,Cur (B+1) (l,i+1,zi zk x):=fun x=>⟨h1,h2,by simp only;omega,by simp only;omega,(yj x).1,(yj x).2⟩
 unfold FY;by_cases hi:i<(l.length:Int)
 ·obtain⟨a,ha,hm⟩:=Yt h3 hi;have hb:=h1 a (za3 hm);have hd:decide (i<(l.length:Int))=true:=by simpa using hi
  have hd2:decide (i+1<=(l.length:Int))=true:=by simp;omega
  simp only[hd,cond_true,ha,za0,za6,w1,hd2,Ae (show-9223372036854775808<=a by omega) (show a<=9223372036854775807 by omega)];exact⟨_,_,rfl,hcur _,hb.1,hb.2⟩
 ·have hd:decide (i<(l.length:Int))=false:=by simpa using hi
  have hd2:decide (i+1<=(l.length:Int))=false:=by simp;omega
  simp only[hd,cond_false,za0,za6,w1,hd2];refine⟨_,_,rfl,hcur _,?_⟩;have:=Ae7 (oM .u64 (zi zk (zi zk (zi zk (s*6364136223846793005)+zi zk 0)+1442695040888963407)) 40);rw[Ae];exact this
theorem UU{a n:Int}(h0:0<=a:=by omega)(hn:1<n:=by omega):0<=a.tmod n/\a.tmod n<n:=by
 rw[zc6 h0];exact⟨Int.emod_nonneg _ (by omega),Int.emod_lt_of_pos _ (by omega)⟩
theorem Bi{B:Nat}{c:List Int×Int×Int}(h:Cur B c)(hB:B<=1000000000000000)(n:Int):∃c' v,Ai c n=some (c',v)/\Cur (B+2) c'/\0<=v/\(1<=n->v<n):=by
 unfold Ai;by_cases h1:n<=1
 ·have hd:decide (n<=1)=true:=by simpa using h1
  simp only[hd,cond_true];exact⟨_,_,rfl,h.mono (by omega),by omega,by omega⟩
 ·have hd:decide (n<=1)=false:=by simpa using h1
  have hz:(n==0)=false:=by simp;omega
  obtain⟨c1,v1,e1,q1,b1,b2⟩:=pV h (by omega);simp only[hd,cond_false,e1,za0,hz];by_cases h2:n>200
  ·obtain⟨c2,v2,e2,q2,b3,b4⟩:=pV q1 (by omega);have hd2:decide (n>200)=true:=by simpa using h2
   simp only[hd2,cond_true,e2,za0];refine⟨_,_,rfl,q2.mono (by omega),?_⟩;rw[Ae (by rw[Ae (by omega) (by omega)];omega) (by rw[Ae (by omega) (by omega)];omega),Ae];have:=UU (a:=v1*256+v2) (n:=n) (by omega) (by omega);exact⟨this.1,fun _=>this.2⟩
  ·have hd2:decide (n>200)=false:=by simpa using h2
   simp only[hd2,cond_false];have:=UU (a:=v1) (n:=n) (by omega) (by omega);exact⟨_,_,rfl,q1.mono (by omega),this.1,fun _=>this.2⟩
theorem OL{B:Nat}{c:List Int×Int×Int}(h:Cur B c)(hB:B<=1000000000000000)(n:Int):∃c' v,AU c n=some (c',v)/\Cur (B+2) c':=by
 unfold AU;obtain⟨c1,v1,e1,q1,_⟩:=Bi h hB n;simp only[e1,za0];exact⟨_,_,rfl,q1⟩
theorem ZC{B:Nat}{c:List Int×Int×Int}(h:Cur B c)(hB:B<=1000000000000000)(l:List Int)(h1:1<=l.length)(h2:l.length<1000000):∃c' v,DN c l=some (c',v)/\Cur (B+2) c'/\v∈l:=by
 unfold DN;obtain⟨c1,v1,e1,q1,b1,b2⟩:=Bi h hB (l.length:Int);have:=b2 (by omega);obtain⟨a,ha,hm⟩:=Yt b1 this;simp only[e1,za0,ha];exact⟨_,_,rfl,q1,za3 hm⟩
structure GP (p:Int×Int):Prop where
 a: -1000<=p.1
 b:p.1<=1001
 c: -2<=p.2
 d:p.2<=8
theorem Ab7{B:Nat}{c:List Int×Int×Int}(h:Cur B c)(hB:B<=100000000000000):∃c' v,Ib c=some (c',v)/\Cur (B+8) c'/\GP v:=by
 unfold Ib;obtain⟨c1,v1,e1,q1⟩:=OL h (by omega) 40;simp only[e1,za0];cases v1
 ·obtain⟨c2,v2,e2,q2,a2,b2⟩:=Bi q1 (by omega) 9;obtain⟨c3,v3,e3,q3,a3,b3⟩:=Bi q2 (by omega) 9;simp only[cond_false,e2,e3,za0];have b2:=b2 (by omega);have b3:=b3 (by omega);refine⟨_,_,rfl,q3.mono (by omega),?_⟩;rw[Ae,Ae];constructor<;>simp only<;>omega
 ·obtain⟨c2,v2,e2,q2,m2⟩:=ZC q1 (by omega) [-(1000:Int),1000,1001] (by simp) (by simp);obtain⟨c3,v3,e3,q3,a3,b3⟩:=Bi q2 (by omega) 5;simp only[cond_true,e2,e3,za0];have b3:=b3 (by omega);refine⟨_,_,rfl,q3.mono (by omega),?_⟩;simp at m2;constructor<;>simp only<;>omega
structure GW (l:List (Int×Int)):Prop where
 pts:∀p∈l,GP p
 lo:3<=l.length
 hi:l.length<=13
theorem pF{l:List (Int×Int)}{p:Int×Int}(h:∀q∈l,GP q)(hp:GP p):∀q∈l++[p],GP q:=by
 intro q hq;rcases zb0.1 hq with h1|h1
 ·exact h q h1
 ·cases zd0.1 h1;exact hp
theorem Ak8{B:Nat}{c:List Int×Int×Int}(h:Cur B c)(hB:B<=10000000000000):∃c' l,Jl c=some (c',l)/\Cur (B+500) c'/\GW l:=by
 unfold Jl;obtain⟨c0,v0,e0,q0,a0,b0⟩:=Bi h (by omega) 4;simp only[e0,za0];by_cases h0:v0=0
 ·have:(v0==0)=true:=by simp[h0]
  obtain⟨c1,v1,e1,q1,a1,b1⟩:=Bi q0 (by omega) 6;obtain⟨c2,v2,e2,q2,a2,b2⟩:=Bi q1 (by omega) 2;obtain⟨c3,v3,e3,q3,a3,b3⟩:=Bi q2 (by omega) 3;obtain⟨c4,v4,e4,q4,a4,b4⟩:=Bi q3 (by omega) 5;obtain⟨c5,v5,e5,q5,a5,b5⟩:=Bi q4 (by omega) 2;obtain⟨c6,v6,e6,q6,a6,b6⟩:=Bi q5 (by omega) 5;have b1:=b1 (by omega);have b2:=b2 (by omega);have b3:=b3 (by omega);have b4:=b4 (by omega);have b5:=b5 (by omega);have b6:=b6 (by omega);simp only[this,cond_true,e1,e2,e3,e4,e5,e6,za0];rw[Ae,Ae,Ae,Ae];refine⟨_,_,rfl,q6.mono (by omega),?_,by simp,by simp⟩;intro p hp;simp only[zc1,List.not_mem_nil,or_false]at hp
  rcases hp with rfl|rfl|rfl|rfl<;>constructor<;>simp only<;>omega
 ·have t0:(v0==0)=false:=by simp[h0]
  by_cases h1:v0=1
  ·have t1:(v0==1)=true:=by simp[h1]
   obtain⟨c1,v1,e1,q1,a1,b1⟩:=Bi q0 (by omega) 4;obtain⟨c2,v2,e2,q2,a2,b2⟩:=Bi q1 (by omega) 4;have b1:=b1 (by omega);have b2:=b2 (by omega);simp only[t0,t1,cond_true,cond_false,e1,e2,za0];rw[Ae,Ae];refine⟨_,_,rfl,q2.mono (by omega),?_,by simp,by simp⟩;intro p hp;simp only[zc1,List.not_mem_nil,or_false]at hp;rcases hp with rfl|rfl|rfl|rfl|rfl|rfl|rfl|rfl<;>constructor<;>simp only<;>omega
  ·have t1:(v0==1)=false:=by simp[h1]
   obtain⟨c1,v1,e1,q1,a1,b1⟩:=Bi q0 (by omega) 4;have b1:=b1 (by omega);obtain⟨n,hn,hn1⟩:∃n:Nat,(3+v1:Int)=(n:Int)/\3<=n/\n<=6:=⟨(3+v1).toNat,by omega,by omega⟩;simp only[t0,t1,cond_true,cond_false,e1,za0];rw[Ae,hn];obtain⟨⟨c2,l2⟩,e2,q2,g2,n2⟩:=KP (body:=fun(s:(List Int×Int×Int)×(List (Int×Int))×Int)=>G7 s.1 s.2.1 s.2.2)
    (st:=fun k (b:(List Int×Int×Int)×List (Int×Int))=>(b.1,b.2,(k:Int))) (fin:=fun b=>b) (I:=fun k b=>Cur (B+100-8*k) b.1/\(∀p∈b.2,GP p)/\b.2.length+k=n)
    (by
     rintro k ⟨c,l⟩ ⟨i1,i2,i3⟩;obtain⟨c',v,e,q,g⟩:=Ab7 i1 (by omega);unfold G7;have:decide (((k+1:Nat):Int)>0)=true:=zp (by omega);simp only at i3;simp only[this,cond_true,e,za0,Bu (l:=l) (m:=[(v.1,v.2)]) (b:=16) (s:=2) (by simp[Aa];omega) (by simp[Aa];omega)];rw[Ae,show((k+1:Nat):Int)-1=(k:Int) by omega];exact⟨(c',l++[(v.1,v.2)]),rfl,q.mono (by omega),pF i2 g,by simp;omega⟩)
    (by
     rintro⟨c,l⟩ ⟨i1,i2,i3⟩;unfold G7;rfl) n (c1,[]) ⟨q1.mono (by omega),by simp,by simp⟩
   obtain⟨c3,v3,e3,q3⟩:=OL q2 (by omega) 20;simp only at e2 n2 g2;simp only[e2,za0,e3];cases v3
   ·exact⟨_,_,rfl,q3.mono (by omega),g2,by omega,by omega⟩
   ·obtain⟨r,e4,q4,g4,n4,n5⟩:=GY (f:=fun(s:(List Int×Int×Int)×(List (Int×Int)))=>J0 s.1 s.2) (I:=fun s=>Cur (B+102+10*s.2.length) s.1/\(∀p∈s.2,GP p)/\3<=s.2.length/\s.2.length<=13)
     (R:=fun s=>Cur (B+400) s.1/\(∀p∈s.2,GP p)/\3<=s.2.length/\s.2.length<=13) (fun s=>20-s.2.length)
     (by
      rintro⟨c,l⟩ ⟨i1,i2,i3,i4⟩;unfold J0;simp only at i1 i2 i3 i4;obtain⟨c',v,e,q,a,b⟩:=Bi i1 (by omega) 2;have b:=b (by omega);simp only[e,za0];rw[Ae];by_cases hlt:(l.length:Int)<12+v
      ·have:decide ((l.length:Int)<12+v)=true:=by simpa using hlt
       obtain⟨c2,v2,e2,q2,g2⟩:=Ab7 q (by omega);simp only[this,cond_true,e2,za0,Bu (l:=l) (m:=[(v2.1,v2.2)]) (b:=16) (s:=2) (by simp[Aa];omega) (by simp[Aa];omega)];refine .inl ⟨_,rfl,⟨q2.mono (by simp;omega),pF i2 g2,by simp;omega,by simp;omega⟩,by simp;omega⟩
      ·have:decide ((l.length:Int)<12+v)=false:=by simpa using hlt
       simp only[this,cond_false];exact .inr ⟨_,rfl,q.mono (by omega),i2,i3,i4⟩) (c3,l2) ⟨q3.mono (by omega),g2,by simp only;omega,by simp only;omega⟩
    simp only[cond_true,e4,za0];exact⟨_,_,rfl,q4.mono (by omega),g4,n4,n5⟩
section
variable {α β:Type}
end
section
variable {α:Type}
end
abbrev P2:=Int×Int
def C7(a b c:Int):Bool:=decide (b<=a)&&decide (a<=c)
theorem Lr(a b c:Int):AE a b c=some (C7 a b c):=by
 unfold AE C7;by_cases h:a>=b<;>simp[h]
theorem S0(a b c:Int):BT a b c=some (C7 a b c):=by
 unfold BT C7;by_cases h:a>=b<;>simp[h]
theorem L2{a b c:Int}:C7 a b c=true↔b<=a/\a<=c:=by simp[C7]
def BE(p:P2):Bool:=C7 p.1 (-1000) 1000&&C7 p.2 (-1000) 1000
theorem Un(p:P2):Ee p=some (BE p):=by
 unfold Ee BE;simp only[Lr,za0];cases C7 p.1 (-1000) 1000<;>rfl
theorem lA(p:P2):He p=some (BE p):=by
 unfold He BE;simp only[S0,za0];cases C7 p.1 (-1000) 1000<;>rfl
theorem Sg{p:P2}:BE p=true↔ -1000<=p.1/\p.1<=1000/\ -1000<=p.2/\p.2<=1000:=by
 simp only[BE,za2,L2];omega
theorem OJ{k:Nat}{α:Type}{l:List α}{a:α}(h:l[k]? =some a):decide ((k:Int)<(l.length:Int))=true:=by have:=Dd h;simpa using this
theorem ac{α:Type}(l:List α):decide ((l.length:Int)<(l.length:Int))=false:=by simp
theorem kw{l:List P2}(hl:ED l):K7 l=some (l.all BE):=by
 unfold K7 Ck CZ;unfold ED at hl;have key:=Fc (body:=fun s:List (Int×Int)×Int×Int=>A6 s.1 s.2.1 s.2.2) (l:=l) (st:=fun k=>(l,(l.length:Int),(k:Int))) (p:=BE) (fin:=.inl ()) (bad:=fun k=>.inr (k:Int))
  (fun k a hk hp=>by
   have:=Dd hk;unfold A6 Kn;simp only[OJ hk,cond_true,Af,hk,za0,Un,hp,zf5,cond_false,Aw (show k<4611686018427387904 by omega)])
  (fun k a hk hp=>by
   unfold A6 Kn;simp only[OJ hk,cond_true,Af,hk,za0,Un,hp,Bool.not_false])
  (by unfold A6;simp only[ac,cond_false])
 cases hall:l.all BE with
 |true=>
  have h:=key.1 hall;rw[show((0:Nat):Int)=0 from rfl]at h;simp only[h,za0,zg0];rfl
 |false=>
  obtain⟨k,_,h⟩:=key.2 hall;rw[show((0:Nat):Int)=0 from rfl]at h;simp only[h,za0,za6];have:decide ((k:Int)>=0)=true:=by simp
  rw[this];rfl
theorem zP{l:List P2}(hl:ED l):QJ l=some (l.all BE):=by
 unfold QJ;unfold ED at hl;have key:=Fc (body:=fun s:List (Int×Int)×Int×Int=>Jv s.1 s.2.1 s.2.2) (l:=l) (st:=fun k=>(l,(l.length:Int),(k:Int))) (p:=BE) (fin:=.inl ()) (bad:=fun k=>.inr false)
  (fun k a hk hp=>by
   have:=Dd hk;unfold Jv;simp only[OJ hk,cond_true,Af,hk,za0,lA,hp,zf5,cond_false,Aw (show k<4611686018427387904 by omega)])
  (fun k a hk hp=>by
   unfold Jv;simp only[OJ hk,cond_true,Af,hk,za0,lA,hp,Bool.not_false])
  (by unfold Jv;simp only[ac,cond_false])
 cases hall:l.all BE with
 |true=>
  have h:=key.1 hall;rw[show((0:Nat):Int)=0 from rfl]at h;simp only[h,za0,zg0]
 |false=>
  obtain⟨k,_,h⟩:=key.2 hall;rw[show((0:Nat):Int)=0 from rfl]at h;simp only[h,za0,za6]
section
variable {a b c d p:P2} (ha:BE a=true) (hb:BE b=true) (hc:BE c=true) (hd:BE d=true) (hp:BE p=true)
include ha hb hc
end
def Fe(l:List P2):Bool:=(decide (3<=l.length)&&decide (l.length<=12))&&l.all BE
theorem Gz{l:List P2}:Fe l=true↔(3<=l.length/\l.length<=12)/\∀p∈l,BE p=true:=by
 simp[Fe,za5,and_assoc]
theorem bS(l:List P2):C7 (l.length:Int) 3 12=(decide (3<=l.length)&&decide (l.length<=12)):=by
 unfold C7
 congr 1<;>rw[decide_eq_decide]<;>omega
theorem gM{l:List P2}(h:ED l):MT l=some (Fe l):=by
 unfold MT Fe;simp only[Lr,za0,kw h,bS];cases(decide (3<=l.length)&&decide (l.length<=12))<;>rfl
theorem iE{l:List P2}(h:ED l):MZ l=some (Fe l):=by
 unfold MZ Fe;simp only[S0,za0,zP h,bS];cases(decide (3<=l.length)&&decide (l.length<=12))<;>rfl
section
open Go
variable {α β γ:Type}
theorem AK{s t:Str}(h:s.length+t.length<=9223372036854775807):Ds s t=some (s++t):=by unfold Ds;rw[zr h]
end
def D7(b:UInt8):Bool:=decide (48<=b.toNat)&&decide (b.toNat<=57)
theorem Gy{b:UInt8}:D7 b=true↔48<=b.toNat/\b.toNat<=57:=by simp[D7]
def L6(n:Nat)(l:Str):Nat:=l.foldl (fun a b=>a*10+(b.toNat-48)) n
theorem fN(n:Nat)(l:Str)(b:UInt8):L6 n (l++[b])=L6 n l*10+(b.toNat-48):=by unfold L6;simp
def YL(l:Str):Prop:=(∀b∈l,D7 b=true)/\l≠[]/\¬(l.head?=some 48/\1<l.length)
theorem Ad7{b:UInt8}(h:48<=b.toNat):UInt8.ofNat (48+(b.toNat-48))=b:=by
 rw[show 48+(b.toNat-48)=b.toNat by omega];exact UInt8.ofNat_toNat
theorem kF{n:Nat}(h:n<10):D7 (UInt8.ofNat (48+n))=true/\(UInt8.ofNat (48+n)).toNat=48+n:=by
 have:(UInt8.ofNat (48+n)).toNat=48+n:=by rw[UInt8.toNat_ofNat'];omega
 exact⟨Gy.2 (by omega),this⟩
theorem iM{b:UInt8}:b=48↔b.toNat=48:=by
 constructor
 ·rintro rfl;rfl
 ·intro h;have:b.toNat=(48:UInt8).toNat:=h;exact UInt8.toNat_inj.1 this
theorem mj:∀(l:Str)(n:Nat),1<=n->1<=L6 n l
 |[],n,h=>h
 |b::l,n,h=>by
  unfold L6;rw[List.foldl_cons];exact mj l _ (by omega)
theorem rL{b:UInt8}{l:Str}(hb:D7 b=true)(h:b≠48):1<=L6 0 (b::l):=by
 unfold L6;rw[List.foldl_cons];refine mj l _ ?_;have:=Gy.1 hb;have h2:b.toNat≠48:=fun h2=>h (iM.2 h2)
 omega
theorem dX:∀(n:Nat)(l:Str),l.length=n->YL l->Lib.decDigits (L6 0 l)=l
 |0,l,hn,h=>absurd (zb2 hn) h.2.1
 |n+1,l,hn,h=>by
  obtain⟨e,b,rfl⟩:∃e b,l=e++[b]:=⟨l.dropLast,l.getLast h.2.1,(List.dropLast_concat_getLast h.2.1).symm⟩;have hb:=Gy.1 (h.1 b (by simp));rw[fN];cases e with
  |nil=>
   show Lib.decDigits (0*10+(b.toNat-48))=[b];rw[Lib.decDigits_one (by omega),Nat.zero_mul,zf3,Ad7 hb.1]
  |cons c e=>
   have hc0:c≠48:=by
    rintro rfl;exact h.2.2 ⟨rfl,by simp⟩
   have hcd:D7 c=true:=h.1 c (by simp);have h1:=rL (l:=e) hcd hc0;rw[Lib.decDigits,dif_neg (by omega),show(L6 0 (c::e)*10+(b.toNat-48))/10=L6 0 (c::e) by omega,show(L6 0 (c::e)*10+(b.toNat-48))%10=b.toNat-48 by omega,Ad7 hb.1,dX n (c::e) (by simpa using hn) ⟨fun x hx=>h.1 x (by simp at hx⊢;rcases hx with rfl|hx<;>simp_all),by simp,fun hh=>hc0 (zv hh.1)⟩]
theorem Gu(u:Nat):YL (Lib.decDigits u)/\L6 0 (Lib.decDigits u)=u/\(1<=u->(Lib.decDigits u).head?≠some 48):=by
 induction u using Nat.strongRecOn with
 |ind u ih=>
  by_cases h:u<10
  ·rw[Lib.decDigits_one h];obtain⟨h1,h2⟩:=kF h;refine⟨⟨fun b hb=>by cases zd0.1 hb;exact h1,by simp,fun hh=>by simp at hh⟩,?_,fun hu=> ?_⟩
   ·show 0*10+((UInt8.ofNat (48+u)).toNat-48)=u;rw[h2];omega
   ·intro hh;have:=iM.1 (zv hh);omega
  ·obtain⟨⟨c1,c2,c3⟩,h2,h3⟩:=ih (u/10) (by omega);obtain⟨g1,g2⟩:=kF (n:=u%10) (by omega);have hh:(Lib.decDigits (u/10)++[UInt8.ofNat (48+u%10)]).head?≠some 48:=by
    rw[List.head?_append];cases hz:Lib.decDigits (u/10)with
    |nil=>exact absurd hz c2
    |cons a t=>rw[hz]at h3;exact h3 (by omega)
   rw[Lib.decDigits,dif_neg h];refine⟨⟨fun b hb=> ?_,by simp,fun h=>hh h.1⟩,?_,fun _=>hh⟩
   ·rcases zb0.1 hb with hb|hb
    ·exact c1 b hb
    ·cases zd0.1 hb;exact g1
   ·rw[fN,h2,g2];omega
theorem gB{u:Nat}{t:Str}:Lib.decDigits u≠45::t:=by
 intro h;have:=(Gu u).1.1 45 (by rw[h];simp);simp[D7]at this
theorem Ua{u:Nat}:(Lib.decDigits u).length<=4↔u<=9999:=by
 rw[Lib.decDigits_length];have h1:=Lib.lt_pow_nDigits u;constructor
 ·intro h;have:10^Lib.nDigits u<=10^4:=Nat.pow_le_pow_right (by omega) h;omega
 ·intro h;by_cases h0:u<10
  ·rw[Lib.nDigits_small h0];omega
  by_cases h0:u<100
  ·rw[Lib.nDigits_unique 1 u (by omega) (by omega)];omega
  by_cases h0:u<1000
  ·rw[Lib.nDigits_unique 2 u (by omega) (by omega)];omega
  ·rw[Lib.nDigits_unique 3 u (by omega) (by omega)];omega
theorem aP:∀(l:Str)(acc:Nat),(∀b∈l,D7 b=true)->acc*10^l.length+10^l.length<=1000000000000000000->Lib.parseUint10 acc l=.ok (L6 acc l)
 |[],acc,_,_=>rfl
 |b::l,acc,h,hl=>by
  have hb:=Gy.1 (h b (by simp));have hp:1<=10^l.length:=Nat.one_le_pow _ _ (by omega);have e:(b::l).length=l.length+1:=rfl;rw[e,Nat.pow_succ]at hl;have h1:acc*(10^l.length*10)=(acc*10)*10^l.length:=by rw[Nat.mul_comm (10^l.length) 10,Nat.mul_assoc]
  rw[h1]at hl;have h2:acc*10<=(acc*10)*10^l.length:=Nat.le_mul_of_pos_right _ (by omega);have h3:(acc*10+(b.toNat-48))*10^l.length<=(acc*10)*10^l.length+9*10^l.length:=by
   rw[<-zf9];exact ze0 _ (by omega)
  rw[Lib.parseUint10,zr hb,zw (by omega),zw (by omega),aP l _ (fun x hx=>h x (ze4 _ hx)) (by omega)];rfl
theorem ri{b:UInt8}{n:Nat}(hd:D7 b=true)(h:n<48):b.toNat≠n:=by have:=Gy.1 hd;omega
theorem dP{v:Int}(h0: -9999<=v)(h1:v<=9999):Lib.atoiAll (Lib.itoa v)=.ok v:=by
 have key:∀u:Nat,u<=9999->Lib.parseMag (Lib.decDigits u)=.ok u:=by
  intro u hu;obtain⟨⟨c1,c2,_⟩,c4,_⟩:=Gu u;have h4:=Ua.2 hu;unfold Lib.parseMag;rw[zw c2,aP _ _ c1 (by
   have:10^(Lib.decDigits u).length<=10^4:=Nat.pow_le_pow_right (by omega) h4;omega),c4]
 unfold Lib.itoa;by_cases hv:v<0
 ·rw[zr hv];unfold Lib.atoiAll;simp only;rw[zr (Or.inr (by rfl)),key v.natAbs (by omega)];simp only;rw[zw (fun h=>h.1 rfl),zw (by omega),zr (by rfl)]
  congr 1;omega
 ·rw[zw hv];have hk:=key v.toNat (by omega);obtain⟨⟨c1,c2,_⟩,_⟩:=Gu v.toNat;cases hz:Lib.decDigits v.toNat with
  |nil=>exact absurd hz c2
  |cons b t=>
   rw[hz]at hk c1;have hb:=c1 b (by simp);unfold Lib.atoiAll;simp only;rw[zw (by
    rintro(h|h)
    ·exact ri hb (by omega) h
    ·exact ri hb (by omega) h),hk]
   simp only;rw[zw (by omega),zw (fun h=>ri hb (by omega) h.1),zw (ri hb (by omega))]
   congr 1;omega
theorem QA{p:UInt8->Bool}:∀{l:Str},∀b∈l.takeWhile p,p b=true
 |[],b,h=>by simp at h
 |a::l,b,h=>by
  rw[List.takeWhile_cons]at h;by_cases ha:p a=true
  ·rw[zr ha]at h;rcases zc1.1 h with rfl|h
   ·exact ha
   ·exact QA b h
  ·rw[zw ha]at h;exact absurd h List.not_mem_nil
def Gb(s:Str)(n k:Nat):Str:=((s.drop k).take n).takeWhile D7
theorem eb(s:Str)(k:Nat):Gb s 0 k=[]:=by simp[Gb]
theorem Z0{s:Str}{k:Nat}(n:Nat)(h:s.length<=k):Gb s n k=[]:=by simp[Gb,zd2 h]
theorem dZ{s:Str}{k n:Nat}{b:UInt8}(h:s[k]? =some b):Gb s (n+1) k=if D7 b then b::Gb s n (k+1)else []:=by
 have hlt:=Dd h;unfold Gb;rw[za9 hlt,List.take_succ_cons,List.takeWhile_cons];have:s[k]=b:=by rw[za1 hlt]at h;exact zv h
 rw[this]
theorem jZ(s:Str)(n k:Nat):(Gb s n k).length<=n:=by
 have h1:=(List.takeWhile_sublist D7 (l:=(s.drop k).take n)).length_le;have h2:=List.length_take_le n (s.drop k);unfold Gb;omega
theorem jY(s:Str)(n k:Nat):∀b∈Gb s n k,D7 b=true:=QA
theorem gC(s:Str):∀(n k i:Nat),i<(Gb s n k).length->s[k+i]? =(Gb s n k)[i]?
 |0,k,i,h=>by rw[eb]at h;simp at h
 |n+1,k,i,h=>by
  by_cases hk:k<s.length
  ·have e:=dZ (n:=n) (za1 hk);rw[e]at h⊢
   by_cases hd:D7 s[k]=true
   ·rw[zr hd]at h⊢
    cases i with
    |zero=>simp[hk]
    |succ i=>
     rw[show k+(i+1)=(k+1)+i by omega,gC s n (k+1) i (by simpa using h)];simp
   ·rw[zw hd]at h;simp at h
  ·rw[Z0 _ (by omega)]at h;simp at h
theorem z8(l:Str)(h:∀b∈l,D7 b=true):L6 0 l<10^l.length:=by
 have key:∀(l:Str)(n:Nat),(∀b∈l,D7 b=true)->L6 n l<(n+1)*10^l.length:=by
  intro l
  induction l with
  |nil=>intro n _;simp[L6]
  |cons b l ih=>
   intro n h;have hb:=Gy.1 (h b (by simp));have:=ih (n*10+(b.toNat-48)) (fun x hx=>h x (ze4 _ hx));have e:L6 n (b::l)=L6 (n*10+(b.toNat-48)) l:=rfl;rw[e,zb7,Nat.pow_succ,Nat.mul_comm (10^l.length) 10,<-Nat.mul_assoc];refine ze1 this (ze0 _ (by omega))
 have:=key l 0 h;simpa using this
theorem vX{s:Str}(hs:s.length<4611686018427387904){a:Nat}(ha:a<4611686018427387904):∀(m:Nat)(n k:Nat),k+m=a+4->a<=k->n<10^(k-a)->
  Ad (fun(t:Str×Int×Int×Int)=>DT t.1 t.2.1 t.2.2.1 t.2.2.2) (s,(a:Int),(n:Int),(k:Int))=some (s,(a:Int),((L6 n (Gb s m k):Nat):Int),((k+(Gb s m k).length:Nat):Int)):=by
 intro m
 induction m with
 |zero=>
  intro n k hk hak hn;rw[eb];refine Ak ?_;unfold DT;simp only;by_cases h1:(k:Int)<(s.length:Int)
  ·rw[zp h1,cT,Ae,zq,cF];rfl
  ·rw[zq h1,cF];rfl
 |succ m ih=>
  intro n k hk hak hn;by_cases h1:k<s.length
  ·have e:s[k]? =some s[k]:=za1 h1;generalize s[k]=b at e;rw[dZ e];have hb:=b.toNat_lt;by_cases hd:D7 b=true
   ·have hd':=Gy.1 hd;have hp:10^(k-a)<=10^3:=Nat.pow_le_pow_right (by omega) (by omega);rw[zr hd];have hgo:(fun(t:Str×Int×Int×Int)=>DT t.1 t.2.1 t.2.2.1 t.2.2.2) (s,(a:Int),(n:Int),(k:Int))=some (.inl (s,(a:Int),((n*10+(b.toNat-48):Nat):Int),((k+1:Nat):Int))):=by
     unfold DT;simp only;rw[zp,cT,Ae (n:=(a:Int)+4),zp,cT,Af,e,obs,zp,cT,obs,zp,cT,obs,Aw];have w1:zi .u8 (((b.toNat:Nat):Int)-48)=((b.toNat-48:Nat):Int):=by rw[IntKind.wrap_u8];omega
     rw[w1,Ae (n:=((b.toNat-48:Nat):Int)),Ae (n:=10*(n:Int)),Ae]
     congr 4
     have:(10:Int)*(n:Int)+((b.toNat-48:Nat):Int)=((n*10+(b.toNat-48):Nat):Int):=by push_cast;omega
     rw[this]
    rw[AP hgo,ih (n*10+(b.toNat-48)) (k+1) (by omega) (by omega) (by
     rw[show k+1-a=(k-a)+1 by omega,Nat.pow_succ];omega)]
    congr 4
    simp only[zb7]
    congr 1
    omega
   ·have hd':¬(48<=b.toNat/\b.toNat<=57):=fun h=>hd (Gy.2 h)
    rw[zw hd];refine Ak ?_;unfold DT;simp only;rw[zp,cT,Ae (n:=(a:Int)+4),zp,cT,Af,e,obs];by_cases c:48<=b.toNat
    ·rw[zp,cT,obs,zq,cF];rfl
    ·rw[zq,cF];rfl
  ·rw[Z0 _ (by omega)];refine Ak ?_;unfold DT;simp only;rw[zq,cF];rfl
def Ye(d:Str):Prop:=d=[]\/(d.head?=some 48/\1<d.length)
instance (d:Str):Decidable (Ye d):=by unfold Ye;infer_instance
def IM(s:Str)(a:Nat):Int×Int:=let d:=Gb s 4 a;if Ye d then(-1,(a:Int))else((L6 0 d:Nat),((a+d.length:Nat):Int))
theorem bp{s:Str}(hs:s.length<4611686018427387904){a:Nat}(ha:a<4611686018427387904):NN s (a:Int)=some (IM s a):=by
 unfold NN IM;have h:=vX hs ha 4 0 a rfl (za7 _) (by simp);have h':Ad (fun(t:Str×Int×Int×Int)=>DT t.1 t.2.1 t.2.2.1 t.2.2.2) (s,(a:Int),(0:Int),(a:Int))=_:=h;rw[h',obs];have hl:=jZ s 4 a;have h0:=gC s 4 a 0;cases hd:Gb s 4 a with
 |nil=>
  have hb0:Ye ([]:Str):=Or.inl rfl;simp only[hb0,if_true,zf0,Nat.add_zero,beq_self_eq_true,cond_true]
 |cons b t=>
  rw[hd]at hl h0;have hb:s[a]? =some b:=by
   have:=h0 (by simp);rw[Nat.add_zero]at this;rw[this];rfl
  have hlb:=Dd hb;simp only[zb7]at hl⊢
  rw[show(((a+(t.length+1):Nat):Int)==(a:Int))=false by simp;omega,cF,Af,hb,obs];by_cases c:b=48
  ·subst c;rw[show((((48:UInt8).toNat:Nat):Int)==48)=true from rfl,cT,Ae];by_cases c2:t.length=0
   ·have hn:¬Ye (48::t):=by
     rintro(h|⟨_,h⟩)
     ·cases h
     ·simp at h;omega
    rw[zq,cF,zw hn]
   ·rw[zp,cT,zr (show Ye (48::t)from Or.inr ⟨rfl,by simp;omega⟩)]
  ·have c':¬b.toNat=48:=fun h=>c (iM.2 h)
   have hn:¬Ye (b::t):=by
    rintro(h|⟨h,_⟩)
    ·cases h
    ·exact c (zv h)
   rw[show((((b.toNat:Nat):Int))==48)=false by simp;omega,cF,zw hn]
theorem Jm{n:Nat}(h:n<18446744073709551616):(Lib.decDigits n).length<=20:=by rw[Lib.decDigits_length];exact Lib.nDigits_le20 n h
theorem OF{n:Int}(h0: -9223372036854775808<=n:=by omega)(h1:n<=9223372036854775807:=by omega):BU n=some (Lib.itoa n):=by
 unfold BU YO;rw[zr ⟨h0,h1⟩]
theorem JU{n:Int}(h:0<=n:=by omega):Lib.itoa n=Lib.decDigits n.toNat:=by unfold Lib.itoa;rw[zw (by omega)]
theorem BJ{n:Int}(h0: -9223372036854775808<=n:=by omega)(h1:n<9223372036854775808:=by omega):(Lib.itoa n).length<=21:=by
 unfold Lib.itoa;split
 ·have:=Jm (n:=n.natAbs) (by omega);simp;omega
 ·have:=Jm (n:=n.toNat) (by omega);omega
def Qu(s:Str):Int×Bool:=match Lib.atoiAll s with|.ok v=>if-9999<=v/\v<=9999/\Lib.itoa v=s then(v,true)else(0,false)|_=>(0,false)
theorem lf{v:Int}(h: -9999<=v/\v<=9999):Qu (Lib.itoa v)=(v,true):=by
 unfold Qu;rw[dP h.1 h.2];simp only;rw[zr ⟨h.1,h.2,trivial⟩]
theorem MC(s:Str):(∃v:Int,-9999<=v/\v<=9999/\s=Lib.itoa v/\Qu s=(v,true))\/(Qu s=(0,false)/\∀v:Int,-9999<=v->v<=9999->s≠Lib.itoa v):=by
 by_cases h:∃v:Int,-9999<=v/\v<=9999/\s=Lib.itoa v
 ·obtain⟨v,h0,h1,rfl⟩:=h;exact .inl ⟨v,h0,h1,rfl,lf ⟨h0,h1⟩⟩
 ·refine .inr ⟨?_,fun v h0 h1 h2=>h ⟨v,h0,h1,h2⟩⟩;unfold Qu;split
  ·rw[zw];rintro⟨h0,h1,h2⟩;exact h ⟨_,h0,h1,h2.symm⟩
  ·rfl
theorem yQ(n:Int):Kp n=some (decide (-9999<=n/\n<=9999)):=by
 unfold Kp AE;by_cases h:n>= -9999
 ·rw[zp h,cT,obs];congr 1;simp;omega
 ·rw[zq h,cF,obs];congr 1;simp;omega
theorem gJ{s:Str}(hs:s.length<=281474976710656):HT s=some (Qu s):=by
 unfold HT EC U4 Qu J9;rw[zr hs,obs];cases hz:Lib.atoiAll s with
 |ok v=>
  simp only[cF,yQ,obs];by_cases h: -9999<=v/\v<=9999
  ·rw[zp h,nT,cF,OF,obs];by_cases h2:Lib.itoa v=s
   ·rw[zr ⟨h.1,h.2,h2⟩,h2,beq_self_eq_true,nT,cF]
   ·rw[zw (fun hh=>h2 hh.2.2),beq_eq_false_iff_ne.2 h2,nF,cT]
  ·rw[zq h,nF,cT,zw (fun hh=>h ⟨hh.1,hh.2.1⟩)]
 |range=>rfl
 |_=>rfl
theorem m6{d t:Str}{n:Nat}(h:YL d)(hn:d.length<=n)(hb:∀b,t.head?=some b->D7 b=false):Gb (d++t) n 0=d:=by
 unfold Gb;rw[ze5];have key:∀(d:Str)(n:Nat),(∀b∈d,D7 b=true)->d.length<=n->((d++t).take n).takeWhile D7=d:=by
  intro d
  induction d with
  |nil=>
   intro n _ _;cases n with
   |zero=>simp
   |succ n=>
    cases t with
    |nil=>simp
    |cons b t=>simp[hb b rfl]
  |cons b d ih=>
   intro n hd hn;cases n with
   |zero=>simp at hn
   |succ n=>
    rw[ze8,List.take_succ_cons,List.takeWhile_cons,zr (hd b (by simp)),ih n (fun x hx=>hd x (ze4 _ hx)) (by simpa using hn)]
 exact key d n h.1 hn
theorem m7{d:Str}(h:YL d):¬Ye d:=by
 rintro(h1|h1)
 ·exact h.2.1 h1
 ·exact h.2.2 h1
theorem nB{s:Str}{n k:Nat}(h:¬Ye (Gb s n k)):YL (Gb s n k):=⟨jY s n k,fun h1=>h (.inl h1),fun h1=>h (.inr h1)⟩
theorem VK(u:Nat)(hu:u<=9999):IM (Lib.decDigits u) 0=((u:Int),((Lib.decDigits u).length:Int)):=by
 obtain⟨h1,h2,_⟩:=Gu u;have hd:=m6 (t:=[]) h1 (Ua.2 hu) (by simp);rw[zf1]at hd;unfold IM;simp only[hd,zw (m7 h1),h2,zf3]
theorem XH(t:Str):(∃u:Nat,u<=9999/\t=Lib.decDigits u)\/((IM t 0).1<0\/(IM t 0).2<(t.length:Int)):=by
 by_cases hb:Ye (Gb t 4 0)
 ·right;left
  unfold IM;simp only[zr hb];omega
 ·have hc:=nB hb;have hl:=jZ t 4 0;by_cases hh:(Gb t 4 0).length<t.length
  ·right;right
   unfold IM;simp only[zw hb,zf3];omega
  ·left
   have he:Gb t 4 0=t:=by
    have h1:(Gb t 4 0).length<=t.length:=by
     have:=(List.takeWhile_sublist D7 (l:=(t.drop 0).take 4)).length_le;have h2:=List.length_take_le' 4 (t.drop 0);unfold Gb;simp only[ze5]at this h2⊢
     omega
    refine List.ext_getElem (by omega) fun i h2 h3=> ?_
    have:=gC t 4 0 i h2;rw[zf3,za1 h3,za1 h2]at this;exact(zv this).symm
   refine⟨L6 0 (Gb t 4 0),?_,?_⟩
   ·have:=z8 _ (jY t 4 0);have h2:10^(Gb t 4 0).length<=10^4:=Nat.pow_le_pow_right (by omega) hl;omega
   ·rw[dX _ _ rfl hc,he]
theorem As2{s:Str}{b:UInt8}:(Fx (1:Int) (((b::s).length:Nat):Int) (b::s).length)=some (1,(b::s).length):=by
 unfold Fx;rw[zr (by simp only[zb7];omega)];simp
theorem iw{s:Str}(hs:s.length<4611686018427387904):H6 s=some (Qu s):=by
 unfold H6;cases s with
 |nil=>
  rw[show decide ((((([]:Str).length):Nat):Int)>0)=false from rfl,cF,obs];simp only[za6];rw[cF,obs];simp only[za6];rw[show((0:Int))=((0:Nat):Int)from rfl,bp hs (by omega),obs];rcases MC ([]:Str)with⟨v,h0,h1,h2,_⟩|⟨h,_⟩
  ·exfalso;unfold Lib.itoa at h2;split at h2
   ·cases h2
   ·exact(Gu _).1.2.1 h2.symm
  ·rw[h];have:IM ([]:Str) 0=(-1,0):=by
    unfold IM;simp only[Z0 4 (show([]:Str).length<=0 by simp)];rfl
   rw[this];rfl
 |cons b t=>
  rw[zp (show(((((b::t)).length:Nat):Int)>0) by simp only[zb7];omega),cT];have hg:AA (b::t) 0=some b:=rfl;rw[hg,obs,obs];simp only[za6];have hlt:t.length<4611686018427387904:=by simp only[zb7]at hs;omega
  by_cases hb:b.toNat=45
  ·have hb':b=45:=UInt8.toNat_inj.1 (show b.toNat=(45:UInt8).toNat from hb);subst hb';rw[show((((45:UInt8).toNat:Nat):Int)==45)=true from rfl,cT,As2,obs,obs];simp only[za6];rw[List.take_length,show List.drop 1 ((45:UInt8)::t)=t from rfl,show((0:Int))=((0:Nat):Int)from rfl,bp hlt (by omega),obs];rcases MC ((45:UInt8)::t)with⟨v,h0,h1,h2,h3⟩|⟨h3,h4⟩
   ·rw[h3];have hv:v<0:=by
     rcases Int.lt_or_le v 0 with h|h
     ·exact h
     ·unfold Lib.itoa at h2;rw[zw (by omega)]at h2;exact absurd h2.symm gB
    have ht:t=Lib.decDigits v.natAbs:=by
     unfold Lib.itoa at h2;rw[zr hv]at h2;exact(List.cons.inj h2).2
    rw[ht,VK _ (by omega)];simp only;rw[zq,cF,zq,cF,cT,show(((v.natAbs:Nat):Int)==((0:Nat):Int))=false by simp;omega,cF,obs];simp only[za6,cT];rw[Ae]
    congr 2;omega
   ·rw[h3];rcases XH t with⟨u,hu,rfl⟩|h
    ·rw[VK _ hu];simp only;rw[zq,cF,zq,cF,cT];by_cases hu0:u=0
     ·subst hu0;rw[show((((0:Nat):Int))==((0:Nat):Int))=true from rfl,cT,obs];rfl
     ·exfalso;refine h4 (-(u:Int)) (by omega) (by omega) ?_;unfold Lib.itoa;rw[zr (by omega),Int.natAbs_neg,zf4]
    ·by_cases hn:(IM t 0).1<0
     ·rw[zp (show(IM t 0).1<((0:Nat):Int)from hn),cT,obs];rfl
     ·have h:=h.resolve_left hn;rw[zq (show ¬(IM t 0).1<((0:Nat):Int)from hn),cF,zp h,cT,obs];rfl
  ·rw[show(((b.toNat:Nat):Int)==45)=false by simp;omega,cF,obs];simp only[za6];rw[show((0:Int))=((0:Nat):Int)from rfl,bp hs (by omega),obs];rcases MC (b::t)with⟨v,h0,h1,h2,h3⟩|⟨h3,h4⟩
   ·rw[h3];have hv:¬v<0:=by
     intro h;unfold Lib.itoa at h2;rw[zr h]at h2;exact hb (by rw[(List.cons.inj h2).1];rfl)
    have ht:b::t=Lib.decDigits v.toNat:=by
     unfold Lib.itoa at h2;rw[zw hv]at h2;exact h2
    rw[ht,VK _ (by omega)];simp only;rw[zq,cF,zq,cF,cF,obs];simp only[za6,cF]
    congr 2;omega
   ·rw[h3];rcases XH (b::t)with⟨u,hu,he⟩|h
    ·exfalso;refine h4 (u:Int) (by omega) (by omega) ?_;unfold Lib.itoa;rw[zw (by omega),zc2,he]
    ·by_cases hn:(IM (b::t) 0).1<0
     ·rw[zp (show(IM (b::t) 0).1<((0:Nat):Int)from hn),cT,obs];rfl
     ·have h:=h.resolve_left hn;rw[zq (show ¬(IM (b::t) 0).1<((0:Nat):Int)from hn),cF,zp h,cT,obs];rfl
theorem Sj(b c:UInt8)(l:Str):Lib.index (b::l) [c]=if b=c then 0 else if Lib.index l [c]= -1 then-1 else Lib.index l [c]+1:=by
 rw[Lib.index];have:([c]:Str).isPrefixOf (b::l)=(c==b):=by simp[List.isPrefixOf]
 rw[this];by_cases h:b=c
 ·subst h;simp
 ·rw[zw (show ¬(c==b)=true by simpa using Ne.symm h),zw h];by_cases h2:Lib.index l [c]= -1
  ·simp[h2]
  ·rw[zw (by simpa using h2),zw h2]
theorem Sk{c:UInt8}:∀{s:Str},c ∉ s->Lib.index s [c]= -1
 |[],_=>by rw[Lib.index];rfl
 |b::l,h=>by
  rw[Sj,zw (fun e=>h (by rw[e];simp)),zr (Sk (fun hm=>h (ze4 _ hm)))]
theorem N7{c:UInt8}:∀{x r:Str},c ∉ x->Lib.index (x++c::r) [c]=(x.length:Nat)
 |[],r,_=>by rw[List.nil_append,Sj,zr rfl];rfl
 |b::x,r,h=>by
  have ih:=N7 (r:=r) (fun hm:c∈x=>h (ze4 _ hm));rw[ze8,Sj,zw (fun e=>h (by rw[e];simp)),ih,zw (by omega),zb7];omega
theorem gz(c:UInt8)(s:Str):c ∉ s\/∃x r,s=x++c::r/\c ∉ x:=by
 by_cases h:c∈s
 ·right
  induction s with
  |nil=>exact absurd h List.not_mem_nil
  |cons b l ih=>
   by_cases hb:b=c
   ·subst hb;exact⟨[],l,rfl,List.not_mem_nil⟩
   ·have hm:c∈l:=by
     rcases zc1.1 h with rfl|h
     ·exact absurd rfl hb
     ·exact h
    obtain⟨x,r,h1,h2⟩:=ih hm;refine⟨b::x,r,by rw[h1,ze8],fun h3=> ?_⟩;rcases zc1.1 h3 with rfl|h3
    ·exact hb rfl
    ·exact h2 h3
 ·exact .inl h
theorem uZ{c:UInt8}{s:Str}(h:c ∉ s):Lib.cut s [c]=(s,[],false):=by
 unfold Lib.cut;rw[Sk h,zw (by omega)]
theorem jV{c:UInt8}{x r:Str}(h:c ∉ x):Lib.cut (x++c::r) [c]=(x,r,true):=by
 unfold Lib.cut;rw[N7 h,zr (by omega)];simp
def Aj(c:UInt8)(s:Str):List Str:=Lib.split s [c]
theorem Hm{c:UInt8}{s:Str}(h:c ∉ s):Aj c s=[s]:=by
 unfold Aj Lib.split;rw[Lib.count_miss (Sk h)];rfl
theorem LM{c:UInt8}{x r:Str}(h:c ∉ x):Aj c (x++c::r)=x::Aj c r:=by
 unfold Aj Lib.split;have e:List.drop (x.length+([c]:Str).length) (x++c::r)=r:=by simp
 rw[Lib.count_hit (by simp) (N7 h),e,Nat.add_comm,Lib.splitK,N7 h,zw (by simp),zc2,Nat.add_zero,e];simp
theorem wI(c:UInt8)(s:Str):Aj c s≠[]:=by
 rcases gz c s with h|⟨x,r,rfl,h⟩
 ·rw[Hm h];simp
 ·rw[LM h];simp
theorem V4{c:UInt8}:∀(n:Nat)(s:Str),s.length<=n->∀p∈Aj c s,p.length<=s.length:=by
 intro n
 induction n with
 |zero=>
  intro s hs p hp;have:s=[]:=zb2 (by omega);subst this;rw[Hm (by simp)]at hp;cases zd0.1 hp;exact za7 _
 |succ n ih=>
  intro s hs p hp;rcases gz c s with h|⟨x,r,rfl,h⟩
  ·rw[Hm h]at hp;cases zd0.1 hp;exact za7 _
  ·rw[LM h]at hp;rw[zb5,zb7]at hs⊢
   rcases zc1.1 hp with rfl|hp
   ·omega
   ·have:=ih r (by omega) p hp;omega
theorem SX{c:UInt8}:∀(xs:List Str),xs≠[]->(∀x∈xs,c ∉ x)->Aj c (Lib.join xs [c])=xs
 |[],h,_=>absurd rfl h
 |[x],_,h=>by rw[Lib.join_one,Hm (h x (by simp))]
 |x::y::r,_,h=>by
  have ih:=SX (c:=c) (y::r) (by simp) (fun z hz=>h z (ze4 _ hz));have e:Lib.join (x::y::r) [c]=x++c::Lib.join (y::r) [c]:=by
   rw[Lib.join_cons,Lib.join_cons];simp[Lib.joinTail]
  rw[e,LM (h x (by simp)),ih]
theorem tV(s:Str)(c:UInt8):Ho s [c]=Aj c s:=by
 unfold Ho Aj Lib.split;exact Lib.splitB_data ⟨#[c]⟩ 0 _ ⟨s.toArray⟩
theorem lT{s:Str}{c:UInt8}(h:s.length<4294967281):QK s [c]=some (Aj c s):=by
 unfold QK;rw[zr ⟨h,by simp⟩,tV]
abbrev Pn:=Int×Int
abbrev Wy:=List Pn
theorem oF{s:Str}(hs:s.length<=1000):Kt s=some (Aj 32 s):=by
 unfold Kt;obtain⟨b,h1,h2,h3,h4,h5⟩:=Bw (body:=fun(t:List Str×Str×Int×Int)=>FS t.1 t.2.1 t.2.2.1 t.2.2.2)
  (fun k (b:List Str×Nat)=>(b.1,s,(b.2:Int),(k:Int))) (fun b=>(b.1,s,(b.2:Int))) (fun k b=>b.2<=k/\b.1.length<=k/\Aj 32 s=b.1++Aj 32 (s.drop b.2)/\(32:UInt8) ∉ (s.drop b.2).take (k-b.2)) s.length (by
   rintro k ⟨out,f⟩ hk ⟨h1,h2,h3,h4⟩;simp only at h1 h2 h3 h4;have he:s[k]? =some s[k]:=za1 hk;generalize s[k]=c at he;unfold FS;simp only;rw[zp (show(k:Int)<(s.length:Int) by omega),cT,Af,he,obs];by_cases hc:c=32
   ·subst hc;refine⟨(out++[(s.drop f).take (k-f)],k+1),?_,za7 _,by simp;omega,?_,by simp⟩
    ·have hsub:Fx (f:Int) (k:Int) s.length=some (f,k):=by unfold Fx;rw[zr (by omega)];rfl
     rw[show((((32:UInt8).toNat:Nat):Int)==32)=true from rfl,cT,hsub,obs,Bu (by simp[Aa];omega) (by simp[Aa];omega),obs,Aw,List.drop_take]
    ·have hd:s.drop f=(s.drop f).take (k-f)++32::s.drop (k+1):=by
      have e1:(s.drop f).drop (k-f)=s.drop k:=by rw[List.drop_drop];congr 1;omega
      have e2:s.drop k=32::s.drop (k+1):=by
       rw[za9 hk];rw[za1 hk]at he;rw[zv he]
      rw[<-e2,<-e1,List.take_append_drop]
     rw[h3]
     conv=>lhs;rw[hd]
     rw[LM h4];simp
   ·have hc':c.toNat≠32:=fun h=>hc (UInt8.toNat_inj.1 (show c.toNat=(32:UInt8).toNat from h))
    refine⟨(out,f),?_,by simp only;omega,by simp only;omega,h3,?_⟩
    ·rw[show(((c.toNat:Nat):Int)==32)=false by simp;omega,cF,Aw]
    ·simp only;rw[show k+1-f=(k-f)+1 by omega,ze7,zd5,show f+(k-f)=k by omega,he];intro hm;rcases zb0.1 hm with hm|hm
     ·exact h4 hm
     ·simp at hm;exact hc hm.symm) (by
   rintro⟨out,f⟩ _;unfold FS;simp) 0 ([],0) (by omega) ⟨by simp,by simp,by simp,by simp⟩
 have h1':Ad (fun(t:List Str×Str×Int×Int)=>FS t.1 t.2.1 t.2.2.1 t.2.2.2) (([]:List Str),s,(0:Int),(0:Int))=_:=h1;obtain⟨out,f⟩:=b;simp only at h2 h3 h4 h5;have hsub:Fx (f:Int) (s.length:Int) s.length=some (f,s.length):=by unfold Fx;rw[zr (by omega)];rfl
 have hall:(s.drop f).take (s.length-f)=s.drop f:=zc3 (by simp);rw[hall]at h5;rw[h1',obs];simp only;rw[hsub,obs,Bu (by simp[Aa];omega) (by simp[Aa];omega),obs,h4,Hm h5,List.take_length]
def Fh(W:List Str)(i:Nat):Option Int:=match W[i]? with|none=>none|some s=>if(Qu s).2 then some (Qu s).1 else none
abbrev CV:=(Int×Nat)⊕(Nat×List Wy×Wy)
def ptV(g:Int×Int->Bool)(i:Nat)(ways:List Wy)(way:Wy)(p:Pn):CV:=if g p then .inr (i,ways,way++[p])else .inl (6,i-1)
def GV(p:Pn):Bool:=decide (-1000<=p.1/\p.1<=1000)&&decide (-1000<=p.2/\p.2<=1000)
def one(W:List Str)(i:Nat)(ways:List Wy)(way:Wy)(f:Int->Pn):CV:=match Fh W i with|none=>.inl (3,i)|some x=>ptV GV (i+1) ways way (f x)
def two(W:List Str)(i:Nat)(ways:List Wy)(way:Wy)(f:Int->Int->Pn):CV:=match Fh W i with|none=>.inl (3,i)|some x=>one W (i+1) ways way (f x)
section
variable {W:List Str} (hW:W.length<=1000) (hs:∀w∈W,w.length<=1000)
include hW hs
theorem lG{i:Nat}(hi:i<=W.length)(ways:List Wy)(way:Wy):Aq (W,(i:Int),0) ways way=some (match Fh W i with|none=>((W,(i:Int),3),ways,way,0)|some x=>((W,((i+1:Nat):Int),0),ways,way,x)):=by
 unfold Aq Fh;simp only;rw[show((0:Int) != 0)=false from rfl,cF];by_cases h:i=W.length
 ·subst h;rw[show((W.length:Int)==(W.length:Int))=true by simp,cT,List.getElem?_eq_none (za7 _)]
 ·have he:W[i]? =some (W[i]'(by omega)):=za1 (by omega);generalize (W[i]'(by omega))=w at he;have hw:=hs w (za3 he);rw[show((i:Int)==(W.length:Int))=false by simp;omega,cF,Af,he,obs,iw (by omega),obs];simp only;cases hr:(Qu w).2 with
  |false=>rw[nF,cT];rfl
  |true=>rw[nT,cF,Aw];rfl
omit hs in
theorem oI {i:Int} {c:Int} (hc:c≠0) (ways:List Wy) (way:Wy):Aq (W,i,c) ways way=some ((W,i,c),ways,way,0):=by
 unfold Aq;simp only;rw[show(c != 0)=true by simpa[bne]using hc,cT]
theorem vK{i:Nat}(hi:i<=W.length)(o:Bool)(ways:List Wy)(way:Wy):Ha (W,(i:Int),o) ways way=some (match Fh W i with|none=>((W,(i:Int),o),ways,way,0,false)|some x=>((W,((i+1:Nat):Int),o),ways,way,x,true)):=by
 unfold Ha Fh;simp only;by_cases h:i=W.length
 ·subst h;rw[show((W.length:Int)==(W.length:Int))=true by simp,cT,List.getElem?_eq_none (za7 _)]
 ·have he:W[i]? =some (W[i]'(by omega)):=za1 (by omega);generalize (W[i]'(by omega))=w at he;have hw:=hs w (za3 he);rw[show((i:Int)==(W.length:Int))=false by simp;omega,cF,Af,he,obs,gJ (by omega),obs];simp only;rcases MC w with⟨v,_,_,_,hr⟩|⟨hr,_⟩
  ·rw[hr];simp only;rw[cT,Aw];rfl
  ·rw[hr];rfl
end
theorem zJ(p:Pn):He p=some (GV p):=by
 unfold He BT GV;by_cases h1:p.1>= -1000<;>by_cases h2:p.1<=1000<;>by_cases h3:p.2>= -1000<;>by_cases h4:p.2<=1000<;>simp[h1,h2,h3,h4]<;>omega
theorem yN(p:Pn):Ee p=some (GV p):=by
 unfold Ee AE GV;by_cases h1:p.1>= -1000<;>by_cases h2:p.1<=1000<;>by_cases h3:p.2>= -1000<;>by_cases h4:p.2<=1000<;>simp[h1,h2,h3,h4]<;>omega
theorem zS(W:List Str){i:Nat}(hi:1<=i/\i<=2000)(ways:List Wy){way:Wy}(hw:way.length<=1000)(p:Pn):
  AF (W,(i:Int),0) ways way p=some (if GV p then((W,(i:Int),0),ways,way++[p])else((W,((i-1:Nat):Int),6),ways,way)):=by
 unfold AF;simp only;rw[show((0:Int) != 0)=false from rfl,cF,zJ,obs];cases h:GV (p.1,p.2)with
 |false=>
  rw[nF,cT,Ae,show(i:Int)-1=((i-1:Nat):Int) by omega];rfl
 |true=>
  rw[nT,cF,Bu (by simp[Aa];omega) (by simp[Aa];omega),obs];rfl
theorem fE(W:List Str){i c:Int}(hc:c≠0)(ways:List Wy)(way:Wy)(p:Pn):AF (W,i,c) ways way p=some ((W,i,c),ways,way):=by
 unfold AF;simp only;rw[show(c != 0)=true by simpa[bne]using hc,cT]
def Vx(W:List Str)(ways:List Wy)(way:Wy):CV->(List Str×Int×Int)×List Wy×Wy
 |.inl (c,i)=>((W,(i:Int),c),ways,way)
 |.inr (i,ways',way')=>((W,(i:Int),0),ways',way')
abbrev SSt:=(List Str×Int×Int)×List Wy×Wy
def Ab4 (st:SSt) (f:Int->Pn):Option SSt:=
 (Aq (st.1.1,st.1.2.1,st.1.2.2) st.2.1 st.2.2).bind fun x=>(AF (x.1.1,x.1.2.1,x.1.2.2) x.2.1 x.2.2.1 (f x.2.2.2)).bind fun y=>some ((y.1.1,y.1.2.1,y.1.2.2),y.2.1,y.2.2)
def Ab5 (st:SSt) (f:Int->Int->Pn):Option SSt:=
 (Aq (st.1.1,st.1.2.1,st.1.2.2) st.2.1 st.2.2).bind fun x=>(Aq (x.1.1,x.1.2.1,x.1.2.2) x.2.1 x.2.2.1).bind fun x'=>(AF (x'.1.1,x'.1.2.1,x'.1.2.2) x'.2.1 x'.2.2.1 (f x.2.2.2 x'.2.2.2)).bind fun y=>some ((y.1.1,y.1.2.1,y.1.2.2),y.2.1,y.2.2)
section
variable {W:List Str} (hW:W.length<=1000) (hs:∀w∈W,w.length<=1000)
include hW hs
theorem LJ{i:Nat}{x:Int}(h:Fh W i=some x):i<W.length:=by
 unfold Fh at h;cases hz:W[i]? with
 |none=>rw[hz]at h;cases h
 |some w=>exact Dd hz
theorem Qs{i:Nat}(hi:i<=W.length)(ways:List Wy){way:Wy}(hw:way.length<=1000)(f:Int->Pn):Ab4 ((W,(i:Int),0),ways,way) f=some (Vx W ways way (one W i ways way f)):=by
 unfold Ab4 one;simp only;rw[lG hW hs hi,obs];cases hz:Fh W i with
 |none=>
  simp only;rw[fE W (by omega),obs];rfl
 |some x=>
  have:=LJ hW hs hz;simp only;rw[zS W (by omega) ways hw,obs];unfold ptV;split<;>rfl
theorem aK{i:Nat}(hi:i<=W.length)(ways:List Wy){way:Wy}(hw:way.length<=1000)(f:Int->Int->Pn):Ab5 ((W,(i:Int),0),ways,way) f=some (Vx W ways way (two W i ways way f)):=by
 unfold Ab5 two;simp only;rw[lG hW hs hi,obs];cases hz:Fh W i with
 |none=>
  simp only;rw[oI hW (by omega),obs];simp only;rw[fE W (by omega),obs];rfl
 |some x=>
  have:=LJ hW hs hz;simp only;exact Qs hW hs (by omega) ways hw (f x)
end
def KW:List Str:=[[77],[76],[108],[72],[104],[86],[118],[90]]
def EP(way:Wy):Pn:=way.getLast?.getD (0,0)
def Cs(W:List Str)(i:Nat)(ways:List Wy)(way:Wy)(w:Str):CV:=
 if w=[77]then(if way=[]then(if ways.length=4 then .inl (5,i)else two W (i+1) ways way (fun x y=>(x,y)))else .inl (4,i))
 else if w∈KW then
  (if way=[]then .inl (4,i)
  else if w=[90]then(if way.length<3 then .inl (5,i)else .inr (i+1,ways++[way],[]))
  else if way.length=12 then .inl (5,i)
  else if w=[76]then two W (i+1) ways way (fun x y=>(x,y))
  else if w=[108]then two W (i+1) ways way (fun x y=>(zi zj ((EP way).1+x),zi zj ((EP way).2+y)))
  else if w=[72]then one W (i+1) ways way (fun x=>(x,(EP way).2))
  else if w=[104]then one W (i+1) ways way (fun x=>(zi zj ((EP way).1+x),(EP way).2))
  else if w=[86]then one W (i+1) ways way (fun x=>((EP way).1,x))
  else one W (i+1) ways way (fun x=>((EP way).1,zi zj ((EP way).2+x))))
 else .inl (2,i)
theorem SC:(([77]:Str)==[77])=true:=rfl
theorem SA:(([77]:Str)==[76])=false:=rfl
theorem OA:(([77]:Str)==[108])=false:=rfl
theorem Sy:(([77]:Str)==[72])=false:=rfl
theorem Oz:(([77]:Str)==[104])=false:=rfl
theorem SD:(([77]:Str)==[86])=false:=rfl
theorem OB:(([77]:Str)==[118])=false:=rfl
theorem SE:(([77]:Str)==[90])=false:=rfl
theorem Sv:(([76]:Str)==[77])=false:=rfl
theorem Su:(([76]:Str)==[76])=true:=rfl
theorem Ox:(([76]:Str)==[108])=false:=rfl
theorem Ss:(([76]:Str)==[72])=false:=rfl
theorem Ow:(([76]:Str)==[104])=false:=rfl
theorem Sw:(([76]:Str)==[86])=false:=rfl
theorem Oy:(([76]:Str)==[118])=false:=rfl
theorem Sx:(([76]:Str)==[90])=false:=rfl
theorem Oi:(([108]:Str)==[77])=false:=rfl
theorem Oh:(([108]:Str)==[76])=false:=rfl
theorem Lx:(([108]:Str)==[108])=true:=rfl
theorem Og:(([108]:Str)==[72])=false:=rfl
theorem Lw:(([108]:Str)==[104])=false:=rfl
theorem Oj:(([108]:Str)==[86])=false:=rfl
theorem Ly:(([108]:Str)==[118])=false:=rfl
theorem Ok:(([108]:Str)==[90])=false:=rfl
theorem Sp:(([72]:Str)==[77])=false:=rfl
theorem So:(([72]:Str)==[76])=false:=rfl
theorem Ou:(([72]:Str)==[108])=false:=rfl
theorem Sn:(([72]:Str)==[72])=true:=rfl
theorem Ot:(([72]:Str)==[104])=false:=rfl
theorem Sq:(([72]:Str)==[86])=false:=rfl
theorem Ov:(([72]:Str)==[118])=false:=rfl
theorem Sr:(([72]:Str)==[90])=false:=rfl
theorem Oc:(([104]:Str)==[77])=false:=rfl
theorem Ob:(([104]:Str)==[76])=false:=rfl
theorem Lt:(([104]:Str)==[108])=false:=rfl
theorem Oa:(([104]:Str)==[72])=false:=rfl
theorem Ls:(([104]:Str)==[104])=true:=rfl
theorem Od:(([104]:Str)==[86])=false:=rfl
theorem Lu:(([104]:Str)==[118])=false:=rfl
theorem Oe:(([104]:Str)==[90])=false:=rfl
theorem SI:(([86]:Str)==[77])=false:=rfl
theorem SH:(([86]:Str)==[76])=false:=rfl
theorem OD:(([86]:Str)==[108])=false:=rfl
theorem SG:(([86]:Str)==[72])=false:=rfl
theorem OC:(([86]:Str)==[104])=false:=rfl
theorem SJ:(([86]:Str)==[86])=true:=rfl
theorem OE:(([86]:Str)==[118])=false:=rfl
theorem SK:(([86]:Str)==[90])=false:=rfl
theorem On:(([118]:Str)==[77])=false:=rfl
theorem Om:(([118]:Str)==[76])=false:=rfl
theorem LA:(([118]:Str)==[108])=false:=rfl
theorem Ol:(([118]:Str)==[72])=false:=rfl
theorem Lz:(([118]:Str)==[104])=false:=rfl
theorem Oo:(([118]:Str)==[86])=false:=rfl
theorem LC:(([118]:Str)==[118])=true:=rfl
theorem Oq:(([118]:Str)==[90])=false:=rfl
theorem VP:(([90]:Str)==[77])=false:=rfl
theorem VO:(([90]:Str)==[76])=false:=rfl
theorem Q9:(([90]:Str)==[108])=false:=rfl
theorem VN:(([90]:Str)==[72])=false:=rfl
theorem Q8:(([90]:Str)==[104])=false:=rfl
theorem VQ:(([90]:Str)==[86])=false:=rfl
theorem Ra:(([90]:Str)==[118])=false:=rfl
theorem VR:(([90]:Str)==[90])=true:=rfl
theorem EH{way:Wy}(h:way≠[]):AN way (way.length-1)=some (EP way):=by
 have hp:=zd6.2 h;have e:way[way.length-1]? =some (way[way.length-1]'(by omega)):=za1 (by omega);show way[way.length-1]? =_;unfold EP;rw[List.getLast?_eq_getElem?,e];rfl
theorem EJ{way:Wy}(h:way≠[])(hl:way.length<=1000):AW (zi zj ((way.length:Int)-1)) way.length=some (way.length-1):=by
 have hp:=zd6.2 h;rw[Ae,show(way.length:Int)-1=((way.length-1:Nat):Int) by omega,AT]
theorem KC(W:List Str)(i:Int)(ways:List Wy)(way:Wy)(w:Str)(o:Bool):
  Ad (fun(s:((List Str×Int×Int)×List Str×List Wy×Wy×Str×Bool×Bool×Int×Int))=>Dz s.1 s.2.1 s.2.2.1 s.2.2.2.1 s.2.2.2.2.1 s.2.2.2.2.2.1 s.2.2.2.2.2.2.1 s.2.2.2.2.2.2.2.1 s.2.2.2.2.2.2.2.2)
   ((W,i,0),KW,ways,way,w,o,false,((8:Nat):Int),(0:Int))=some ((W,i,0),ways,way,w,o,decide (w∈KW)):=by
 obtain⟨_,h1,_⟩:=Bw (body:=fun(s:((List Str×Int×Int)×List Str×List Wy×Wy×Str×Bool×Bool×Int×Int))=>Dz s.1 s.2.1 s.2.2.1 s.2.2.2.1 s.2.2.2.2.1 s.2.2.2.2.2.1 s.2.2.2.2.2.2.1 s.2.2.2.2.2.2.2.1 s.2.2.2.2.2.2.2.2)
  (fun k (_:Unit)=>((W,i,0),KW,ways,way,w,o,decide (w∈KW.take k),((8:Nat):Int),(k:Int))) (fun _=>((W,i,0),ways,way,w,o,decide (w∈KW))) (fun _ _=>True) 8 (by
   intro k _ hk _;have he:KW[k]? =some (KW[k]'hk):=za1 hk;generalize hx:(KW[k]'hk)=x at he;refine⟨(),?_,trivial⟩;unfold Dz;simp only;rw[zp,cT,show AW (k:Int) KW.length=some k from AT hk,obs,show AN KW k=some x from he,obs,ze7,he,Aw];by_cases hm:w∈KW.take k
   ·rw[zp hm,cT,zp (List.mem_append_left _ hm)]
   ·rw[zq hm,cF];by_cases hxw:x=w
    ·subst hxw;rw[beq_self_eq_true,zp (List.mem_append_right _ (by simp))]
    ·rw[beq_eq_false_iff_ne.2 hxw,decide_eq_false];intro h;rcases zb0.1 h with h|h
     ·exact hm h
     ·simp at h;exact hxw h.symm) (by
   intro _ _;unfold Dz;simp only;rw[zq,cF];rfl) 0 () (by omega) trivial
 exact h1
section
variable {W:List Str} (hW:W.length<=1000) (hs:∀w∈W,w.length<=1000)
include hW hs
theorem xw{i:Nat}{w:Str}(he:W[i]? =some w)(hk:w ∉ KW)(ways:List Wy){way:Wy}(hw:way.length<=1000):Av (W,(i:Int),0) ways way=some (Vx W ways way (Cs W i ways way w)):=by
 unfold Av;simp only;rw[Af,he,obs,show([[77],[76],[108],[72],[104],[86],[118],[90]]:List Str)=KW from rfl,KC W _ ways way _ _,obs];have h77:w≠[77]:=fun h=>hk (by rw[h];decide)
 unfold Cs;rw[zw h77,zw hk,zq hk,nF];simp only[cond_true,za0,za6];rfl
theorem xt{i:Nat}(he:W[i]? =some [77])(ways:List Wy){way:Wy}(hw:way.length<=1000):Av (W,(i:Int),0) ways way=some (Vx W ways way (Cs W i ways way [77])):=by
 have hlt:=Dd he;unfold Av;simp only;rw[Af,he,obs,show([[77],[76],[108],[72],[104],[86],[118],[90]]:List Str)=KW from rfl,KC W _ ways way _ _,obs];unfold Cs;rw[zr rfl,zp (show([77]:Str)∈KW by decide)];by_cases h0:way=[]
 ·subst h0;rw[zr rfl];by_cases h4:ways.length=4
  ·have h4':((ways.length:Int)==4)=true:=by simp[h4]
   rw[zr h4];simp only[SC,SA,OA,Sy,Oz,SD,OB,SE,h4',nT,cF,cT,zf0,show decide (((0:Nat):Int)>0)=false from rfl,show(false==true)=false from rfl,obs,za6,show((5:Int) != 0)=true from rfl];rfl
  ·have h4':((ways.length:Int)==4)=false:=by simp;omega
   rw[zw h4];simp only[SC,SA,OA,Sy,Oz,SD,OB,SE,h4',nT,nF,cF,cT,zf0,show decide (((0:Nat):Int)>0)=false from rfl,show(false==true)=false from rfl,obs,za6,show((0:Int) != 0)=false from rfl,show(((0:Nat):Int)==12)=false from rfl,Aw (show i<4611686018427387904 by omega)];exact aK hW hs (by omega) ways (by simp) (fun x y=>(x,y))
 ·have hp:=zd6.2 h0;rw[zw h0];simp only[SC,SA,OA,Sy,Oz,SD,OB,SE,nT,cF,cT,zp (show(way.length:Int)>0 by omega),show(true==true)=true from rfl,obs,za6,show((4:Int) != 0)=true from rfl];rfl
theorem xr{i:Nat}(he:W[i]? =some [76])(ways:List Wy){way:Wy}(hw:way.length<=1000):Av (W,(i:Int),0) ways way=some (Vx W ways way (Cs W i ways way [76])):=by
 have hlt:=Dd he;unfold Av;simp only;rw[Af,he,obs,show([[77],[76],[108],[72],[104],[86],[118],[90]]:List Str)=KW from rfl,KC W _ ways way _ _,obs];unfold Cs;rw[zw (by decide),zr (show([76]:Str)∈KW by decide),zp (show([76]:Str)∈KW by decide)];by_cases h0:way=[]
 ·subst h0;rw[zr rfl];simp only[Sv,Su,Ox,Ss,Ow,Sw,Oy,Sx,nT,cF,cT,zf0,show decide (((0:Nat):Int)>0)=false from rfl,show(false==false)=true from rfl,obs,za6,show((4:Int) != 0)=true from rfl];rfl
 ·have hp:=zd6.2 h0;rw[zw h0];rw[zw (by decide)];by_cases h12:way.length=12
  ·rw[zr h12];simp only[Sv,Su,Ox,Ss,Ow,Sw,Oy,Sx,nT,nF,cF,cT,zp (show(way.length:Int)>0 by omega),show(true==false)=false from rfl,obs,za6,show((way.length:Int)==12)=true by simp;omega,show((5:Int) != 0)=true from rfl];rfl
  ·rw[zw h12,zr rfl];simp only[Sv,Su,Ox,Ss,Ow,Sw,Oy,Sx,nT,nF,cF,cT,zp (show(way.length:Int)>0 by omega),show(true==false)=false from rfl,obs,za6,show((way.length:Int)==12)=false by simp;omega,show((0:Int) != 0)=false from rfl,EJ h0 hw,EH h0,Aw (show i<4611686018427387904 by omega)];exact aK hW hs (by omega) ways hw (fun x y=>(x,y))
theorem tF{i:Nat}(he:W[i]? =some [108])(ways:List Wy){way:Wy}(hw:way.length<=1000):Av (W,(i:Int),0) ways way=some (Vx W ways way (Cs W i ways way [108])):=by
 have hlt:=Dd he;unfold Av;simp only;rw[Af,he,obs,show([[77],[76],[108],[72],[104],[86],[118],[90]]:List Str)=KW from rfl,KC W _ ways way _ _,obs];unfold Cs;rw[zw (by decide),zr (show([108]:Str)∈KW by decide),zp (show([108]:Str)∈KW by decide)];by_cases h0:way=[]
 ·subst h0;rw[zr rfl];simp only[Oi,Oh,Lx,Og,Lw,Oj,Ly,Ok,nT,cF,cT,zf0,show decide (((0:Nat):Int)>0)=false from rfl,show(false==false)=true from rfl,obs,za6,show((4:Int) != 0)=true from rfl];rfl
 ·have hp:=zd6.2 h0;rw[zw h0];rw[zw (by decide)];by_cases h12:way.length=12
  ·rw[zr h12];simp only[Oi,Oh,Lx,Og,Lw,Oj,Ly,Ok,nT,nF,cF,cT,zp (show(way.length:Int)>0 by omega),show(true==false)=false from rfl,obs,za6,show((way.length:Int)==12)=true by simp;omega,show((5:Int) != 0)=true from rfl];rfl
  ·rw[zw h12,zw (by decide),zr rfl];simp only[Oi,Oh,Lx,Og,Lw,Oj,Ly,Ok,nT,nF,cF,cT,zp (show(way.length:Int)>0 by omega),show(true==false)=false from rfl,obs,za6,show((way.length:Int)==12)=false by simp;omega,show((0:Int) != 0)=false from rfl,EJ h0 hw,EH h0,Aw (show i<4611686018427387904 by omega)];exact aK hW hs (by omega) ways hw (fun x y=>(zi zj ((EP way).1+x),zi zj ((EP way).2+y)))
theorem xq{i:Nat}(he:W[i]? =some [72])(ways:List Wy){way:Wy}(hw:way.length<=1000):Av (W,(i:Int),0) ways way=some (Vx W ways way (Cs W i ways way [72])):=by
 have hlt:=Dd he;unfold Av;simp only;rw[Af,he,obs,show([[77],[76],[108],[72],[104],[86],[118],[90]]:List Str)=KW from rfl,KC W _ ways way _ _,obs];unfold Cs;rw[zw (by decide),zr (show([72]:Str)∈KW by decide),zp (show([72]:Str)∈KW by decide)];by_cases h0:way=[]
 ·subst h0;rw[zr rfl];simp only[Sp,So,Ou,Sn,Ot,Sq,Ov,Sr,nT,cF,cT,zf0,show decide (((0:Nat):Int)>0)=false from rfl,show(false==false)=true from rfl,obs,za6,show((4:Int) != 0)=true from rfl];rfl
 ·have hp:=zd6.2 h0;rw[zw h0];rw[zw (by decide)];by_cases h12:way.length=12
  ·rw[zr h12];simp only[Sp,So,Ou,Sn,Ot,Sq,Ov,Sr,nT,nF,cF,cT,zp (show(way.length:Int)>0 by omega),show(true==false)=false from rfl,obs,za6,show((way.length:Int)==12)=true by simp;omega,show((5:Int) != 0)=true from rfl];rfl
  ·rw[zw h12,zw (by decide),zw (by decide),zr rfl];simp only[Sp,So,Ou,Sn,Ot,Sq,Ov,Sr,nT,nF,cF,cT,zp (show(way.length:Int)>0 by omega),show(true==false)=false from rfl,obs,za6,show((way.length:Int)==12)=false by simp;omega,show((0:Int) != 0)=false from rfl,EJ h0 hw,EH h0,Aw (show i<4611686018427387904 by omega)];exact Qs hW hs (by omega) ways hw (fun x=>(x,(EP way).2))
theorem tE{i:Nat}(he:W[i]? =some [104])(ways:List Wy){way:Wy}(hw:way.length<=1000):Av (W,(i:Int),0) ways way=some (Vx W ways way (Cs W i ways way [104])):=by
 have hlt:=Dd he;unfold Av;simp only;rw[Af,he,obs,show([[77],[76],[108],[72],[104],[86],[118],[90]]:List Str)=KW from rfl,KC W _ ways way _ _,obs];unfold Cs;rw[zw (by decide),zr (show([104]:Str)∈KW by decide),zp (show([104]:Str)∈KW by decide)];by_cases h0:way=[]
 ·subst h0;rw[zr rfl];simp only[Oc,Ob,Lt,Oa,Ls,Od,Lu,Oe,nT,cF,cT,zf0,show decide (((0:Nat):Int)>0)=false from rfl,show(false==false)=true from rfl,obs,za6,show((4:Int) != 0)=true from rfl];rfl
 ·have hp:=zd6.2 h0;rw[zw h0];rw[zw (by decide)];by_cases h12:way.length=12
  ·rw[zr h12];simp only[Oc,Ob,Lt,Oa,Ls,Od,Lu,Oe,nT,nF,cF,cT,zp (show(way.length:Int)>0 by omega),show(true==false)=false from rfl,obs,za6,show((way.length:Int)==12)=true by simp;omega,show((5:Int) != 0)=true from rfl];rfl
  ·rw[zw h12,zw (by decide),zw (by decide),zw (by decide),zr rfl];simp only[Oc,Ob,Lt,Oa,Ls,Od,Lu,Oe,nT,nF,cF,cT,zp (show(way.length:Int)>0 by omega),show(true==false)=false from rfl,obs,za6,show((way.length:Int)==12)=false by simp;omega,show((0:Int) != 0)=false from rfl,EJ h0 hw,EH h0,Aw (show i<4611686018427387904 by omega)];exact Qs hW hs (by omega) ways hw (fun x=>(zi zj ((EP way).1+x),(EP way).2))
theorem xu{i:Nat}(he:W[i]? =some [86])(ways:List Wy){way:Wy}(hw:way.length<=1000):Av (W,(i:Int),0) ways way=some (Vx W ways way (Cs W i ways way [86])):=by
 have hlt:=Dd he;unfold Av;simp only;rw[Af,he,obs,show([[77],[76],[108],[72],[104],[86],[118],[90]]:List Str)=KW from rfl,KC W _ ways way _ _,obs];unfold Cs;rw[zw (by decide),zr (show([86]:Str)∈KW by decide),zp (show([86]:Str)∈KW by decide)];by_cases h0:way=[]
 ·subst h0;rw[zr rfl];simp only[SI,SH,OD,SG,OC,SJ,OE,SK,nT,cF,cT,zf0,show decide (((0:Nat):Int)>0)=false from rfl,show(false==false)=true from rfl,obs,za6,show((4:Int) != 0)=true from rfl];rfl
 ·have hp:=zd6.2 h0;rw[zw h0];rw[zw (by decide)];by_cases h12:way.length=12
  ·rw[zr h12];simp only[SI,SH,OD,SG,OC,SJ,OE,SK,nT,nF,cF,cT,zp (show(way.length:Int)>0 by omega),show(true==false)=false from rfl,obs,za6,show((way.length:Int)==12)=true by simp;omega,show((5:Int) != 0)=true from rfl];rfl
  ·rw[zw h12,zw (by decide),zw (by decide),zw (by decide),zw (by decide),zr rfl];simp only[SI,SH,OD,SG,OC,SJ,OE,SK,nT,nF,cF,cT,zp (show(way.length:Int)>0 by omega),show(true==false)=false from rfl,obs,za6,show((way.length:Int)==12)=false by simp;omega,show((0:Int) != 0)=false from rfl,EJ h0 hw,EH h0,Aw (show i<4611686018427387904 by omega)];exact Qs hW hs (by omega) ways hw (fun x=>((EP way).1,x))
theorem tG{i:Nat}(he:W[i]? =some [118])(ways:List Wy){way:Wy}(hw:way.length<=1000):Av (W,(i:Int),0) ways way=some (Vx W ways way (Cs W i ways way [118])):=by
 have hlt:=Dd he;unfold Av;simp only;rw[Af,he,obs,show([[77],[76],[108],[72],[104],[86],[118],[90]]:List Str)=KW from rfl,KC W _ ways way _ _,obs];unfold Cs;rw[zw (by decide),zr (show([118]:Str)∈KW by decide),zp (show([118]:Str)∈KW by decide)];by_cases h0:way=[]
 ·subst h0;rw[zr rfl];simp only[On,Om,LA,Ol,Lz,Oo,LC,Oq,nT,cF,cT,zf0,show decide (((0:Nat):Int)>0)=false from rfl,show(false==false)=true from rfl,obs,za6,show((4:Int) != 0)=true from rfl];rfl
 ·have hp:=zd6.2 h0;rw[zw h0];rw[zw (by decide)];by_cases h12:way.length=12
  ·rw[zr h12];simp only[On,Om,LA,Ol,Lz,Oo,LC,Oq,nT,nF,cF,cT,zp (show(way.length:Int)>0 by omega),show(true==false)=false from rfl,obs,za6,show((way.length:Int)==12)=true by simp;omega,show((5:Int) != 0)=true from rfl];rfl
  ·rw[zw h12,zw (by decide),zw (by decide),zw (by decide),zw (by decide),zw (by decide)];simp only[On,Om,LA,Ol,Lz,Oo,LC,Oq,nT,nF,cF,cT,zp (show(way.length:Int)>0 by omega),show(true==false)=false from rfl,obs,za6,show((way.length:Int)==12)=false by simp;omega,show((0:Int) != 0)=false from rfl,EJ h0 hw,EH h0,Aw (show i<4611686018427387904 by omega)];exact Qs hW hs (by omega) ways hw (fun x=>((EP way).1,zi zj ((EP way).2+x)))
theorem xv{i:Nat}(he:W[i]? =some [90])(ways:List Wy){way:Wy}(hw:way.length<=1000)(hwl:ways.length<=1000):Av (W,(i:Int),0) ways way=some (Vx W ways way (Cs W i ways way [90])):=by
 have hlt:=Dd he;unfold Av;simp only;rw[Af,he,obs,show([[77],[76],[108],[72],[104],[86],[118],[90]]:List Str)=KW from rfl,KC W _ ways way _ _,obs];unfold Cs;rw[zw (by decide),zr (show([90]:Str)∈KW by decide),zp (show([90]:Str)∈KW by decide)];by_cases h0:way=[]
 ·subst h0;rw[zr rfl];simp only[VP,VO,Q9,VN,Q8,VQ,Ra,VR,nT,cF,cT,zf0,show decide (((0:Nat):Int)>0)=false from rfl,show(false==false)=true from rfl,obs,za6,show((4:Int) != 0)=true from rfl];rfl
 ·have hp:=zd6.2 h0;rw[zw h0];rw[zr rfl];by_cases h3:way.length<3
  ·rw[zr h3];simp only[VP,VO,Q9,VN,Q8,VQ,Ra,VR,nT,nF,cF,cT,zp (show(way.length:Int)>0 by omega),show(true==false)=false from rfl,obs,za6,zp (show(way.length:Int)<3 by omega),show((5:Int) != 0)=true from rfl];rfl
  ·rw[zw h3];simp only[VP,VO,Q9,VN,Q8,VQ,Ra,VR,nT,nF,cF,cT,zp (show(way.length:Int)>0 by omega),show(true==false)=false from rfl,obs,za6,zq (show ¬(way.length:Int)<3 by omega),show((0:Int) != 0)=false from rfl,EJ h0 hw,EH h0,Aw (show i<4611686018427387904 by omega)];rw[Bu (by simp[Aa];omega) (by simp[Aa];omega),obs];rfl
theorem tH{i:Nat}{w:Str}(he:W[i]? =some w)(ways:List Wy){way:Wy}(hw:way.length<=1000)(hwl:ways.length<=1000):Av (W,(i:Int),0) ways way=some (Vx W ways way (Cs W i ways way w)):=by
 by_cases hk:w∈KW
 ·have hk':w=[77]\/w=[76]\/w=[108]\/w=[72]\/w=[104]\/w=[86]\/w=[118]\/w=[90]:=by simpa[KW]using hk
  rcases hk' with rfl|rfl|rfl|rfl|rfl|rfl|rfl|rfl
  ·exact xt hW hs he ways hw
  ·exact xr hW hs he ways hw
  ·exact tF hW hs he ways hw
  ·exact xq hW hs he ways hw
  ·exact tE hW hs he ways hw
  ·exact xu hW hs he ways hw
  ·exact tG hW hs he ways hw
  ·exact xv hW hs he ways hw hwl
 ·exact xw hW hs he hk ways hw
end
abbrev ISt:=(List Str×Int×Bool)×(List Wy×Wy×Int×Int)
def EI(W:List Str):CV->ISt->Prop
 |.inl (c,i),r=>r.2.2.2=(c,(i:Int))/\c≠0
 |.inr (i,ways',way'),r=>r=((W,(i:Int),decide (way'≠[])),ways',way',0,0)
def KWi:List Str:=[[77],[76],[108],[72],[86],[104],[118],[90]]
theorem pN(w:Str):w∈KWi↔w∈KW:=by simp only[KWi,KW,zc1,List.not_mem_nil,or_false];constructor<;>(intro h;rcases h with h|h|h|h|h|h|h|h<;>simp[h])
theorem KB(w:Str):Bt KWi w=some (decide (w∈KW)):=by
 unfold Bt C0;have key:=Fc (body:=fun s:List Str×Str×Int×Int=>A7 s.1 s.2.1 s.2.2.1 s.2.2.2) (l:=KWi) (st:=fun k=>(KWi,w,((KWi.length:Nat):Int),(k:Int))) (p:=fun x=> !(w==x)) (fin:=.inl ()) (bad:=fun k=>.inr (k:Int))
  (fun k a hk hp=>by
   have hlt:k<8:=Dd hk;have hp:(w==a)=false:=by simpa using hp
   unfold A7;simp only;rw[zp (show(k:Int)<((KWi.length:Nat):Int) by show(k:Int)<8;omega),cT,Af,hk,obs,hp,cF,Aw])
  (fun k a hk hp=>by
   have hlt:k<8:=Dd hk;have hp:(w==a)=true:=by simpa using hp
   unfold A7;simp only;rw[zp (show(k:Int)<((KWi.length:Nat):Int) by show(k:Int)<8;omega),cT,Af,hk,obs,hp,cT])
  (by
   unfold A7;simp only;rw[zq,cF])
 by_cases hm:w∈KW
 ·have hall:KWi.all (fun x=> !(w==x))=false:=by
   rw[List.all_eq_false];exact⟨w,(pN w).2 hm,by simp⟩
  obtain⟨k,_,h⟩:=key.2 hall;rw[show((0:Nat):Int)=0 from rfl]at h;rw[h,obs];simp only[za6];rw[obs,zp hm,zp]
 ·have hall:KWi.all (fun x=> !(w==x))=true:=by
   rw[za5];intro x hx;have:w≠x:=fun h=>hm ((pN w).1 (h▸hx))
   simpa using this
  have h:=key.1 hall;rw[show((0:Nat):Int)=0 from rfl]at h;rw[h,obs];simp only[zg0];rw[obs,zq hm];rfl
theorem N6(w:Str):EW [72,86,104,118] w=some (Lib.contains [72,86,104,118] w):=by
 unfold EW K5;rw[zr (by decide)]
def icB:((List Str×Int×Bool)×List Int×List Wy×Wy×Str×Int×Int)->Option (((List Str×Int×Bool)×List Int×List Wy×Wy×Str×Int×Int)⊕(((List Str×Int×Bool)×List Int×List Wy×Wy×Str)⊕ISt)):=
 fun s=>EQ s.1 s.2.1 s.2.2.1 s.2.2.2.1 s.2.2.2.2.1 s.2.2.2.2.2.1 s.2.2.2.2.2.2
section
variable {W:List Str} (hW:W.length<=1000) (hs:∀w∈W,w.length<=1000)
include hW hs
theorem vQ{i:Nat}(hi:i<=W.length)(o:Bool)(n:List Int)(hn:n.length<=10)(ways:List Wy)(way:Wy)(w:Str){c k:Nat}(hk:k<c)(hc:c<=10):
  icB ((W,(i:Int),o),n,ways,way,w,(c:Int),(k:Int))=match Fh W i with|none=>some (.inr (.inr ((W,(i:Int),o),ways,way,3,(i:Int))))|some x=>some (.inl ((W,((i+1:Nat):Int),o),n++[x],ways,way,w,(c:Int),((k+1:Nat):Int))):=by
 unfold icB EQ;simp only;rw[zp,cT,vK hW hs hi,obs];cases hz:Fh W i with
 |none=>rfl
 |some x=>
  simp only;rw[nT,cF,Bu (by simp[Aa];omega) (by simp[Aa];omega),obs,Aw]
omit hW hs in
theorem vP (W:List Str) (i:Int) (o:Bool) (n:List Int) (ways:List Wy) (way:Wy) (w:Str) (c:Nat):icB ((W,i,o),n,ways,way,w,(c:Int),(c:Int))=some (.inr (.inl ((W,i,o),n,ways,way,w))):=by
 unfold icB EQ;simp only;rw[zq,cF]
theorem Ah0{i:Nat}(hi:i<=W.length)(o:Bool)(ways:List Wy)(way:Wy)(w:Str):Ad icB ((W,(i:Int),o),([]:List Int),ways,way,w,(1:Int),(0:Int))=
  match Fh W i with|none=>some (.inr ((W,(i:Int),o),ways,way,3,(i:Int)))|some x=>some (.inl ((W,((i+1:Nat):Int),o),[x],ways,way,w)):=by
 have h1:=vQ hW hs hi o [] (by simp) ways way w (c:=1) (k:=0) (by omega) (by omega);cases hz:Fh W i with
 |none=>rw[hz]at h1;exact Ak h1
 |some x=>
  rw[hz]at h1;exact(AP h1).trans (Ak (vP W _ o [x] ways way w 1))
theorem Ah1{i:Nat}(hi:i<=W.length)(o:Bool)(ways:List Wy)(way:Wy)(w:Str):Ad icB ((W,(i:Int),o),([]:List Int),ways,way,w,(2:Int),(0:Int))=
  match Fh W i with|none=>some (.inr ((W,(i:Int),o),ways,way,3,(i:Int)))|some x=>(match Fh W (i+1)with|none=>some (.inr ((W,((i+1:Nat):Int),o),ways,way,3,((i+1:Nat):Int)))|some y=>some (.inl ((W,((i+2:Nat):Int),o),[x,y],ways,way,w))):=by
 have h1:=vQ hW hs hi o [] (by simp) ways way w (c:=2) (k:=0) (by omega) (by omega);cases hz:Fh W i with
 |none=>rw[hz]at h1;exact Ak h1
 |some x=>
  rw[hz]at h1;have hlt:=LJ hW hs hz;have h2:=vQ hW hs (i:=i+1) (by omega) o [x] (by simp) ways way w (c:=2) (k:=1) (by omega) (by omega);refine(AP h1).trans ?_;simp only;cases hz2:Fh W (i+1)with
  |none=>rw[hz2]at h2;exact Ak h2
  |some y=>
   rw[hz2]at h2;exact(AP h2).trans (Ak (vP W _ o [x,y] ways way w 2))
def icK (w:Str):(((List Str×Int×Bool)×List Int×List Wy×Wy×Str)⊕ISt)->Option ISt:=fun x7=>Sum.elim
   (fun x8=>
   ((Bp (x8.1.1,x8.1.2.1,x8.1.2.2) x8.2.2.1 x8.2.2.2.1 x8.2.2.2.2 x8.2.1)).bind fun x9=>
   ((Ee (x9.2.2.2.1,x9.2.2.2.2))).bind fun x10=>
   bif(!x10)then
    some ((x9.1.1,x9.1.2.1,x9.1.2.2),x9.2.1,x9.2.2.1,(6:Int),(zi zj (x9.1.2.1-(1:Int))))
   else
   ((BV 16 2 x9.2.2.1 (List.cons (x9.2.2.2.1,x9.2.2.2.2) List.nil))).bind fun x11=>
   some ((x9.1.1,x9.1.2.1,true),x9.2.1,x11,(0:Int),(0:Int)))
   (fun x12=>
   some ((x12.1.1,x12.1.2.1,x12.1.2.2),x12.2.1,x12.2.2.1,x12.2.2.2.1,x12.2.2.2.2))
   x7
theorem Ab0{i:Nat}(hi:1<=i/\i<=2000)(o:Bool)(ways:List Wy){way:Wy}(hw:way.length<=1000)(w:Str)(n:List Int){p:Pn}(hn:Bp (W,(i:Int),o) ways way w n=some ((W,(i:Int),o),ways,way,p)):
  ∃r,icK w (.inl ((W,(i:Int),o),n,ways,way,w))=some r/\EI W (ptV GV i ways way p) r:=by
 unfold icK ptV;simp only[zg0];rw[hn,obs];simp only;rw[yN,obs];cases h:GV (p.1,p.2)with
 |false=>
  rw[nF,cT,zw (by simp),Ae];exact⟨_,rfl,by show((6:Int),_)=_;congr 1;omega,by omega⟩
 |true=>
  rw[nT,cF,zr rfl,Bu (by simp[Aa];omega) (by simp[Aa];omega),obs];refine⟨_,rfl,?_⟩;show _=_;rw[zp (show way++[p]≠[] by simp)]
theorem Yy{i:Nat}(hi:i<=W.length)(o:Bool)(ways:List Wy){way:Wy}(hw:way.length<=1000)(w:Str){f:Int->Pn}(hf:∀(j:Nat) x,Bp (W,(j:Int),o) ways way w [x]=some ((W,(j:Int),o),ways,way,f x)):
  ∃r,((Ad icB ((W,(i:Int),o),([]:List Int),ways,way,w,(1:Int),(0:Int))).bind (icK w))=some r/\EI W (one W i ways way f) r:=by
 rw[Ah0 hW hs hi];unfold one;cases hz:Fh W i with
 |none=>exact⟨_,rfl,rfl,by omega⟩
 |some x=>
  have:=LJ hW hs hz;exact Ab0 hW hs (by omega) o ways hw w [x] (hf (i+1) x)
theorem gP{i:Nat}(hi:i<=W.length)(o:Bool)(ways:List Wy){way:Wy}(hw:way.length<=1000)(w:Str){f:Int->Int->Pn}(hf:∀(j:Nat) x y,Bp (W,(j:Int),o) ways way w [x,y]=some ((W,(j:Int),o),ways,way,f x y)):
  ∃r,((Ad icB ((W,(i:Int),o),([]:List Int),ways,way,w,(2:Int),(0:Int))).bind (icK w))=some r/\EI W (two W i ways way f) r:=by
 rw[Ah1 hW hs hi];unfold two one;cases hz:Fh W i with
 |none=>exact⟨_,rfl,rfl,by omega⟩
 |some x=>
  have:=LJ hW hs hz;simp only;cases hz2:Fh W (i+1)with
  |none=>exact⟨_,rfl,rfl,by omega⟩
  |some y=>
   have:=LJ hW hs hz2;exact Ab0 hW hs (by omega) o ways hw w [x,y] (hf (i+2) x y)
theorem vI{i:Nat}{w:Str}(he:W[i]? =some w)(hk:w ∉ KW)(o:Bool)(ways:List Wy)(way:Wy):∃r,Au (W,(i:Int),o) ways way=some r/\EI W (Cs W i ways way w) r:=by
 have h77:w≠[77]:=fun h=>hk (by rw[h];decide)
 unfold Au BB;simp only;rw[Af,he,obs,show([[77],[76],[108],[72],[86],[104],[118],[90]]:List Str)=KWi from rfl,KB,obs,zq hk,nF,cT,obs];unfold Cs;rw[zw h77,zw hk];exact⟨_,rfl,rfl,by omega⟩
theorem vF{i:Nat}(he:W[i]? =some [77])(ways:List Wy){way:Wy}(hw:way.length<=1000)(hwl:ways.length<=1000):∃r,Au (W,(i:Int),decide (way≠[])) ways way=some r/\EI W (Cs W i ways way [77]) r:=by
 have hlt:=Dd he;unfold Au BB;simp only;rw[Af,he,obs,show([[77],[76],[108],[72],[86],[104],[118],[90]]:List Str)=KWi from rfl,KB,obs,zp (show([77]:Str)∈KW by decide)];unfold Cs;by_cases h0:way=[]
 ·subst h0;by_cases h4:ways.length=4
  ·have h4':((ways.length:Int)==4)=true:=by simp[h4]
   rw[zr rfl,zr rfl,zr h4];simp only[SC,SA,OA,Sy,Oz,SD,OB,SE,nT,nF,cF,cT,obs,h4',show decide (([]:Wy)≠[])=false from rfl,show(true==false)=false from rfl,show((5:Int) != 0)=true from rfl];exact⟨_,rfl,rfl,by omega⟩
  ·have h4':((ways.length:Int)==4)=false:=by simp;omega
   rw[zr rfl,zr rfl,zw h4];simp only[SC,SA,OA,Sy,Oz,SD,OB,SE,nT,nF,cF,cT,obs,h4',show decide (([]:Wy)≠[])=false from rfl,show(true==false)=false from rfl,show((0:Int) != 0)=false from rfl,Aw (show i<4611686018427387904 by omega),N6,show Lib.contains [72,86,104,118] [77]=false from by decide,za6];refine gP hW hs (by omega) false ways (way:=[]) (by simp) [77] (f:=fun x y=>(x,y)) fun j x y=> ?_
   unfold Bp;simp only[SC,SA,OA,Sy,Oz,SD,OB,SE,zf0,show decide (((0:Nat):Int)>0)=false from rfl,cF,obs,za6];rfl
 ·have hp:=zd6.2 h0;rw[zr rfl,zw h0];simp only[SC,SA,OA,Sy,Oz,SD,OB,SE,nT,nF,cF,cT,obs,show decide (way≠[])=true from zp h0,show(true==true)=true from rfl,show((4:Int) != 0)=true from rfl];exact⟨_,rfl,rfl,by omega⟩
theorem vE{i:Nat}(he:W[i]? =some [76])(ways:List Wy){way:Wy}(hw:way.length<=1000)(hwl:ways.length<=1000):∃r,Au (W,(i:Int),decide (way≠[])) ways way=some r/\EI W (Cs W i ways way [76]) r:=by
 have hlt:=Dd he;unfold Au BB;simp only;rw[Af,he,obs,show([[77],[76],[108],[72],[86],[104],[118],[90]]:List Str)=KWi from rfl,KB,obs,zp (show([76]:Str)∈KW by decide)];unfold Cs;rw[zw (by decide),zr (show([76]:Str)∈KW by decide)];by_cases h0:way=[]
 ·subst h0;rw[zr rfl];simp only[Sv,Su,Ox,Ss,Ow,Sw,Oy,Sx,nT,nF,cF,cT,obs,show decide (([]:Wy)≠[])=false from rfl,show(false==false)=true from rfl,show((4:Int) != 0)=true from rfl];exact⟨_,rfl,rfl,by omega⟩
 ·have hp:=zd6.2 h0;rw[zw h0];rw[zw (by decide)];by_cases h12:way.length=12
  ·rw[zr h12];simp only[Sv,Su,Ox,Ss,Ow,Sw,Oy,Sx,nT,nF,cF,cT,obs,show decide (way≠[])=true from zp h0,show(false==true)=false from rfl,show((way.length:Int)==12)=true by simp;omega,show((5:Int) != 0)=true from rfl];exact⟨_,rfl,rfl,by omega⟩
  ·rw[zw h12,zr rfl];simp only[Sv,Su,Ox,Ss,Ow,Sw,Oy,Sx,nT,nF,cF,cT,obs,show decide (way≠[])=true from zp h0,show(false==true)=false from rfl,show((way.length:Int)==12)=false by simp;omega,show((0:Int) != 0)=false from rfl,Aw (show i<4611686018427387904 by omega),N6,show Lib.contains [72,86,104,118] [76]=false from by decide,za6];refine gP hW hs (by omega) true ways hw [76] (f:=fun x y=>(x,y)) fun j x y=> ?_
   unfold Bp;simp only[Sv,Su,Ox,Ss,Ow,Sw,Oy,Sx,zp (show(way.length:Int)>0 by omega),cT,cF,EJ h0 hw,EH h0,obs,za6];rfl
theorem sD{i:Nat}(he:W[i]? =some [108])(ways:List Wy){way:Wy}(hw:way.length<=1000)(hwl:ways.length<=1000):∃r,Au (W,(i:Int),decide (way≠[])) ways way=some r/\EI W (Cs W i ways way [108]) r:=by
 have hlt:=Dd he;unfold Au BB;simp only;rw[Af,he,obs,show([[77],[76],[108],[72],[86],[104],[118],[90]]:List Str)=KWi from rfl,KB,obs,zp (show([108]:Str)∈KW by decide)];unfold Cs;rw[zw (by decide),zr (show([108]:Str)∈KW by decide)];by_cases h0:way=[]
 ·subst h0;rw[zr rfl];simp only[Oi,Oh,Lx,Og,Lw,Oj,Ly,Ok,nT,nF,cF,cT,obs,show decide (([]:Wy)≠[])=false from rfl,show(false==false)=true from rfl,show((4:Int) != 0)=true from rfl];exact⟨_,rfl,rfl,by omega⟩
 ·have hp:=zd6.2 h0;rw[zw h0];rw[zw (by decide)];by_cases h12:way.length=12
  ·rw[zr h12];simp only[Oi,Oh,Lx,Og,Lw,Oj,Ly,Ok,nT,nF,cF,cT,obs,show decide (way≠[])=true from zp h0,show(false==true)=false from rfl,show((way.length:Int)==12)=true by simp;omega,show((5:Int) != 0)=true from rfl];exact⟨_,rfl,rfl,by omega⟩
  ·rw[zw h12,zw (by decide),zr rfl];simp only[Oi,Oh,Lx,Og,Lw,Oj,Ly,Ok,nT,nF,cF,cT,obs,show decide (way≠[])=true from zp h0,show(false==true)=false from rfl,show((way.length:Int)==12)=false by simp;omega,show((0:Int) != 0)=false from rfl,Aw (show i<4611686018427387904 by omega),N6,show Lib.contains [72,86,104,118] [108]=false from by decide,za6];refine gP hW hs (by omega) true ways hw [108] (f:=fun x y=>(zi zj ((EP way).1+x),zi zj ((EP way).2+y))) fun j x y=> ?_
   unfold Bp;simp only[Oi,Oh,Lx,Og,Lw,Oj,Ly,Ok,zp (show(way.length:Int)>0 by omega),cT,cF,EJ h0 hw,EH h0,obs,za6];rfl
theorem vD{i:Nat}(he:W[i]? =some [72])(ways:List Wy){way:Wy}(hw:way.length<=1000)(hwl:ways.length<=1000):∃r,Au (W,(i:Int),decide (way≠[])) ways way=some r/\EI W (Cs W i ways way [72]) r:=by
 have hlt:=Dd he;unfold Au BB;simp only;rw[Af,he,obs,show([[77],[76],[108],[72],[86],[104],[118],[90]]:List Str)=KWi from rfl,KB,obs,zp (show([72]:Str)∈KW by decide)];unfold Cs;rw[zw (by decide),zr (show([72]:Str)∈KW by decide)];by_cases h0:way=[]
 ·subst h0;rw[zr rfl];simp only[Sp,So,Ou,Sn,Ot,Sq,Ov,Sr,nT,nF,cF,cT,obs,show decide (([]:Wy)≠[])=false from rfl,show(false==false)=true from rfl,show((4:Int) != 0)=true from rfl];exact⟨_,rfl,rfl,by omega⟩
 ·have hp:=zd6.2 h0;rw[zw h0];rw[zw (by decide)];by_cases h12:way.length=12
  ·rw[zr h12];simp only[Sp,So,Ou,Sn,Ot,Sq,Ov,Sr,nT,nF,cF,cT,obs,show decide (way≠[])=true from zp h0,show(false==true)=false from rfl,show((way.length:Int)==12)=true by simp;omega,show((5:Int) != 0)=true from rfl];exact⟨_,rfl,rfl,by omega⟩
  ·rw[zw h12,zw (by decide),zw (by decide),zr rfl];simp only[Sp,So,Ou,Sn,Ot,Sq,Ov,Sr,nT,nF,cF,cT,obs,show decide (way≠[])=true from zp h0,show(false==true)=false from rfl,show((way.length:Int)==12)=false by simp;omega,show((0:Int) != 0)=false from rfl,Aw (show i<4611686018427387904 by omega),N6,show Lib.contains [72,86,104,118] [72]=true from by decide,za6];refine Yy hW hs (by omega) true ways hw [72] (f:=fun x=>(x,(EP way).2)) fun j x=> ?_
   unfold Bp;simp only[Sp,So,Ou,Sn,Ot,Sq,Ov,Sr,zp (show(way.length:Int)>0 by omega),cT,cF,EJ h0 hw,EH h0,obs,za6];rfl
theorem sC{i:Nat}(he:W[i]? =some [104])(ways:List Wy){way:Wy}(hw:way.length<=1000)(hwl:ways.length<=1000):∃r,Au (W,(i:Int),decide (way≠[])) ways way=some r/\EI W (Cs W i ways way [104]) r:=by
 have hlt:=Dd he;unfold Au BB;simp only;rw[Af,he,obs,show([[77],[76],[108],[72],[86],[104],[118],[90]]:List Str)=KWi from rfl,KB,obs,zp (show([104]:Str)∈KW by decide)];unfold Cs;rw[zw (by decide),zr (show([104]:Str)∈KW by decide)];by_cases h0:way=[]
 ·subst h0;rw[zr rfl];simp only[Oc,Ob,Lt,Oa,Ls,Od,Lu,Oe,nT,nF,cF,cT,obs,show decide (([]:Wy)≠[])=false from rfl,show(false==false)=true from rfl,show((4:Int) != 0)=true from rfl];exact⟨_,rfl,rfl,by omega⟩
 ·have hp:=zd6.2 h0;rw[zw h0];rw[zw (by decide)];by_cases h12:way.length=12
  ·rw[zr h12];simp only[Oc,Ob,Lt,Oa,Ls,Od,Lu,Oe,nT,nF,cF,cT,obs,show decide (way≠[])=true from zp h0,show(false==true)=false from rfl,show((way.length:Int)==12)=true by simp;omega,show((5:Int) != 0)=true from rfl];exact⟨_,rfl,rfl,by omega⟩
  ·rw[zw h12,zw (by decide),zw (by decide),zw (by decide),zr rfl];simp only[Oc,Ob,Lt,Oa,Ls,Od,Lu,Oe,nT,nF,cF,cT,obs,show decide (way≠[])=true from zp h0,show(false==true)=false from rfl,show((way.length:Int)==12)=false by simp;omega,show((0:Int) != 0)=false from rfl,Aw (show i<4611686018427387904 by omega),N6,show Lib.contains [72,86,104,118] [104]=true from by decide,za6];refine Yy hW hs (by omega) true ways hw [104] (f:=fun x=>(zi zj ((EP way).1+x),(EP way).2)) fun j x=> ?_
   unfold Bp;simp only[Oc,Ob,Lt,Oa,Ls,Od,Lu,Oe,zp (show(way.length:Int)>0 by omega),cT,cF,EJ h0 hw,EH h0,obs,za6];rfl
theorem vG{i:Nat}(he:W[i]? =some [86])(ways:List Wy){way:Wy}(hw:way.length<=1000)(hwl:ways.length<=1000):∃r,Au (W,(i:Int),decide (way≠[])) ways way=some r/\EI W (Cs W i ways way [86]) r:=by
 have hlt:=Dd he;unfold Au BB;simp only;rw[Af,he,obs,show([[77],[76],[108],[72],[86],[104],[118],[90]]:List Str)=KWi from rfl,KB,obs,zp (show([86]:Str)∈KW by decide)];unfold Cs;rw[zw (by decide),zr (show([86]:Str)∈KW by decide)];by_cases h0:way=[]
 ·subst h0;rw[zr rfl];simp only[SI,SH,OD,SG,OC,SJ,OE,SK,nT,nF,cF,cT,obs,show decide (([]:Wy)≠[])=false from rfl,show(false==false)=true from rfl,show((4:Int) != 0)=true from rfl];exact⟨_,rfl,rfl,by omega⟩
 ·have hp:=zd6.2 h0;rw[zw h0];rw[zw (by decide)];by_cases h12:way.length=12
  ·rw[zr h12];simp only[SI,SH,OD,SG,OC,SJ,OE,SK,nT,nF,cF,cT,obs,show decide (way≠[])=true from zp h0,show(false==true)=false from rfl,show((way.length:Int)==12)=true by simp;omega,show((5:Int) != 0)=true from rfl];exact⟨_,rfl,rfl,by omega⟩
  ·rw[zw h12,zw (by decide),zw (by decide),zw (by decide),zw (by decide),zr rfl];simp only[SI,SH,OD,SG,OC,SJ,OE,SK,nT,nF,cF,cT,obs,show decide (way≠[])=true from zp h0,show(false==true)=false from rfl,show((way.length:Int)==12)=false by simp;omega,show((0:Int) != 0)=false from rfl,Aw (show i<4611686018427387904 by omega),N6,show Lib.contains [72,86,104,118] [86]=true from by decide,za6];refine Yy hW hs (by omega) true ways hw [86] (f:=fun x=>((EP way).1,x)) fun j x=> ?_
   unfold Bp;simp only[SI,SH,OD,SG,OC,SJ,OE,SK,zp (show(way.length:Int)>0 by omega),cT,cF,EJ h0 hw,EH h0,obs,za6];rfl
theorem sE{i:Nat}(he:W[i]? =some [118])(ways:List Wy){way:Wy}(hw:way.length<=1000)(hwl:ways.length<=1000):∃r,Au (W,(i:Int),decide (way≠[])) ways way=some r/\EI W (Cs W i ways way [118]) r:=by
 have hlt:=Dd he;unfold Au BB;simp only;rw[Af,he,obs,show([[77],[76],[108],[72],[86],[104],[118],[90]]:List Str)=KWi from rfl,KB,obs,zp (show([118]:Str)∈KW by decide)];unfold Cs;rw[zw (by decide),zr (show([118]:Str)∈KW by decide)];by_cases h0:way=[]
 ·subst h0;rw[zr rfl];simp only[On,Om,LA,Ol,Lz,Oo,LC,Oq,nT,nF,cF,cT,obs,show decide (([]:Wy)≠[])=false from rfl,show(false==false)=true from rfl,show((4:Int) != 0)=true from rfl];exact⟨_,rfl,rfl,by omega⟩
 ·have hp:=zd6.2 h0;rw[zw h0];rw[zw (by decide)];by_cases h12:way.length=12
  ·rw[zr h12];simp only[On,Om,LA,Ol,Lz,Oo,LC,Oq,nT,nF,cF,cT,obs,show decide (way≠[])=true from zp h0,show(false==true)=false from rfl,show((way.length:Int)==12)=true by simp;omega,show((5:Int) != 0)=true from rfl];exact⟨_,rfl,rfl,by omega⟩
  ·rw[zw h12,zw (by decide),zw (by decide),zw (by decide),zw (by decide),zw (by decide)];simp only[On,Om,LA,Ol,Lz,Oo,LC,Oq,nT,nF,cF,cT,obs,show decide (way≠[])=true from zp h0,show(false==true)=false from rfl,show((way.length:Int)==12)=false by simp;omega,show((0:Int) != 0)=false from rfl,Aw (show i<4611686018427387904 by omega),N6,show Lib.contains [72,86,104,118] [118]=true from by decide,za6];refine Yy hW hs (by omega) true ways hw [118] (f:=fun x=>((EP way).1,zi zj ((EP way).2+x))) fun j x=> ?_
   unfold Bp;simp only[On,Om,LA,Ol,Lz,Oo,LC,Oq,zp (show(way.length:Int)>0 by omega),cT,cF,EJ h0 hw,EH h0,obs,za6];rfl
theorem vH{i:Nat}(he:W[i]? =some [90])(ways:List Wy){way:Wy}(hw:way.length<=1000)(hwl:ways.length<=1000):∃r,Au (W,(i:Int),decide (way≠[])) ways way=some r/\EI W (Cs W i ways way [90]) r:=by
 have hlt:=Dd he;unfold Au BB;simp only;rw[Af,he,obs,show([[77],[76],[108],[72],[86],[104],[118],[90]]:List Str)=KWi from rfl,KB,obs,zp (show([90]:Str)∈KW by decide)];unfold Cs;rw[zw (by decide),zr (show([90]:Str)∈KW by decide)];by_cases h0:way=[]
 ·subst h0;rw[zr rfl];simp only[VP,VO,Q9,VN,Q8,VQ,Ra,VR,nT,nF,cF,cT,obs,show decide (([]:Wy)≠[])=false from rfl,show(false==false)=true from rfl,show((4:Int) != 0)=true from rfl];exact⟨_,rfl,rfl,by omega⟩
 ·have hp:=zd6.2 h0;rw[zw h0];rw[zr rfl];by_cases h3:way.length<3
  ·rw[zr h3];simp only[VP,VO,Q9,VN,Q8,VQ,Ra,VR,nT,nF,cF,cT,obs,show decide (way≠[])=true from zp h0,show(false==true)=false from rfl,zp (show(way.length:Int)<3 by omega),show((5:Int) != 0)=true from rfl];exact⟨_,rfl,rfl,by omega⟩
  ·rw[zw h3];simp only[VP,VO,Q9,VN,Q8,VQ,Ra,VR,nT,nF,cF,cT,obs,show decide (way≠[])=true from zp h0,show(false==true)=false from rfl,zq (show ¬(way.length:Int)<3 by omega),show((0:Int) != 0)=false from rfl,Aw (show i<4611686018427387904 by omega)];rw[Bu (by simp[Aa];omega) (by simp[Aa];omega),obs];exact⟨_,rfl,rfl⟩
theorem sF{i:Nat}{w:Str}(he:W[i]? =some w)(ways:List Wy){way:Wy}(hw:way.length<=1000)(hwl:ways.length<=1000):∃r,Au (W,(i:Int),decide (way≠[])) ways way=some r/\EI W (Cs W i ways way w) r:=by
 by_cases hk:w∈KW
 ·have hk':w=[77]\/w=[76]\/w=[108]\/w=[72]\/w=[104]\/w=[86]\/w=[118]\/w=[90]:=by simpa[KW]using hk
  rcases hk' with rfl|rfl|rfl|rfl|rfl|rfl|rfl|rfl
  ·exact vF hW hs he ways hw hwl
  ·exact vE hW hs he ways hw hwl
  ·exact sD hW hs he ways hw hwl
  ·exact vD hW hs he ways hw hwl
  ·exact sC hW hs he ways hw hwl
  ·exact vG hW hs he ways hw hwl
  ·exact sE hW hs he ways hw hwl
  ·exact vH hW hs he ways hw hwl
 ·exact vI hW hs he hk _ ways way
end
def CF(W:List Str)(i:Nat)(ways:List Wy)(way:Wy):CV->Prop
 |.inl (c,_)=>c≠0
 |.inr (j,ways',way')=>i<j/\j<=W.length/\ways'.length<=ways.length+1/\way'.length<=way.length+1
section
variable {W:List Str} (hW:W.length<=1000) (hs:∀w∈W,w.length<=1000)
include hW hs
theorem Am2{i j:Nat}(hi:i<j)(hj:j<=W.length)(ways:List Wy)(way:Wy)(p:Pn):CF W i ways way (ptV GV j ways way p):=by
 unfold ptV;split
 ·exact⟨hi,hj,by omega,by simp⟩
 ·show(6:Int)≠0;omega
theorem uP{i j:Nat}(hi:i<j)(ways:List Wy)(way:Wy)(f:Int->Pn):CF W i ways way (one W j ways way f):=by
 unfold one;cases hz:Fh W j with
 |none=>show(3:Int)≠0;omega
 |some x=>exact Am2 hW hs (by omega) (LJ hW hs hz) ways way _
theorem Af5{i j:Nat}(hi:i<j)(ways:List Wy)(way:Wy)(f:Int->Int->Pn):CF W i ways way (two W j ways way f):=by
 unfold two;cases hz:Fh W j with
 |none=>show(3:Int)≠0;omega
 |some x=>exact uP hW hs (by omega) ways way _
theorem uN{i:Nat}{w:Str}(he:W[i]? =some w)(ways:List Wy)(way:Wy):CF W i ways way (Cs W i ways way w):=by
 have hlt:=Dd he;unfold Cs
 repeat' split
 all_goals first
  |exact Af5 hW hs (by omega) ways way _
  |exact uP hW hs (by omega) ways way _
  |(show(5:Int)≠0;omega)
  |(show(4:Int)≠0;omega)
  |(show(2:Int)≠0;omega)
  |exact⟨by omega,by omega,by simp,by simp⟩
def FB(W:List Str):Nat->Nat->List Wy->Wy->(Int×Nat)⊕(List Wy×Wy)
 |0,_,ways,way=>.inr (ways,way)
 |n+1,i,ways,way=>match W[i]? with|none=>.inr (ways,way)|some w=>(match Cs W i ways way w with|.inl e=>.inl e|.inr (j,ways',way')=>FB W n j ways' way')
abbrev SP:=(List Str×Int×Int)×List Wy×Wy
def spB:SP->Option (SP⊕SP):=fun s=>DM s.1 s.2.1 s.2.2
def Ar0(W:List Str):((Int×Nat)⊕(List Wy×Wy))->SP->Prop
 |.inl (c,i),r=>r.1.2=((i:Int),c)/\c≠0
 |.inr (ways,way),r=>r=((W,(W.length:Int),0),ways,way)
omit hW hs in
theorem Aj9 (W:List Str) (i c:Int) (hc:c≠0) (ways:List Wy) (way:Wy):Ad spB ((W,i,c),ways,way)=some ((W,i,c),ways,way):=by
 refine Ak ?_;unfold spB DM;simp only;by_cases h:i<(W.length:Int)
 ·rw[zp h,cT,show(c==0)=false by simpa using hc,cF]
 ·rw[zq h,cF]
theorem zQ:∀(n i:Nat)(ways:List Wy)(way:Wy),W.length<n+i->i<=W.length->ways.length<=i->way.length<=i->∃r,Ad spB ((W,(i:Int),0),ways,way)=some r/\Ar0 W (FB W n i ways way) r:=by
 intro n
 induction n with
 |zero=>intro i ways way h1 h2;omega
 |succ n ih=>
  intro i ways way h1 h2 h3 h4;unfold FB;by_cases hi:i=W.length
  ·subst hi;rw[List.getElem?_eq_none (za7 _)];refine⟨_,Ak (r:=((W,(W.length:Int),0),ways,way)) ?_,rfl⟩;unfold spB DM;simp only;rw[zq,cF]
  ·have he:W[i]? =some (W[i]'(by omega)):=za1 (by omega);generalize (W[i]'(by omega))=w at he;have hc:=tH hW hs he ways (way:=way) (by omega) (by omega);have hf:=uN hW hs he ways way;rw[he];simp only;have hgo:spB ((W,(i:Int),0),ways,way)=some (.inl (Vx W ways way (Cs W i ways way w))):=by
    unfold spB DM;simp only;rw[zp,cT,show((0:Int)==0)=true from rfl,cT,hc,obs]
   rw[AP hgo];cases hz:Cs W i ways way w with
   |inl e=>
    obtain⟨c,j⟩:=e;rw[hz]at hf;exact⟨_,Aj9 W _ c hf ways way,rfl,hf⟩
   |inr v=>
    obtain⟨j,ways',way'⟩:=v;rw[hz]at hf;obtain⟨f1,f2,f3,f4⟩:=hf;exact ih j ways' way' (by omega) f2 (by omega) (by omega)
abbrev IP:=(List Str×Int×Bool)×List Wy×Wy
def ipB:IP->Option (IP⊕(IP⊕(List Wy×Int×Int×Bool))):=fun s=>E5 s.1 s.2.1 s.2.2
def Aq8(W:List Str):((Int×Nat)⊕(List Wy×Wy))->(IP⊕(List Wy×Int×Int×Bool))->Prop
 |.inl (c,i),r=>r=.inr ([],c,(i:Int),false)
 |.inr (ways,way),r=>r=.inl ((W,(W.length:Int),decide (way≠[])),ways,way)
theorem yR:∀(n i:Nat)(ways:List Wy)(way:Wy),W.length<n+i->i<=W.length->ways.length<=i->way.length<=i->∃r,Ad ipB ((W,(i:Int),decide (way≠[])),ways,way)=some r/\Aq8 W (FB W n i ways way) r:=by
 intro n
 induction n with
 |zero=>intro i ways way h1 h2;omega
 |succ n ih=>
  intro i ways way h1 h2 h3 h4;unfold FB;by_cases hi:i=W.length
  ·subst hi;rw[List.getElem?_eq_none (za7 _)];refine⟨.inl ((W,(W.length:Int),decide (way≠[])),ways,way),Ak ?_,rfl⟩;unfold ipB E5;simp only;rw[zq (show ¬(W.length:Int)<(W.length:Int) by omega),cF]
  ·have he:W[i]? =some (W[i]'(by omega)):=za1 (by omega);generalize (W[i]'(by omega))=w at he;obtain⟨r,hc,hE⟩:=sF hW hs he ways (way:=way) (by omega) (by omega);have hf:=uN hW hs he ways way;rw[he];simp only;have hgo:ipB ((W,(i:Int),decide (way≠[])),ways,way)=bif(r.2.2.2.1 != 0)then some (.inr (.inr ([],r.2.2.2.1,r.2.2.2.2,false)))else some (.inl ((r.1.1,r.1.2.1,r.1.2.2),r.2.1,r.2.2.1)):=by
    unfold ipB E5;simp only;rw[zp (show(i:Int)<(W.length:Int) by omega),cT,hc,obs]
   cases hz:Cs W i ways way w with
   |inl e=>
    obtain⟨c,j⟩:=e;rw[hz]at hf hE;have hE:r.2.2.2=(c,(j:Int))/\c≠0:=hE;rw[hE.1,show(c != 0)=true by simpa[bne]using hE.2,cT]at hgo;exact⟨_,Ak hgo,rfl⟩
   |inr v=>
    obtain⟨j,ways',way'⟩:=v;rw[hz]at hf hE;obtain⟨f1,f2,f3,f4⟩:=hf;have hE:r=((W,(j:Int),decide (way'≠[])),ways',way',0,0):=hE;subst hE;simp only at hgo;rw[show((0:Int) != 0)=false from rfl,cF]at hgo;rw[AP hgo];exact ih j ways' way' (by omega) f2 (by omega) (by omega)
end
def GD(s:Str):List Wy×Int×Int×Bool:=
 if 1<=s.length/\s.length<=400 then(match FB (Aj 32 s) ((Aj 32 s).length+1) 0 [] []with
  |.inl (c,i)=>([],c,(i:Int),false)
  |.inr (ways,way)=>if way≠[]then([],7,((Aj 32 s).length:Int),false)else(ways,0,0,true))else([],1,0,false)
theorem XU{c:UInt8}:∀(n:Nat)(s:Str),s.length<=n->(Aj c s).length<=s.length+1:=by
 intro n
 induction n with
 |zero=>
  intro s hs;have:s=[]:=zb2 (by omega);subst this;rw[Hm (by simp)];simp
 |succ n ih=>
  intro s hs;rcases gz c s with h|⟨x,r,rfl,h⟩
  ·rw[Hm h];simp
  ·rw[LM h];rw[zb5,zb7]at hs⊢
   have:=ih r (by omega);rw[zb7];omega
theorem lB{s:Str}(hs:s.length<4611686018427387904):Jj s=some (GD s):=by
 unfold Jj GD;by_cases h0:s.length=0
 ·rw[show((s.length:Int)==0)=true by simp[h0],cT,zw (by omega)]
 rw[show((s.length:Int)==0)=false from beq_eq_false_iff_ne.2 (by omega),cF];by_cases h1:400<s.length
 ·rw[zp,cT,zw (by omega)]
 rw[zq,cF,oF (by omega),obs,zr (by omega)];have hc:=XU (c:=32) s.length s (za7 _);have hl:∀w∈Aj 32 s,w.length<=1000:=fun w hw=>by have:=V4 s.length s (za7 _) w hw;omega
 obtain⟨r,h2,h3⟩:=zQ (W:=Aj 32 s) (by omega) hl ((Aj 32 s).length+1) 0 [] [] (by omega) (by omega) (by simp) (by simp);have h2':Ad (fun(s:(List Str×Int×Int)×List Wy×Wy)=>DM s.1 s.2.1 s.2.2) ((Aj 32 s,(0:Int),(0:Int)),([]:List Wy),([]:Wy))=some r:=h2;rw[h2',obs];cases hz:FB (Aj 32 s) ((Aj 32 s).length+1) 0 [] []with
 |inl e=>
  obtain⟨c,i⟩:=e;rw[hz]at h3;have h3:r.1.2=((i:Int),c)/\c≠0:=h3;simp only[h3.1];rw[show(c==0)=false by simpa using h3.2,cF,obs];simp only[za6];rw[show(c != 0)=true by simpa[bne]using h3.2,cT]
 |inr v=>
  obtain⟨ways,way⟩:=v;rw[hz]at h3;have h3:r=((Aj 32 s,((Aj 32 s).length:Int),0),ways,way):=h3;subst h3;simp only;rw[show((0:Int)==0)=true from rfl,cT];by_cases hw:way=[]
  ·subst hw;rw[show decide (((([]:Wy).length:Nat):Int)>0)=false from rfl,cF,obs,zw (by simp)];rfl
  ·have hp:=zd6.2 hw;rw[zp,cT,obs,zr hw];rfl
theorem XG{s:Str}(hs:s.length<4294967281):GO s=some (GD s):=by
 unfold GO GD;have hin:AE (s.length:Int) 1 400=some (decide (1<=s.length/\s.length<=400)):=by
  unfold AE;by_cases h:(s.length:Int)>=1
  ·rw[zp h,cT];congr 1;rw[decide_eq_decide];omega
  ·rw[zq h,cF];congr 1;symm;rw[decide_eq_false];omega
 rw[hin,obs];by_cases h:1<=s.length/\s.length<=400
 ·rw[zp h,nT,cF,zr h];unfold E9;rw[lT hs,obs];have hc:=XU (c:=32) s.length s (za7 _);have hl:∀w∈Aj 32 s,w.length<=1000:=fun w hw=>by have:=V4 s.length s (za7 _) w hw;omega
  obtain⟨r,h2,h3⟩:=yR (W:=Aj 32 s) (by omega) hl ((Aj 32 s).length+1) 0 [] [] (by omega) (by omega) (by simp) (by simp);have h2':Ad (fun(s:(List Str×Int×Bool)×List Wy×Wy)=>E5 s.1 s.2.1 s.2.2) ((Aj 32 s,(0:Int),false),([]:List Wy),([]:Wy))=some r:=h2;rw[h2',obs];cases hz:FB (Aj 32 s) ((Aj 32 s).length+1) 0 [] []with
  |inl e=>
   obtain⟨c,i⟩:=e;rw[hz]at h3;have h3:r=.inr ([],c,(i:Int),false):=h3;subst h3;rfl
  |inr v=>
   obtain⟨ways,way⟩:=v;rw[hz]at h3;have h3:r=.inl ((Aj 32 s,((Aj 32 s).length:Int),decide (way≠[])),ways,way):=h3;subst h3;simp only[zg0];by_cases hw:way=[]
   ·subst hw;rw[show decide (([]:Wy)≠[])=false from rfl,cF,zw (by simp)]
   ·rw[zp hw,cT,zr hw]
 ·rw[zq h,nF,cT,zw h]
theorem Ae0{n:Int}(h1:0<=n)(h2:n<256):zi .u8 n=n:=by rw[IntKind.wrap_u8];omega
theorem ZZ{n:Nat}(h:n<10):BK [zi .u8 (zi zj ((48:Int)+(n:Int)))]=[UInt8.ofNat (48+n)]:=by
 rw[Ae,Ae0 (by omega) (by omega)];unfold BK;simp only[zb9,List.map_nil]
 congr 2
theorem pe:∀(f n:Nat),n<f->n<9223372036854775808->I4 f (n:Int)=some (Lib.decDigits n)
 |0,n,h,_=>by omega
 |f+1,n,h,h1=>by
  unfold I4 U5;by_cases hn:n<10
  ·rw[zp,cT,ZZ hn,Lib.decDigits,dif_pos hn]
  ·have e1:Int.tdiv (n:Int) 10=((n/10:Nat):Int):=by rw[zc7 (by omega)];omega
   have e2:Int.tmod (n:Int) 10=((n%10:Nat):Int):=by rw[zc6 (by omega)];omega
   rw[zq,cF,e1,Ae,pe f (n/10) (by omega) (by omega),obs,e2,ZZ (by omega),AK (by
    have:=Jm (n:=n/10) (by omega);simp;omega),obs]
   conv=>rhs;rw[Lib.decDigits,dif_neg hn]
theorem iD{n:Nat}(h:n<9223372036854775808):Fl (n:Int)=some (Lib.decDigits n):=by
 unfold Fl;exact pe _ n (by omega) h
theorem NA{n:Int}(h0:0<=n:=by omega)(h1:n<9223372036854775808:=by omega):Fl n=some (Lib.itoa n):=by
 obtain⟨m,rfl⟩:∃m:Nat,n=(m:Int):=⟨n.toNat,by omega⟩;rw[iD (by omega),JU h0,zc2]
theorem Ny{n:Int}(h0: -9223372036854775808<n:=by omega)(h1:n<9223372036854775808:=by omega):EV n=some (Lib.itoa n):=by
 unfold EV Lib.itoa;by_cases hn:n<0
 ·obtain⟨m,rfl⟩:∃m:Nat,n= -(m:Int):=⟨n.natAbs,by omega⟩;rw[zp hn,cT,zr hn,Ae,show(0:Int)- -(m:Int)=(m:Int) by omega,iD (by omega),obs,AK (by
   have:=Jm (n:=m) (by omega);simp;omega),obs]
  rw[Int.natAbs_neg,zf4];rfl
 ·obtain⟨m,rfl⟩:∃m:Nat,n=(m:Int):=⟨n.toNat,by omega⟩;rw[zq hn,cF,zw hn,iD (by omega),obs,zc2]
theorem sL(xs:List Str)(x sep:Str):Lib.join (xs++[x]) sep=if xs=[]then x else Lib.join xs sep++(sep++x):=by
 cases xs with
 |nil=>rw[zr rfl,List.nil_append,Lib.join_one]
 |cons y ys=>
  rw[zw (by simp),ze8,Lib.join_cons,Lib.join_cons];simp[Lib.joinTail]
theorem au{c:Nat}:∀{xs:List Str},(∀x∈xs,x.length<=c)->∀b,(Lib.join xs [b]).length<=(c+1)*xs.length
 |[],_,b=>by simp[Lib.join_nil]
 |x::xs,h,b=>by
  rw[Lib.join_cons];have ht:∀ys:List Str,(∀y∈ys,y.length<=c)->(Lib.joinTail [b] ys).length<=(c+1)*ys.length:=by
   intro ys
   induction ys with
   |nil=>intro _;simp[Lib.joinTail]
   |cons y ys ih=>
    intro hy;have h1:=ih (fun z hz=>hy z (ze4 _ hz));have h2:=hy y (List.mem_cons_self ..);simp only[Lib.joinTail,zb9,List.flatten_cons,zb5,zb7,zf0]at h1⊢
    rw[Nat.mul_add];omega
  have h1:=ht xs (fun z hz=>h z (ze4 _ hz));have h2:=h x (List.mem_cons_self ..);rw[zb5,zb7,Nat.mul_add];omega
theorem wb{l:List Str}{sep:Str}(h1:l.length<=140737488355328)(h2:(Lib.join l sep).length<=140737488355328):F3 l sep=some (Lib.join l sep):=by
 unfold F3 YP;rw[zr ⟨h1,h2⟩]
abbrev A3:=List (List (Int×Int))
def Bn(l:A3):Bool:=l.all Fe&&(decide (1<=l.length)&&decide (l.length<=4))
theorem Aq6(n:Nat):C7 (n:Int) 1 4=(decide (1<=n)&&decide (n<=4)):=by
 unfold C7
 congr 1<;>(apply decide_eq_decide.2;omega)
theorem oB{l:A3}(hl:ED l)(hs:∀w∈l,ED w):Kr l=some (Bn l):=by
 unfold Kr Bn;have hl':=hl;unfold ED at hl';have key:=Fc (body:=fun s:A3×A3×Int×Int=>FP s.1 s.2.1 s.2.2.1 s.2.2.2) (l:=l) (st:=fun k=>(l,l,(l.length:Int),(k:Int))) (p:=Fe) (fin:=.inl l) (bad:=fun k=>.inr false)
  (fun k a hk hp=>by
   have:=Dd hk;unfold FP;simp only[OJ hk,cond_true,Af,hk,za0,iE (hs a (za3 hk)),hp,zf5,cond_false,Aw (show k<4611686018427387904 by omega)])
  (fun k a hk hp=>by
   unfold FP;simp only[OJ hk,cond_true,Af,hk,za0,iE (hs a (za3 hk)),hp,Bool.not_false])
  (by unfold FP;simp only[ac,cond_false])
 cases hall:l.all Fe with
 |true=>
  have h:=key.1 hall;rw[show((0:Nat):Int)=0 from rfl]at h;simp only[h,za0,zg0,S0,Aq6,ze2]
 |false=>
  obtain⟨k,_,h⟩:=key.2 hall;rw[show((0:Nat):Int)=0 from rfl]at h;simp only[h,za0,za6,zf8]
theorem nE{l:A3}(hl:ED l)(hs:∀w∈l,ED w):Kk l=some (Bn l):=by
 unfold Kk Bn B2 Cz;have hl':=hl;unfold ED at hl';have key:=Fc (body:=fun s:A3×Int×Int=>AZ s.1 s.2.1 s.2.2) (l:=l) (st:=fun k=>(l,(l.length:Int),(k:Int))) (p:=Fe) (fin:=.inl ()) (bad:=fun k=>.inr (k:Int))
  (fun k a hk hp=>by
   have:=Dd hk;unfold AZ HR;simp only[OJ hk,cond_true,Af,hk,za0,gM (hs a (za3 hk)),hp,zf5,cond_false,Aw (show k<4611686018427387904 by omega)])
  (fun k a hk hp=>by
   unfold AZ HR;simp only[OJ hk,cond_true,Af,hk,za0,gM (hs a (za3 hk)),hp,Bool.not_false])
  (by unfold AZ;simp only[ac,cond_false])
 rw[Lr,obs,Aq6];cases hw:(decide (1<=l.length)&&decide (l.length<=4))with
 |false=>rw[cF,Bool.and_false]
 |true=>
  rw[cT,Bool.and_true];cases hall:l.all Fe with
  |true=>
   have h:=key.1 hall;rw[show((0:Nat):Int)=0 from rfl]at h;simp only[h,za0,zg0];rfl
  |false=>
   obtain⟨k,_,h⟩:=key.2 hall;rw[show((0:Nat):Int)=0 from rfl]at h;simp only[h,za0,za6];have:decide ((k:Int)>=0)=true:=by simp
   rw[this];rfl
theorem Iu{l:A3}(h:Bn l=true):l.length<=4/\∀w∈l,w.length<=12/\3<=w.length/\∀p∈w,-1000<=p.1/\p.1<=1000/\ -1000<=p.2/\p.2<=1000:=by
 unfold Bn at h;rw[za2,za2,za5]at h;refine⟨by simpa using h.2.2,fun w hw=> ?_⟩;have h1:=h.1 w hw;unfold Fe at h1;simp only[za2,decide_eq_true_eq,za5]at h1;exact⟨h1.1.2,h1.1.1,fun p hp=>Sg.1 (h1.2 p hp)⟩
def ptW(k:Nat)(p:P2):List Str:=[if k=0 then [77]else [76],Lib.itoa p.1,Lib.itoa p.2]
def IK(w:List P2)(k:Nat):List Str:=((List.range k).map fun i=>match w[i]? with|some p=>ptW i p|none=>[]).flatten
def Rv(w:List P2):List Str:=IK w w.length++[[90]]
def Cd(l:A3)(k:Nat):List Str:=((l.take k).map Rv).flatten
def sp(ws:List Str):Str:=(ws.map (· ++[32])).flatten
theorem We(a b:List Str):sp (a++b)=sp a++sp b:=by unfold sp;simp
theorem YJ(a:List Str)(z:Str):Lib.join (a++[z]) [32]=sp a++z:=by
 induction a with
 |nil=>rw[List.nil_append,Lib.join_one];rfl
 |cons x a ih=>
  have e:∀(y:Str)(r:List Str),Lib.join (x::y::r) [32]=x++32::Lib.join (y::r) [32]:=by
   intro y r;rw[Lib.join_cons,Lib.join_cons];simp[Lib.joinTail]
  cases a with
  |nil=>
   rw[List.nil_append]at ih;rw[ze8,List.nil_append,e,ih];simp[sp]
  |cons y r=>
   rw[ze8]at ih;rw[ze8,ze8,e,ih];unfold sp;simp
theorem KZ{w:List P2}{k:Nat}{p:P2}(h:w[k]? =some p):IK w (k+1)=IK w k++ptW k p:=by
 unfold IK;rw[List.range_succ,List.map_append,List.flatten_append];simp[h]
theorem Hq{l:A3}{k:Nat}{w:List P2}(h:l[k]? =some w):Cd l (k+1)=Cd l k++Rv w:=by
 unfold Cd;rw[ze7,h];simp
theorem LQ(w:List P2):∀k,(IK w k).length<=3*k
 |0=>by simp[IK]
 |k+1=>by
  cases h:w[k]? with
  |some p=>
   have:=LQ w k;rw[KZ h,zb5];simp[ptW];omega
  |none=>
   have:=LQ w k;have e:IK w (k+1)=IK w k:=by
    unfold IK;rw[List.range_succ,List.map_append,List.flatten_append];simp[h]
   rw[e];omega
theorem yd(w:List P2):(Rv w).length<=3*w.length+1:=by
 have:=LQ w w.length;unfold Rv;rw[zb5];simp;omega
theorem K1{l:A3}(h:∀w∈l,w.length<=12):∀k,(Cd l k).length<=37*k
 |0=>by simp[Cd]
 |k+1=>by
  have:=K1 h k;cases hk:l[k]? with
  |some w=>
   have h1:=yd w;have h2:=h w (za3 hk);rw[Hq hk,zb5];omega
  |none=>
   unfold Cd at this⊢
   rw[ze7,hk];simp at this⊢;omega
def SW(ws:List Str):Prop:=∀x∈ws,x.length<=21
theorem SW.append{a b:List Str}(ha:SW a)(hb:SW b):SW (a++b):=fun x hx=>(zb0.1 hx).elim (ha x) (hb x)
theorem Ai7{k:Nat}{p:P2}(h: -1000<=p.1/\p.1<=1000/\ -1000<=p.2/\p.2<=1000):SW (ptW k p):=by
 intro x hx;unfold ptW at hx;rcases zc1.1 hx with rfl|hx
 ·split<;>simp
 rcases zc1.1 hx with rfl|hx
 ·exact BJ (by omega) (by omega)
 cases zd0.1 hx;exact BJ (by omega) (by omega)
theorem YD{w:List P2}(h:∀p∈w,-1000<=p.1/\p.1<=1000/\ -1000<=p.2/\p.2<=1000):∀k,k<=w.length->SW (IK w k)
 |0,_=>fun x hx=>by simp[IK]at hx
 |k+1,hk=>by
  have he:w[k]? =some w[k]:=za1 (by omega);rw[KZ he];exact(YD h k (by omega)).append (Ai7 (h _ (List.getElem_mem _)))
theorem Aa0{w:List P2}(h:∀p∈w,-1000<=p.1/\p.1<=1000/\ -1000<=p.2/\p.2<=1000):SW (Rv w):=
 (YD h w.length (za7 _)).append (fun x hx=>by cases zd0.1 hx;simp)
theorem bN{l:A3}(h:∀w∈l,∀p∈w,-1000<=p.1/\p.1<=1000/\ -1000<=p.2/\p.2<=1000)(k:Nat):SW (Cd l k):=by
 intro x hx;unfold Cd at hx;obtain⟨ws,hws,hx⟩:=List.mem_flatten.1 hx;obtain⟨w,hw,rfl⟩:=zd3.1 hws;exact Aa0 (h w (List.mem_of_mem_take hw)) x hx
theorem oN{ws:List Str}(h:SW ws):(sp ws).length<=22*ws.length:=by
 induction ws with
 |nil=>simp[sp]
 |cons x ws ih=>
  have h1:=ih (fun y hy=>h y (ze4 _ hy));have h2:=h x (List.mem_cons_self ..);unfold sp at h1⊢
  rw[zb9,List.flatten_cons,zb5,zb5,zb7];simp only[zb7,zf0];omega
def DF(l:A3):Str:=Lib.join (Cd l l.length) [32]
def cv(l:A3)(k:Nat):Str:=Lib.join (Cd l k) [32]
theorem zu{l:A3}{k:Nat}(hk:k<l.length)(h0:k≠0):cv l k++[32]=sp (Cd l k):=by
 obtain⟨j,rfl⟩:∃j,k=j+1:=⟨k-1,by omega⟩;have he:l[j]? =some l[j]:=za1 (by omega);unfold cv;rw[Hq he];unfold Rv;rw[<-ze6,YJ,We (Cd l j++IK l[j] l[j].length),ze6];rfl
section
variable {l:A3} (hl:l.length<=4) (hw:∀w∈l,w.length<=12/\3<=w.length/\∀p∈w,-1000<=p.1/\p.1<=1000/\ -1000<=p.2/\p.2<=1000)
include hl hw
theorem Ac1{j:Nat}(hj:j<l.length){w:List P2}(hjw:l[j]? =some w)(a b:Int):
  Ad (fun(s:Str×A3×Int×Int×List P2×Int×Int)=>FR s.1 s.2.1 s.2.2.1 s.2.2.2.1 s.2.2.2.2.1 s.2.2.2.2.2.1 s.2.2.2.2.2.2) (sp (Cd l j),l,a,b,w,(w.length:Int),(0:Int))=
   some (sp (Cd l j++IK w w.length),l,a,b):=by
 have hin:=hw w (za3 hjw);have hsw:=bN (l:=l) (fun w hw'=>(hw w hw').2.2) j;have hwl:=K1 (l:=l) (fun w hw'=>(hw w hw').1) j;obtain⟨_,h1,_⟩:=Bw (body:=fun(s:Str×A3×Int×Int×List P2×Int×Int)=>FR s.1 s.2.1 s.2.2.1 s.2.2.2.1 s.2.2.2.2.1 s.2.2.2.2.2.1 s.2.2.2.2.2.2)
  (fun k (_:Unit)=>(sp (Cd l j++IK w k),l,a,b,w,(w.length:Int),(k:Int))) (fun _=>(sp (Cd l j++IK w w.length),l,a,b)) (fun _ _=>True) w.length (by
   intro k _ hk _;have he:w[k]? =some w[k]:=za1 hk;generalize w[k]=p at he;have hp:=hin.2.2 p (za3 he);have n1:=BJ (n:=p.1);have n2:=BJ (n:=p.2);have hsl:=oN (hsw.append (YD hin.2.2 k (by omega)));have hpl:=LQ w k;rw[zb5]at hsl;refine⟨(),?_,trivial⟩;unfold FR;simp only;rw[zp,cT,Af,he,obs,KZ he];by_cases hk0:k=0
   ·subst hk0;rw[show(((0:Nat):Int)==0)=true from rfl,cT,AK (by simp;omega),obs,obs];simp only[za6];rw[Ny,obs,AK (by simp;omega),obs,Ny,obs,AK (by simp;omega),obs,AK (by simp;omega),obs,AK (by simp;omega),obs,Aw,<-ze6 (Cd l j),We (Cd l j++IK w _)];simp[ptW,sp]
   ·rw[show((k:Int)==0)=false by simp;omega,cF,AK (by simp;omega),obs,obs];simp only[za6];rw[Ny,obs,AK (by simp;omega),obs,Ny,obs,AK (by simp;omega),obs,AK (by simp;omega),obs,AK (by simp;omega),obs,Aw,<-ze6 (Cd l j),We (Cd l j++IK w _)];simp[ptW,sp,hk0]) (by
   intro _ _;unfold FR;simp) 0 () (by omega) trivial
 have e0:IK w 0=[]:=by simp[IK]
 rw[e0,zf1]at h1;exact h1
theorem oE:Ks l=some (DF l):=by
 unfold Ks;obtain⟨_,h1,_⟩:=Bw (body:=fun(s:Str×A3×Int×Int)=>FQ s.1 s.2.1 s.2.2.1 s.2.2.2)
  (fun k (_:Unit)=>(cv l k,l,(l.length:Int),(k:Int))) (fun _=>DF l) (fun _ _=>True) l.length (by
   intro k _ hk _;have he:l[k]? =some l[k]:=za1 hk;generalize l[k]=w at he;have hin:=hw w (za3 he);have hsw:=bN (l:=l) (fun w hw'=>(hw w hw').2.2) k;have hwl:=K1 (l:=l) (fun w hw'=>(hw w hw').1) k;have hsl:=oN hsw;have hsl2:=oN (hsw.append (YD hin.2.2 w.length (za7 _)));have hpl:=LQ w w.length;rw[zb5]at hsl2;refine⟨(),?_,trivial⟩;unfold FQ;simp only;rw[zp,cT,Af,he,obs];by_cases hk0:k=0
   ·subst hk0;rw[show decide (((0:Nat):Int)>0)=false from rfl,cF];have e0:cv l 0=sp (Cd l 0):=by simp[cv,Cd,sp,Lib.join_nil]
    rw[e0];rw[obs];simp only[za6];rw[Ac1 hl hw hk he,obs];simp only;rw[AK (by simp;omega),obs,Aw]
    congr 3
    unfold cv;rw[Hq he];unfold Rv;rw[<-ze6,YJ]
   ·have hps:=zu hk hk0;have hlen:=congrArg List.length hps;rw[zb5]at hlen;rw[zp,cT,AK (by simp at hlen⊢;omega),obs,hps];rw[obs];simp only[za6];rw[Ac1 hl hw hk he,obs];simp only;rw[AK (by simp;omega),obs,Aw]
    congr 3
    unfold cv;rw[Hq he];unfold Rv;rw[<-ze6,YJ]) (by
   intro _ _;unfold FQ;simp[cv,DF]) 0 () (by omega) trivial
 have e0:cv l 0=[]:=by simp[cv,Cd,Lib.join_nil]
 rw[e0]at h1;have h1':Ad (fun(s:Str×A3×Int×Int)=>FQ s.1 s.2.1 s.2.2.1 s.2.2.2) (([]:Str),l,(l.length:Int),(0:Int))=_:=h1;rw[h1',obs]
theorem An0{j:Nat}(hj:j<l.length){w:List P2}(hjw:l[j]? =some w)(a b:Int):
  Ad (fun(s:List Str×A3×Int×Int×List P2×Int×Int)=>E7 s.1 s.2.1 s.2.2.1 s.2.2.2.1 s.2.2.2.2.1 s.2.2.2.2.2.1 s.2.2.2.2.2.2) (Cd l j,l,a,b,w,(w.length:Int),(0:Int))=
   some (Cd l j++IK w w.length,l,a,b):=by
 have hin:=hw w (za3 hjw);have hwl:=K1 (l:=l) (fun w hw'=>(hw w hw').1) j;obtain⟨_,h1,_⟩:=Bw (body:=fun(s:List Str×A3×Int×Int×List P2×Int×Int)=>E7 s.1 s.2.1 s.2.2.1 s.2.2.2.1 s.2.2.2.2.1 s.2.2.2.2.2.1 s.2.2.2.2.2.2)
  (fun k (_:Unit)=>(Cd l j++IK w k,l,a,b,w,(w.length:Int),(k:Int))) (fun _=>(Cd l j++IK w w.length,l,a,b)) (fun _ _=>True) w.length (by
   intro k _ hk _;have he:w[k]? =some w[k]:=za1 hk;generalize w[k]=p at he;have hp:=hin.2.2 p (za3 he);have hpl:=LQ w k;refine⟨(),?_,trivial⟩;unfold E7;simp only;rw[zp,cT,Af,he,obs,KZ he];by_cases hk0:k=0
   ·subst hk0;rw[show(((0:Nat):Int)==0)=true from rfl,cT,obs];simp only[za6];rw[OF,obs,OF,obs,Bu (by simp[Aa];omega) (by simp[Aa];omega),obs,Aw];simp[ptW]
   ·rw[show((k:Int)==0)=false by simp;omega,cF,obs];simp only[za6];rw[OF,obs,OF,obs,Bu (by simp[Aa];omega) (by simp[Aa];omega),obs,Aw];simp[ptW,hk0]) (by
   intro _ _;unfold E7;simp) 0 () (by omega) trivial
 have e0:IK w 0=[]:=by simp[IK]
 rw[e0,zf1]at h1;exact h1
theorem yU:Ad (fun(s:List Str×A3×Int×Int)=>E6 s.1 s.2.1 s.2.2.1 s.2.2.2) (([]:List Str),l,(l.length:Int),(0:Int))=some (Cd l l.length):=by
 obtain⟨_,h1,_⟩:=Bw (body:=fun(s:List Str×A3×Int×Int)=>E6 s.1 s.2.1 s.2.2.1 s.2.2.2)
  (fun k (_:Unit)=>(Cd l k,l,(l.length:Int),(k:Int))) (fun _=>Cd l l.length) (fun _ _=>True) l.length (by
   intro k _ hk _;have he:l[k]? =some l[k]:=za1 hk;generalize l[k]=w at he;have hin:=hw w (za3 he);have hwl:=K1 (l:=l) (fun w hw'=>(hw w hw').1) k;have hpl:=LQ w w.length;refine⟨(),?_,trivial⟩;unfold E6;simp only;rw[zp,cT,Af,he,obs,An0 hl hw hk he,obs,Bu (by simp[Aa];omega) (by simp[Aa];omega),obs,Aw,Hq he];simp[Rv]) (by
   intro _ _;unfold E6;simp) 0 () (by omega) trivial
 have e0:Cd l 0=[]:=by simp[Cd]
 rw[e0]at h1;exact h1
end
def LP(l:A3):Str×Bool:=if Bn l then(if(DF l).length<=400 then(DF l,true)else([],false))else([],false)
theorem lC{l:A3}(hl:ED l)(hs:∀w∈l,ED w):Jk l=some (LP l):=by
 unfold Jk LP;rw[oB hl hs,obs];cases hg:Bn l with
 |false=>rfl
 |true=>
  obtain⟨h1,h2⟩:=Iu hg;rw[nT,cF,oE h1 h2,obs,zr rfl];by_cases h:(DF l).length<=400
  ·rw[zq,cF,zr h]
  ·rw[zp,cT,zw h]
theorem kr{l:A3}(hl:ED l)(hs:∀w∈l,ED w):Ji l=some (LP l):=by
 unfold Ji LP;rw[nE hl hs,obs];cases hg:Bn l with
 |false=>rfl
 |true=>
  obtain⟨h1,h2⟩:=Iu hg;have hwl:=K1 (l:=l) (fun w hw'=>(h2 w hw').1) l.length;have hsw:=bN (l:=l) (fun w hw'=>(h2 w hw').2.2) l.length;have hj:=au (c:=21) (xs:=Cd l l.length) hsw 32;rw[nT,cF,yU h1 h2,obs,wb (by omega) (by omega),obs,zr rfl];show(bif decide (((DF l).length:Int)>400)then _ else some (DF l,true))=_;by_cases h:(DF l).length<=400
  ·rw[zq,cF,zr h]
  ·rw[zp,cT,zw h]
theorem jW(u:Nat):(32:UInt8) ∉ Lib.decDigits u:=fun h=>by
 have:=Gy.1 ((Gu u).1.1 _ h);rw[show(32:UInt8).toNat=32 from rfl]at this;omega
theorem eP(n:Int):(32:UInt8) ∉ Lib.itoa n:=by
 unfold Lib.itoa;split
 ·intro h;rcases zc1.1 h with h|h
  ·cases h
  ·exact jW _ h
 ·exact jW _
theorem wP(k:Nat)(p:P2):∀x∈ptW k p,(32:UInt8) ∉ x:=by
 intro x hx;unfold ptW at hx;rcases zc1.1 hx with rfl|hx
 ·split<;>decide
 rcases zc1.1 hx with rfl|hx
 ·exact eP _
 cases zd0.1 hx;exact eP _
theorem fg(w:List P2):∀k,k<=w.length->∀x∈IK w k,(32:UInt8) ∉ x
 |0,_=>fun x hx=>by simp[IK]at hx
 |k+1,hk=>by
  have he:w[k]? =some w[k]:=za1 (by omega);rw[KZ he];intro x hx;rcases zb0.1 hx with hx|hx
  ·exact fg w k (by omega) x hx
  ·exact wP _ _ x hx
theorem oY(l:A3)(k:Nat):∀x∈Cd l k,(32:UInt8) ∉ x:=by
 intro x hx;unfold Cd at hx;obtain⟨ws,hws,hx⟩:=List.mem_flatten.1 hx;obtain⟨w,hw,rfl⟩:=zd3.1 hws;unfold Rv at hx;rcases zb0.1 hx with hx|hx
 ·exact fg w _ (za7 _) x hx
 ·cases zd0.1 hx;decide
def US(w:List P2):Nat->Nat->List Str
 |0,_=>[[90]]
 |n+1,k=>(match w[k]? with|some p=>ptW k p|none=>[])++US w n (k+1)
theorem lZ(w:List P2):∀n k,k+n=w.length->IK w k++US w n k=Rv w
 |0,k,h=>by
  rw[show k=w.length by omega];rfl
 |n+1,k,h=>by
  have he:w[k]? =some w[k]:=za1 (by omega);rw[<-lZ w n (k+1) (by omega),KZ he,US,he,ze6]
theorem ub(w:List P2):US w w.length 0=Rv w:=by
 rw[<-lZ w w.length 0 (by omega)];simp[IK]
def Ae4(p:Pn):Prop:= -1000<=p.1/\p.1<=1000/\ -1000<=p.2/\p.2<=1000
theorem vx{p:Pn}(h:Ae4 p):GV p=true:=by
 unfold GV;obtain⟨a,b,c,d⟩:=h;rw[zp ⟨a,b⟩,zp ⟨c,d⟩];rfl
theorem aJ{W:List Str}{i:Nat}{n:Int}(h:W[i]? =some (Lib.itoa n))(hn: -9999<=n/\n<=9999):Fh W i=some n:=by
 unfold Fh;rw[h];simp only;rw[lf hn];rfl
theorem Ub{W:List Str}{i:Nat}{x:Str}{r:List Str}(h:W.drop i=x::r):W[i]? =some x/\W.drop (i+1)=r:=by
 have h1:(W.drop i)[0]? =some x:=by rw[h];rfl
 rw[zd5,Nat.add_zero]at h1;refine⟨h1,?_⟩;have h2:(W.drop i).drop 1=r:=by rw[h];rfl
 rw[List.drop_drop]at h2;exact h2
theorem aR{W:List Str}{w:List P2}(hw:∀p∈w,Ae4 p)(h3:3<=w.length)(h12:w.length<=12){ways:List Wy}(h4:ways.length<4){rest:List Str}:∀(n k i m:Nat),k+n=w.length->W.drop i=US w n k++rest->
  FB W (m+n+1) i ways (w.take k)=FB W m (i+3*n+1) (ways++[w]) []
 |0,k,i,m,hk,hd=>by
  have hd:W.drop i=[90]::rest:=hd;obtain⟨g1,_⟩:=Ub hd;rw[show m+0+1=m+1 by omega,FB,g1];simp only
  have hne:w.take k≠[]:=by
     intro h;have:=congrArg List.length h;rw[zd9,zf0]at this;omega
  have e:Cs W i ways (w.take k) [90]=.inr (i+1,ways++[w],[]):=by
   unfold Cs;rw[zw (by decide),zr (by decide),zw hne,zr rfl,zw (by rw[zd9];omega),zc3 (by omega)]
  rw[e]
 |n+1,k,i,m,hk,hd=>by
  have he:w[k]? =some w[k]:=za1 (by omega);have hp:=hw _ (za3 he);have hsn:=ze7 (l:=w) (i:=k);rw[he]at hsn;rw[US,he]at hd;generalize w[k]=p at he hp hd hsn;have hd:W.drop i=(if k=0 then [77]else [76])::Lib.itoa p.1::Lib.itoa p.2::(US w n (k+1)++rest):=by
   rw[hd];rfl
  obtain⟨g1,d1⟩:=Ub hd;obtain⟨g2,d2⟩:=Ub d1;obtain⟨g3,d3⟩:=Ub d2;obtain⟨p1,p2,p3,p4⟩:=hp;have n1:=aJ g2 (n:=p.1) (by omega);have n2:=aJ g3 (n:=p.2) (by omega);have tw:two W (i+1) ways (w.take k) (fun x y=>(x,y))=.inr (i+3,ways,w.take (k+1)):=by
   unfold two;rw[n1];simp only;unfold one;rw[n2];simp only;unfold ptV;rw[zr (vx ⟨p1,p2,p3,p4⟩),hsn];rfl
  have e:Cs W i ways (w.take k) (if k=0 then [77]else [76])=.inr (i+3,ways,w.take (k+1)):=by
   unfold Cs;by_cases hk0:k=0
   ·rw[zr hk0,zr rfl,zr (by rw[hk0];rfl),zw (by omega),tw]
   ·have hne:w.take k≠[]:=by
     intro h;have:=congrArg List.length h;rw[zd9,zf0]at this;omega
    rw[zw hk0,zw (by decide),zr (by decide),zw hne,zw (by decide),zw (by rw[zd9];omega),zr rfl,tw]
  rw[show m+(n+1)+1=(m+n+1)+1 by omega,FB,g1];simp only;rw[e];simp only;rw[aR hw h3 h12 h4 n (k+1) (i+3) m (by omega) (by rw[show i+3=i+1+1+1 by omega];exact d3),show i+3+3*n+1=i+3*(n+1)+1 by omega]
theorem Rl{w:List P2}:∀n k,k+n=w.length->(US w n k).length=3*n+1
 |0,k,_=>rfl
 |n+1,k,h=>by
  have he:w[k]? =some w[k]:=za1 (by omega);rw[US,he,zb5,Rl n (k+1) (by omega)];show 3+_=_;omega
theorem aS{W:List Str}{l:A3}(hl:l.length<=4)(hw:∀w∈l,w.length<=12/\3<=w.length/\∀p∈w,Ae4 p):∀(n k i m:Nat),k+n=l.length->W.drop i=((l.drop k).map Rv).flatten->W.length<=m+i->FB W (m+1) i (l.take k) []=.inr (l,[])
 |0,k,i,m,hk,hd,hm=>by
  rw[zd2 (show l.length<=k by omega)]at hd;have hi:W.length<=i:=by
   have:=congrArg List.length hd;simp at this;omega
  rw[FB,List.getElem?_eq_none hi,zc3 (by omega)]
 |n+1,k,i,m,hk,hd,hm=>by
  have he:l[k]? =some l[k]:=za1 (by omega);have hdk:l.drop k=l[k]::l.drop (k+1):=za9 (by omega);have hsn:=ze7 (l:=l) (i:=k);rw[he]at hsn;have hin:=hw _ (za3 he);generalize l[k]=w at he hdk hin hsn;rw[hdk,zb9,List.flatten_cons,<-ub]at hd;have hlen:=congrArg List.length hd;rw[zb5,Rl (w:=w) w.length 0 (by omega),List.length_drop]at hlen;obtain⟨m',hm'⟩:∃m',m+1=(m'+1)+w.length+1:=⟨m-w.length-1,by omega⟩;have h0:w.take 0=[]:=List.take_zero;rw[hm',<-h0,aR hin.2.2 hin.2.1 hin.1 (by rw[zd9];omega) w.length 0 i (m'+1) (by omega) hd];have hsn':l.take k++[w]=l.take (k+1):=by rw[hsn];rfl
  rw[hsn'];refine aS hl hw n (k+1) _ _ (by omega) ?_ (by omega);have h2:(W.drop i).drop (3*w.length+1)=((l.drop (k+1)).map Rv).flatten:=by
   rw[hd,List.drop_append_of_le_length (by rw[Rl (w:=w) w.length 0 (by omega)];omega),zd2 (by rw[Rl (w:=w) w.length 0 (by omega)];omega),List.nil_append]
  rw[List.drop_drop]at h2;rw[show i+3*w.length+1=i+(3*w.length+1) by omega];exact h2
theorem tc{l:A3}(hg:Bn l=true)(h400:(DF l).length<=400):GD (DF l)=(l,0,0,true):=by
 obtain⟨h1,h2⟩:=Iu hg;have h0:1<=l.length:=by
  unfold Bn at hg;simp only[za2,decide_eq_true_eq]at hg;omega
 have hne:Cd l l.length≠[]:=by
  obtain⟨j,hj⟩:∃j,l.length=j+1:=⟨l.length-1,by omega⟩;have he:l[j]? =some l[j]:=za1 (by omega);rw[hj,Hq he];intro h;have:=congrArg List.length h;unfold Rv at this;simp at this
 have hp:Aj 32 (DF l)=Cd l l.length:=SX _ hne (oY l _);have hpos:1<=(DF l).length:=by
  obtain⟨j,hj⟩:∃j,l.length=j+1:=⟨l.length-1,by omega⟩;have he:l[j]? =some l[j]:=za1 (by omega);unfold DF;rw[hj,Hq he];unfold Rv;rw[<-ze6,YJ,zb5];simp
 unfold GD;rw[zr ⟨hpos,h400⟩,hp];have key:=aS (W:=Cd l l.length) (l:=l) h1 (fun w hw=>h2 w hw) l.length 0 0 (Cd l l.length).length (by omega) (by
  unfold Cd;rw[List.take_length,ze5,ze5]) (by omega)
 rw[List.take_zero]at key;rw[key];rfl
theorem wO{i:Nat}{ways:List Wy}{way:Wy}{p:Pn}{j:Nat}{ways':List Wy}{way':Wy}(h:ptV GV i ways way p=.inr (j,ways',way')):ways'=ways/\way'=way++[p]/\GV p=true:=by
 unfold ptV at h;split at h
 ·rename_i hg;cases h;exact⟨rfl,rfl,hg⟩
 ·cases h
theorem Nv{W:List Str}{i:Nat}{ways:List Wy}{way:Wy}{f:Int->Pn}{j:Nat}{ways':List Wy}{way':Wy}(h:one W i ways way f=.inr (j,ways',way')):ways'=ways/\∃p,way'=way++[p]/\GV p=true:=by
 unfold one at h;split at h
 ·cases h
 ·obtain⟨a,b,c⟩:=wO h;exact⟨a,_,b,c⟩
theorem UX{W:List Str}{i:Nat}{ways:List Wy}{way:Wy}{f:Int->Int->Pn}{j:Nat}{ways':List Wy}{way':Wy}(h:two W i ways way f=.inr (j,ways',way')):ways'=ways/\∃p,way'=way++[p]/\GV p=true:=by
 unfold two at h;split at h
 ·cases h
 ·exact Nv h
structure PInv (ways:List Wy) (way:Wy):Prop where
 len:ways.length<=4
 ok:∀w∈ways,Fe w=true
 pts:∀p∈way,BE p=true
 short:way.length<=12
 four:way≠[]->ways.length<4
theorem vw(p:Pn):GV p=BE p:=by
 unfold GV BE C7;rw[Bool.eq_iff_iff];simp
theorem tk{ways:List Wy}{way:Wy}{p:Pn}(h:PInv ways way)(h4:ways.length<4)(h12:way.length<12)(hp:GV p=true):PInv ways (way++[p]):=by
 refine⟨h.len,h.ok,fun q hq=> ?_,by rw[zb5,List.length_singleton];omega,fun _=>h4⟩;rcases zb0.1 hq with hq|hq
 ·exact h.pts q hq
 ·rw[zd0.1 hq,<-vw];exact hp
theorem yx{W:List Str}{i:Nat}{w:Str}{ways:List Wy}{way:Wy}{j:Nat}{ways':List Wy}{way':Wy}(h:PInv ways way)(hc:Cs W i ways way w=.inr (j,ways',way')):PInv ways' way':=by
 have key:∀(x:CV),(∀j ways' way',x=.inr (j,ways',way')->ways'=ways/\∃p,way'=way++[p]/\GV p=true)->ways.length<4->way.length<12->x=.inr (j,ways',way')->PInv ways' way':=by
  intro x hx h4 h12 he;obtain⟨a,p,b,c⟩:=hx _ _ _ he;rw[a,b];exact tk h h4 h12 c
 have hlen:=h.short;unfold Cs at hc;split at hc
 ·split at hc
  ·rename_i hway;split at hc
   ·cases hc
   ·rename_i h4;have:=h.len;exact key _ (fun _ _ _=>UX) (by omega) (by rw[hway];simp) hc
  ·cases hc
 ·split at hc
  ·split at hc
   ·cases hc
   ·rename_i hne;have h4:=h.four hne;split at hc
    ·split at hc
     ·cases hc
     ·rename_i h3;cases hc;refine⟨by rw[zb5,List.length_singleton];omega,fun v hv=> ?_,fun p hp=>(by cases hp),by decide,fun h=>absurd rfl h⟩;rcases zb0.1 hv with hv|hv
      ·exact h.ok v hv
      ·rw[zd0.1 hv];exact Gz.2 ⟨⟨by omega,h.short⟩,h.pts⟩
    ·split at hc
     ·cases hc
     ·rename_i h12;have h12:way.length<12:=by omega
      split at hc
      ·exact key _ (fun _ _ _=>UX) h4 h12 hc
      ·split at hc
       ·exact key _ (fun _ _ _=>UX) h4 h12 hc
       ·split at hc
        ·exact key _ (fun _ _ _=>Nv) h4 h12 hc
        ·split at hc
         ·exact key _ (fun _ _ _=>Nv) h4 h12 hc
         ·split at hc
          ·exact key _ (fun _ _ _=>Nv) h4 h12 hc
          ·exact key _ (fun _ _ _=>Nv) h4 h12 hc
  ·cases hc
theorem fd{W:List Str}:∀(n i:Nat)(ways:List Wy)(way:Wy),PInv ways way->∀ways' way',FB W n i ways way=.inr (ways',way')->PInv ways' way'
 |0,i,ways,way,h,ways',way',he=>by
  rw[FB]at he;cases he;exact h
 |n+1,i,ways,way,h,ways',way',he=>by
  rw[FB]at he;split at he
  ·cases he;exact h
  ·rename_i w hw;cases hc:Cs W i ways way w with
   |inl e=>rw[hc]at he;cases he
   |inr v=>
    obtain⟨j,a,b⟩:=v;rw[hc]at he;exact fd n j a b (yx h hc) _ _ he
theorem jS{W:List Str}{i:Nat}{w:Str}{ways:List Wy}{way:Wy}{j:Nat}{ways':List Wy}{way':Wy}(hc:Cs W i ways way w=.inr (j,ways',way')):way'≠[]\/1<=ways'.length:=by
 have k2:∀f:Int->Int->Pn,two W (i+1) ways way f=.inr (j,ways',way')->way'≠[]\/1<=ways'.length:=fun f h=>by
  obtain⟨_,p,b,_⟩:=UX h
  left;rw[b];simp
 have k1:∀f:Int->Pn,one W (i+1) ways way f=.inr (j,ways',way')->way'≠[]\/1<=ways'.length:=fun f h=>by
  obtain⟨_,p,b,_⟩:=Nv h
  left;rw[b];simp
 unfold Cs at hc
 repeat' split at hc
 all_goals first
  |exact k2 _ hc
  |exact k1 _ hc
  |(cases hc;right;simp)
  |cases hc
theorem aQ{W:List Str}:∀(n i:Nat)(ways:List Wy)(way:Wy),(way≠[]\/1<=ways.length)->∀ways' way',FB W n i ways way=.inr (ways',way')->way'≠[]\/1<=ways'.length
 |0,i,ways,way,h,ways',way',he=>by
  rw[FB]at he;cases he;exact h
 |n+1,i,ways,way,h,ways',way',he=>by
  rw[FB]at he;split at he
  ·cases he;exact h
  ·rename_i w hw;cases hc:Cs W i ways way w with
   |inl e=>rw[hc]at he;cases he
   |inr v=>
    obtain⟨j,a,b⟩:=v;rw[hc]at he;exact aQ n j a b (jS hc) _ _ he
theorem td{s:Str}{l:List Wy}{c at_:Int}(h:GD s=(l,c,at_,true)):Bn l=true/\c=0/\at_=0:=by
 unfold GD at h;split at h
 ·split at h
  ·cases h
  ·rename_i ways way hp;split at h
   ·cases h
   ·rename_i hw;have hw:way=[]:=Classical.byContradiction fun h=>hw h
    have inv:=fd _ _ _ _ (⟨by simp,by simp,by simp,by simp,fun h=>absurd rfl h⟩:PInv [] []) _ _ hp;have h1:1<=ways.length:=by
     have hne:=wI 32 s;obtain⟨x,r,hx⟩:∃x r,Aj 32 s=x::r:=List.exists_cons_of_ne_nil hne;rw[FB,hx]at hp;simp only[List.getElem?_cons_zero]at hp;cases hc:Cs (x::r) 0 [] [] x with
     |inl e=>rw[hc]at hp;cases hp
     |inr v=>
      obtain⟨j,a,b⟩:=v;rw[hc]at hp;rcases aQ _ _ _ _ (jS hc) _ _ hp with h|h
      ·exact absurd hw h
      ·exact h
    cases h;refine⟨?_,rfl,rfl⟩;unfold Bn;rw[za2,za2,decide_eq_true_eq,decide_eq_true_eq];exact⟨za5.2 inv.ok,h1,inv.len⟩
 ·cases h
theorem uT{W:List Str}{i:Nat}{w:Str}{ways:List Wy}{way:Wy}{c:Int}{j:Nat}(hc:Cs W i ways way w=.inl (c,j)):c≠0:=by
 have kp:∀(a:Nat)(p:Pn),ptV GV a ways way p=.inl (c,j)->c≠0:=fun a p h=>by
  unfold ptV at h;split at h<;>cases h
  omega
 have k1:∀(a:Nat)(f:Int->Pn),one W a ways way f=.inl (c,j)->c≠0:=fun a f h=>by
  unfold one at h;split at h
  ·cases h;omega
  ·exact kp _ _ h
 have k2:∀(a:Nat)(f:Int->Int->Pn),two W a ways way f=.inl (c,j)->c≠0:=fun a f h=>by
  unfold two at h;split at h
  ·cases h;omega
  ·exact k1 _ _ h
 unfold Cs at hc
 repeat' split at hc
 all_goals first
  |exact k2 _ _ hc
  |exact k1 _ _ hc
  |(cases hc;omega)
  |cases hc
theorem aO{W:List Str}:∀(n i:Nat)(ways:List Wy)(way:Wy)(c:Int)(j:Nat),FB W n i ways way=.inl (c,j)->c≠0
 |0,i,ways,way,c,j,he=>by rw[FB]at he;cases he
 |n+1,i,ways,way,c,j,he=>by
  rw[FB]at he;split at he
  ·cases he
  ·rename_i w hw;cases hc:Cs W i ways way w with
   |inl e=>rw[hc]at he;cases he;exact uT hc
   |inr v=>
    obtain⟨j',a,b⟩:=v;rw[hc]at he;exact aO n j' a b c j he
theorem wJ{s:Str}{l:List Wy}{c at_:Int}(h:GD s=(l,c,at_,false)):c≠0/\l=[]:=by
 unfold GD at h;split at h
 ·split at h
  ·rename_i c' i hp;cases h;exact⟨aO _ _ _ _ _ _ hp,rfl⟩
  ·split at h<;>cases h
   exact⟨by omega,rfl⟩
 ·cases h;exact⟨by omega,rfl⟩
theorem kz{l:List P2}{d:P2}(hd:BE d=true)(hg:∀p∈l,BE p=true)(hl:l.length<=1000):
  Ad (fun(s:(Int×Int)×(List (Int×Int))×(List (Int×Int))×Int×Int)=>GK s.1 s.2.1 s.2.2.1 s.2.2.2.1 s.2.2.2.2) ((d.1,d.2),List.nil,l,((l.length:Nat):Int),(0:Int))=some (l.map fun p=>(p.1+d.1,p.2+d.2)):=by
 obtain⟨h1,h2⟩:=KR (l:=l) (body:=fun(s:(Int×Int)×(List (Int×Int))×(List (Int×Int))×Int×Int)=>GK s.1 s.2.1 s.2.2.1 s.2.2.2.1 s.2.2.2.2)
  (st:=fun k (b:List P2)=>((d.1,d.2),b,l,(l.length:Int),(k:Int))) (step:=fun b p=>b++[(p.1+d.1,p.2+d.2)]) (fin:=fun b=>b) (I:=fun k b=>b=(l.take k).map fun p=>(p.1+d.1,p.2+d.2))
  (by
   rintro k b p hk rfl;have hp:=hg p (za3 hk);rw[Sg]at hp hd;have hkl:=Dd hk;unfold GK;simp only[OJ hk,cond_true,Af,hk,za0,Aw (show k<4611686018427387904 by omega)];rw[Ae (n:=p.1+d.1),Ae (n:=p.2+d.2),Bu (by simp[Aa];omega) (by simp[Aa];omega)];refine⟨rfl,?_⟩;rw[ze7,hk];simp)
  (by
   rintro b rfl;unfold GK;simp only[ac,cond_false]) [] (by simp)
 rw[show((0:Nat):Int)=0 from rfl]at h1;rw[h1,h2,List.take_length]
theorem su{l:List P2}{d:P2}(hl:ED l):Mf l d=some (if Fe l=true/\BE d=true/\(l.map fun p=>(p.1+d.1,p.2+d.2)).all BE=true then(l.map fun p=>(p.1+d.1,p.2+d.2),true)else([],false)):=by
 unfold Mf;simp only[gM hl,za0,Un];cases hw:Fe l with
 |false=>simp
 |true=>
  cases hd:BE d with
  |false=>simp
  |true=>
   obtain⟨⟨_,w1⟩,w2⟩:=Gz.1 hw;simp only[zf5,cond_false,kz hd w2 (by omega),za0];rw[kw (by unfold ED;simp;omega)];simp only[za0];cases(l.map fun p=>(p.1+d.1,p.2+d.2)).all BE<;>simp
def mvW(d:P2)(w:List P2):List P2:=w.map fun p=>(p.1+d.1,p.2+d.2)
def Mx(d:P2)(w:List P2):Prop:=Fe w=true/\BE d=true/\(mvW d w).all BE=true
instance (d:P2) (w:List P2):Decidable (Mx d w):=by unfold Mx;infer_instance
def VY(d:P2)(out:A3)(w:List P2):(A3⊕(Str×Bool))⊕A3:=if Mx d w then .inr (out++[mvW d w])else .inl (.inr ([],false))
def mvR(d:P2)(l:A3):A3⊕(Str×Bool):=Sum.elim id (fun o=>.inl o) (Eo (VY d) [] l)
section
variable {l:A3} {d:P2} (hl:l.length<=1000) (hs:∀w∈l,ED w)
include hl hs
theorem sI:Ad (fun(s:P2×A3×A3×Int×Int)=>CW s.1 s.2.1 s.2.2.1 s.2.2.2.1 s.2.2.2.2) (d,([]:A3),l,(l.length:Int),(0:Int))=some (mvR d l):=by
 obtain⟨h1,h2⟩:=bK (l:=l) (body:=fun(s:P2×A3×A3×Int×Int)=>CW s.1 s.2.1 s.2.2.1 s.2.2.2.1 s.2.2.2.2)
  (st:=fun k (b:A3)=>(d,b,l,(l.length:Int),(k:Int))) (step:=VY d) (fin:=fun b=>.inl b) (I:=fun k b=>b.length=k)
  (by
   rintro k b w hk hb;have hkl:=Dd hk;have hw:=hs w (za3 hk);have key:CW d b l (l.length:Int) (k:Int)=if Mx d w then some (.inl (d,b++[mvW d w],l,(l.length:Int),((k+1:Nat):Int)))else some (.inr (.inr ([],false))):=by
    unfold CW;rw[zp (show(k:Int)<(l.length:Int) by omega),cT,Af,hk,obs,su hw,obs];by_cases h:Mx d w
    ·rw[zr h,zr (show Fe w=true/\BE (d.1,d.2)=true/\(w.map fun p=>(p.1+(d.1,d.2).1,p.2+(d.1,d.2).2)).all BE=true from h)];simp only[nT,cF];rw[show(w.map fun p=>(p.1+d.1,p.2+d.2))=mvW d w from rfl];rw[Bu (by simp[Aa];omega) (by simp[Aa];omega),obs,Aw]
    ·rw[zw h,zw (show ¬(Fe w=true/\BE (d.1,d.2)=true/\(w.map fun p=>(p.1+(d.1,d.2).1,p.2+(d.1,d.2).2)).all BE=true)from h)];rfl
   unfold VY;by_cases h:Mx d w
   ·rw[zr h]at key⊢;exact .inl ⟨_,rfl,key,by simp[hb]⟩
   ·rw[zw h]at key⊢;exact .inr ⟨_,rfl,key⟩)
  (by
   rintro b _;show CW d b l (l.length:Int) (l.length:Int)=_;unfold CW;rw[zq];rfl) [] rfl
 exact h1
end
theorem kd(d:P2):∀(l out:A3),Eo (VY d) out l=if(l.all fun w=>decide (Mx d w))=true then .inr (out++l.map (mvW d))else .inl (.inr ([],false))
 |[],out=>by simp[Eo]
 |w::l,out=>by
  unfold Eo VY;by_cases hc:Mx d w
  ·rw[zr hc];show Eo (VY d) (out++[mvW d w]) l=_;rw[kd d l,zd1,zp hc,ze2];simp
  ·rw[zw hc,zd1,zq hc,zf8];rfl
theorem Ah9(d:P2)(l:A3):mvR d l=if(l.all fun w=>decide (Mx d w))=true then .inl (l.map (mvW d))else .inr ([],false):=by
 unfold mvR;rw[kd];split<;>rfl
def mvV(s:Str)(d:P2):Str×Bool:=if(GD s).2.2.2=true/\((GD s).1.all fun w=>decide (Mx d w))=true then LP ((GD s).1.map (mvW d))else([],false)
theorem LN(s:Str):(∃l,GD s=(l,0,0,true)/\Bn l=true)\/∃c a,GD s=([],c,a,false)/\c≠0:=by
 have hv:∃w c a ok,GD s=(w,c,a,ok):=⟨_,_,_,_,rfl⟩;obtain⟨w,c,a,ok,e⟩:=hv;cases ok with
 |true=>
  obtain⟨h1,h2,h3⟩:=td e;exact .inl ⟨w,by rw[e,h2,h3],h1⟩
 |false=>
  obtain⟨h1,h2⟩:=wJ e;exact .inr ⟨c,a,by rw[e,h2],h1⟩
theorem gH{l:A3}(h:Bn l=true):1<=l.length/\l.length<=4:=by
 unfold Bn at h;simp only[za2,decide_eq_true_eq]at h;exact h.2
theorem lO{l:A3}(h:Bn l=true):l.length<=1000/\∀w∈l,ED w:=by
 obtain⟨h1,h2⟩:=Iu h;exact⟨by omega,fun w hw=>by have:=(h2 w hw).1;unfold ED;omega⟩
theorem y7{l:A3}{d:P2}(h:Bn l=true)(hm:(l.all fun w=>decide (Mx d w))=true):Bn (l.map (mvW d))=true:=by
 unfold Bn at h⊢
 simp only[za2,za5,decide_eq_true_eq,zc5]at h⊢
 refine⟨fun w hw=> ?_,h.2⟩;obtain⟨u,hu,rfl⟩:=zd3.1 hw;have hc:=of_decide_eq_true (za5.1 hm u hu);obtain⟨c1,c2,c3⟩:=hc;have hlen:=(Gz.1 c1).1;refine Gz.2 ⟨by unfold mvW;rw[zc5];exact hlen,fun p hp=>za5.1 c3 p hp⟩
theorem y6{s:Str}(hs:s.length<=1048576)(d:P2):HS s d=some (mvV s d):=by
 unfold HS mvV;rw[XG (by omega),obs];rcases LN s with⟨l,e,hg⟩|⟨c,a,e,hc⟩
 ·rw[e];simp only;rw[nT,cF,Un,obs];obtain⟨g1,g2⟩:=lO hg;have hn:=gH hg;have e2:Ad (fun(s:P2×A3×A3×Int×Int)=>CW s.1 s.2.1 s.2.2.1 s.2.2.2.1 s.2.2.2.2) ((d.1,d.2),([]:A3),l,(l.length:Int),(0:Int))=some (mvR d l):=sI g1 g2;cases hd:BE d with
  |false=>
   rw[nF,cT,zw];rintro⟨_,h⟩;obtain⟨w,r,hl⟩:∃w r,l=w::r:=List.exists_cons_of_ne_nil (fun h=>by rw[h]at hn;simp at hn);rw[hl,zd1,za2]at h;have hc:=of_decide_eq_true h.1;rw[hc.2.1]at hd;cases hd
  |true=>
   rw[nT,cF,e2,obs,Ah9];by_cases hm:(l.all fun w=>decide (Mx d w))=true
   ·have hgm:=y7 hg hm;obtain⟨k1,k2⟩:=lO hgm;rw[zr hm,zr ⟨trivial,hm⟩,sEl,kr (by unfold ED;omega) k2];rfl
   ·rw[zw hm,zw (fun h=>hm h.2),sEr]
 ·rw[e];simp only;rw[nF,cT,zw (fun h=>by cases h.1)]
theorem Ao3{l:A3}(h:(LP l).2=true):Bn l=true/\LP l=(DF l,true)/\(DF l).length<=400:=by
 unfold LP at h⊢
 split at h
 ·rename_i hg;split at h
  ·rename_i hl;rw[zr hg,zr hl];exact⟨hg,rfl,hl⟩
  ·cases h
 ·cases h
theorem ww{s:Str}{d:P2}(h:(mvV s d).2=true):∃l,GD s=(l,0,0,true)/\Bn l=true/\(∀w∈l,Mx d w)/\Bn (l.map (mvW d))=true/\mvV s d=(DF (l.map (mvW d)),true)/\GD (DF (l.map (mvW d)))=(l.map (mvW d),0,0,true)/\(DF (l.map (mvW d))).length<=400:=by
 unfold mvV at h⊢
 rcases LN s with⟨l,e,hg⟩|⟨c,a,e,hc⟩
 ·rw[e]at h⊢
  simp only at h⊢
  by_cases hm:(l.all fun w=>decide (Mx d w))=true
  ·rw[zr ⟨trivial,hm⟩]at h⊢
   obtain⟨k1,k2,k3⟩:=Ao3 h;exact⟨l,rfl,hg,fun w hw=>of_decide_eq_true (za5.1 hm w hw),k1,k2,tc k1 k3,k3⟩
  ·rw[zw (fun h=>hm h.2)]at h;cases h
 ·rw[e]at h;simp only at h;rw[zw (fun h=>by cases h.1)]at h;cases h
def B:Nat->Int
 |0=>1
 |n+1=>65536*B n
theorem Hr:∀n,0<B n
 |0=>by decide
 |n+1=>by have:=Hr n;simp only[B];omega
theorem S6:∀m n,B (m+n)=B m*B n
 |0,n=>by simp[B]
 |m+1,n=>by rw[show m+1+n=(m+n)+1 by omega];simp only[B];rw[S6 m n,Int.mul_assoc]
theorem K2{m n:Nat}(h:m<=n):B m<=B n:=by
 induction h with
 |refl=>exact Int.le_refl _
 | @step n h ih=>have:=Hr n;simp only[B];omega
def val:List Int->Int
 |[]=>0
 |x::l=>x+65536*val l
def LB(l:List Int):Prop:=∀x∈l,0<=x/\x<65536
theorem LB.nil:LB []:=fun _ h=>absurd h (List.not_mem_nil)
theorem LB.head{x:Int}{l:List Int}(h:LB (x::l)):0<=x/\x<65536:=h x (List.mem_cons_self ..)
theorem LB.tail{x:Int}{l:List Int}(h:LB (x::l)):LB l:=fun y hy=>h y (ze4 _ hy)
theorem LB.cons{x:Int}{l:List Int}(hx:0<=x/\x<65536)(h:LB l):LB (x::l):=fun y hy=>by
 rcases zc1.1 hy with rfl|hy
 ·exact hx
 ·exact h y hy
theorem LB.append{l m:List Int}(h:LB l)(h':LB m):LB (l++m):=fun y hy=>(zb0.1 hy).elim (h y) (h' y)
theorem LB.take{l:List Int}(h:LB l)(n:Nat):LB (l.take n):=fun y hy=>h y (List.mem_of_mem_take hy)
theorem LB.drop{l:List Int}(h:LB l)(n:Nat):LB (l.drop n):=fun y hy=>h y (List.mem_of_mem_drop hy)
theorem LB.get{l:List Int}(h:LB l){k:Nat}{x:Int}(hk:l[k]? =some x):0<=x/\x<65536:=h x (za3 hk)
theorem LB.set{l:List Int}(h:LB l){k:Nat}{x:Int}(hx:0<=x/\x<65536):LB (l.set k x):=fun y hy=>by
 rcases List.mem_or_eq_of_mem_set hy with hy|rfl
 ·exact h y hy
 ·exact hx
theorem LB.zeros(n:Nat):LB (List.replicate n 0):=fun y hy=>by have:=List.eq_of_mem_replicate hy;omega
theorem AY:∀{l:List Int},LB l->0<=val l
 |[],_=>Int.le_refl _
 |x::l,h=>by have:=h.head;have:=AY h.tail;simp only[val];omega
theorem QC:∀{l:List Int},LB l->val l<B l.length
 |[],_=>by decide
 |x::l,h=>by have:=h.head;have:=QC h.tail;simp only[val,zb7,B];omega
theorem S4:∀(l m:List Int),val (l++m)=val l+B l.length*val m
 |[],m=>by simp[val,B]
 |x::l,m=>by
  simp only[ze8,val,zb7,B,S4 l m];rw[ze3,Int.mul_assoc];omega
theorem GA:∀n,val (List.replicate n 0)=0
 |0=>rfl
 |n+1=>by simp only[List.replicate_succ,val,GA n];omega
theorem ND(l:List Int)(x:Int):val (l++[x])=val l+B l.length*x:=by rw[S4];simp[val]
theorem Wm(l:List Int)(n:Nat)(h:n<=l.length):val l=val (l.take n)+B n*val (l.drop n):=by
 have:=S4 (l.take n) (l.drop n);rw[List.take_append_drop,zd9,Nat.min_eq_left h]at this;exact this
theorem Hd:∀{l:List Int}{k:Nat}{x y:Int},l[k]? =some x->val (l.set k y)=val l+B k*(y-x)
 |[],k,x,y,h=>by simp at h
 |a::l,0,x,y,h=>by
  simp at h;subst h;simp only[List.set_cons_zero,val,B];omega
 |a::l,k+1,x,y,h=>by
  simp only[List.getElem?_cons_succ]at h;simp only[List.set_cons_succ,val,B,Hd (y:=y) h];rw[ze3,Int.mul_assoc];omega
def NB(l:List Int):Prop:=∀x,l.getLast?=some x->x≠0
theorem NB.nil:NB []:=fun x h=>by simp at h
theorem NB.tail{x:Int}{l:List Int}(h:NB (x::l)):NB l:=fun y hy=>by
 cases l with
 |nil=>simp at hy
 |cons a t=>exact h y (by rw[List.getLast?_cons_cons];exact hy)
theorem iO:∀{l:List Int},LB l->NB l->l≠[]->B (l.length-1)<=val l
 |[],_,_,h=>absurd rfl h
 |[x],h,hn,_=>by
  have h1:=h.head;have h2:=hn x rfl;simp only[val,zb7,zf0,B];simp[B];omega
 |x::y::l,h,hn,_=>by
  have h1:=h.head;have h2:=iO h.tail hn.tail (by simp);simp only[zb7,Nat.add_sub_cancel]at h2⊢
  rw[val];simp only[B];omega
theorem ml{l:List Int}(h:LB l)(hn:NB l)(h0:val l=0):l=[]:=by
 cases l with
 |nil=>rfl
 |cons x l=>
  have h1:=iO h hn (by simp);have h2:=Hr ((x::l).length-1);omega
theorem rk:∀{l m:List Int},LB l->NB l->LB m->NB m->val l=val m->l=m
 |[],m,_,_,hm,nm,h=>by
  have:val m=0:=by rw[<-h];rfl
  exact(ml hm nm this).symm
 |x::l,[],hl,nl,_,_,h=>ml hl nl (by rw[h];rfl)
 |x::l,y::m,hl,nl,hm,nm,h=>by
  have h1:=hl.head;have h2:=hm.head;simp only[val]at h;have hx:x=y:=by omega
  have hv:val l=val m:=by omega
  rw[hx,rk hl.tail nl.tail hm.tail nm.tail hv]
def lim(n:Nat):List Int:=if h:n=0 then []else((n%65536:Nat):Int)::lim (n/65536)
termination_by n
decreasing_by omega
theorem CH:lim 0=[]:=by unfold lim;simp
theorem AJ(n:Nat):LB (lim n):=by
 induction n using Nat.strongRecOn with
 |_ n ih=>
  unfold lim;split
  ·exact LB.nil
  ·exact LB.cons (by omega) (ih (n/65536) (by omega))
theorem As(n:Nat):val (lim n)=n:=by
 induction n using Nat.strongRecOn with
 |_ n ih=>
  unfold lim;split
  ·rename_i h;rw[h];rfl
  ·simp only[val,ih (n/65536) (by omega)];omega
theorem KE{n:Nat}:lim n=[]↔n=0:=by
 constructor
 ·intro h;have:=As n;rw[h]at this;simp only[val]at this;omega
 ·rintro rfl;exact CH
theorem VV(n:Nat):NB (lim n):=by
 induction n using Nat.strongRecOn with
 |_ n ih=>
  unfold lim;split
  ·exact NB.nil
  ·rename_i hn;intro x hx;by_cases h0:n/65536=0
   ·rw[h0,CH]at hx;simp at hx;omega
   ·have hne:lim (n/65536)≠[]:=fun h=>h0 (KE.1 h)
    cases hl:lim (n/65536)with
    |nil=>exact absurd hl hne
    |cons a t=>
     rw[hl,List.getLast?_cons_cons]at hx;exact ih (n/65536) (by omega) x (by rw[hl];exact hx)
theorem wj{l:List Int}(h:LB l)(hn:NB l):l=lim (val l).toNat:=rk h hn (AJ _) (VV _) (by rw[As];have:=AY h;omega)
theorem Ao{n k:Nat}:(lim n).length<=k↔(n:Int)<B k:=by
 constructor
 ·intro h;have h1:=QC (AJ n);rw[As]at h1;have:=K2 h;omega
 ·intro h;rcases zd8 k (lim n).length with hk|hk
  ·exfalso;have hne:lim n≠[]:=by intro h0;rw[h0]at hk;simp at hk
   have h1:=iO (AJ n) (VV n) hne;rw[As]at h1;have:=K2 (show k<=(lim n).length-1 by omega);omega
  ·exact hk
def Gh:List Int->List Int
 |[]=>[]
 |x::l=>match Gh l with|[]=>if x=0 then []else [x]|m=>x::m
theorem bC:∀{l:List Int},LB l->LB (Gh l)/\NB (Gh l)/\val (Gh l)=val l
 |[],_=>⟨LB.nil,NB.nil,rfl⟩
 |x::l,h=>by
  obtain⟨h1,h2,h3⟩:=bC h.tail;simp only[Gh];cases hs:Gh l with
  |nil=>
   rw[hs]at h3;simp only[val]at h3;simp only;split
   ·rename_i hx;subst hx;exact⟨LB.nil,NB.nil,by simp only[val];omega⟩
   ·rename_i hx;exact⟨LB.cons h.head LB.nil,fun y hy=>by simp at hy;subst hy;exact hx,by simp only[val];omega⟩
  |cons a t=>
   rw[hs]at h1 h2 h3;simp only;exact⟨LB.cons h.head h1,fun y hy=>h2 y (by rw[List.getLast?_cons_cons]at hy;exact hy),by rw[val,h3];rfl⟩
theorem CO{l:List Int}(h:LB l):Gh l=lim (val l).toNat:=by
 obtain⟨h1,h2,h3⟩:=bC h;rw[wj h1 h2,h3]
theorem J4:∀(l:List Int),Gh (l++[0])=Gh l
 |[]=>rfl
 |x::l=>by simp only[ze8,Gh,J4 l]
theorem Qz:∀{l:List Int},NB l->Gh l=l
 |[],_=>rfl
 |x::l,h=>by
  simp only[Gh,Qz h.tail];cases l with
  |nil=>simp only;rw[zw (h x rfl)]
  |cons a t=>rfl
theorem Wg:∀(l:List Int),(Gh l).length<=l.length
 |[]=>za7 _
 |x::l=>by
  have:=Wg l;simp only[Gh];split
  ·split<;>simp
  ·rename_i m hm;simp only[zb7]at*;omega
end Go.Proofs.YtiijheppiboglaaGreatDoor.Ev
