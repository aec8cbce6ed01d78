/- What the theorem of this claim leans on, part 5. -/
import Derived.Test.YtiijheppiboglaaGreatDoorKD
import Derived.Test.YtiijheppiboglaaGreatDoorProg
import Derived.KernelRfl
import Derived.Lib.ItoaNum
import Derived.Lib.ItoaLen
import Derived.Lib.AtoiAll
import Derived.Lib.Split
import Derived.Lib.SplitLaws
import Derived.Lib.IndexMore
import Derived.Lib.Join
set_option maxHeartbeats 2000000
open Option renaming bind_some → za0, map_eq_some_iff → zb6, map_some → zd4
open List renaming getElem?_eq_getElem → za1, mem_of_getElem? → za3, getElem?_eq_some_iff → za4, all_eq_true → za5, drop_eq_getElem_cons → zb1, mem_append → zb2, mem_flatMap → zb3, getD_eq_getElem?_getD → zb4, flatMap_cons → zb5, length_cons → zb8, map_cons → zb9, eq_nil_of_length_eq_zero → zc0, getElem?_take → zc2, length_append → zc3, take_of_length_le → zc4, mem_cons → zc6, getElem?_map → zc9, length_map → zd0, mem_singleton → zd1, mem_map → zd2, all_cons → zd3, length_pos_iff → zd5, getElem?_drop → zd6, drop_eq_nil_of_le → zd7, cons_append → zd8, getElem?_append_left → zd9, append_nil → ze2, mem_cons_of_mem → ze6, getElem?_eq_none → ze8, length_take → zf2, not_mem_nil → zf3, length_nil → zf4, drop_zero → zf5
open Bool renaming and_eq_true → za2, false_eq_true → zc1, true_and → ze5
open Nat renaming eq_of_beq_eq_true → za6, le_refl → za8, mul_le_mul_right → ze0, lt_of_lt_of_le → ze1, lt_or_ge → ze4, le_trans → ze7, zero_add → zf0, add_mul → zf7
open Int renaming mul_le_mul_of_nonneg_right → za7, mul_le_mul_of_nonneg_left → zb0, tmod_eq_emod_of_nonneg → zb7, tdiv_eq_ediv_of_nonneg → zc5, toNat_natCast → zc8, mul_add → ze3, le_of_lt → ze9, natAbs_natCast → zf1, mul_nonneg → zf6
open Sum renaming elim_inr → za9
open Array renaming getD_eq_getD_getElem? → zc7
open Go.IntKind renaming wrap → zi, i64 → zj, u64 → zk
open Option.some renaming inj → zv, injEq → zx
noncomputable section
set_option linter.unusedVariables false
set_option linter.unusedSimpArgs false
set_option linter.unusedSectionVars false
namespace Go.Proofs.YtiijheppiboglaaGreatDoor.Ev
section
open Go
set_option maxRecDepth 100000
def FW (a0:List Tq0) (a1 a2:Int):Option (Tq7×Bool):=(J0 (a1,a2)).bind fun x0=>(J0 ((zi zj (a1+1)),(zi zj (a2+1)))).bind fun x1=>(Co a0 (x0.1,x0.2.1,x0.2.2.1,x0.2.2.2.1,x0.2.2.2.2.1,x0.2.2.2.2.2.1,x0.2.2.2.2.2.2.1,x0.2.2.2.2.2.2.2) (x1.1,x1.2.1,x1.2.2.1,x1.2.2.2.1,x1.2.2.2.2.1,x1.2.2.2.2.2.1,x1.2.2.2.2.2.2.1,x1.2.2.2.2.2.2.2)).bind fun x2=>bif(!x2.2)then some ((false,([]:List Int),false,([]:List Int)),false)else(IW x2.1).bind fun x3=>(Eu (x3.1,x3.2.1,x3.2.2.1,x3.2.2.2)).bind fun x4=>some ((x4.1.1,x4.1.2.1,x4.1.2.2.1,x4.1.2.2.2),x4.2)
def As0:OKE:=fq Tc (fun x=>FW x.1 x.2.1 x.2.2) [Aj8,AC7,AH8,N1] Tryz.func177
def Cg (s0:Tq6) (s1:List Tq1) (s2:List Tq0) (s3 s4:Int):Option Tq23:=bif decide (s4<(zi zj (s0.1+s0.2.2.1)))then(FW s2 s4 s3).bind fun x0=>bif(!x0.2)then some (Sum.inr (Sum.inr (([]:List Tq1),false)))else(CZ 64 4 s1 ([((x0.1.1,x0.1.2.1),x0.1.2.2.1,x0.1.2.2.2)]:List Tq1)).bind fun x1=>some (Sum.inl ((s0.1,s0.2.1,s0.2.2.1,s0.2.2.2),x1,s2,s3,(zi zj (s4+1))))else some (Sum.inr (Sum.inl ((s0.1,s0.2.1,s0.2.2.1,s0.2.2.2),s1,s2,s3)))
def BN (s0:Tq6) (s1:List Tq1) (s2:List Tq0) (s3:Int):Option (Tq6×(List Tq1)×(List Tq0)×Int⊕((List Tq1)⊕(List Tq1)×Bool)):=bif decide (s3<(zi zj (s0.2.1+s0.2.2.2)))then(Ad (fun(s:(Tq6×(List Tq1)×(List Tq0)×Int×Int))=>Cg s.1 s.2.1 s.2.2.1 s.2.2.2.1 s.2.2.2.2) ((s0.1,s0.2.1,s0.2.2.1,s0.2.2.2),s1,s2,s3,s0.1)).bind fun x0=>Sum.elim (fun x1=>some (Sum.inl ((x1.1.1,x1.1.2.1,x1.1.2.2.1,x1.1.2.2.2),x1.2.1,x1.2.2.1,(zi zj (x1.2.2.2+1))))) (fun x2=>some (Sum.inr (Sum.inr (x2.1,x2.2)))) x0 else some (Sum.inr (Sum.inl s1))
def DH (a0:List Tq0) (a1:Tq6):Option (List Tq22×Bool):=(BP (a1.1,a1.2.1,a1.2.2.1,a1.2.2.2)).bind fun x0=>bif(!x0)then some (([]:List Tq1),false)else(Ad (fun(s:(Tq6×(List Tq1)×(List Tq0)×Int))=>BN s.1 s.2.1 s.2.2.1 s.2.2.2) ((a1.1,a1.2.1,a1.2.2.1,a1.2.2.2),([]:List Tq1),a0,a1.2.1)).bind fun x1=>Sum.elim (fun x2=>some (x2,true)) (fun x3=>some (x3.1,x3.2)) x1
def Av4:OKE:=fq SG (fun x=>DH x.1 x.2) [Ke,As0] Tryz.func120
def Ck (s0:Tq6) (s1:List Tq3) (s2:List Tq1) (s3:Int):Option (Tq6×(List Tq3)×(List Tq1)×Int⊕Tq6×(List Tq3)×(List Tq1)):=bif decide (s3>0)then(CU 0).bind fun x0=>(CZ 64 4 s2 ([((x0.1,x0.2.1),x0.2.2.1,x0.2.2.2)]:List Tq1)).bind fun x1=>some (Sum.inl ((s0.1,s0.2.1,s0.2.2.1,s0.2.2.2),s1,x1,(zi zj (s3-1))))else some (Sum.inr ((s0.1,s0.2.1,s0.2.2.1,s0.2.2.2),s1,s2))
def BU (s0:Tq6) (s1:List Tq1) (s2:List Tq3) (s3 s4:Int) (s5:List Tq1) (s6 s7:Int):Option Tq19:=bif decide (s7<s6)then(AD s5 s7).bind fun x0=>(A2 s7 (List.length s1)).bind fun x1=>(AY s1 x1).bind fun x2=>(G7 (x2.1.1,x2.1.2,x2.2.1,x2.2.2) (x0.1.1,x0.1.2,x0.2.1,x0.2.2)).bind fun x3=>(Eu (x3.1,x3.2.1,x3.2.2.1,x3.2.2.2)).bind fun x4=>bif(!x4.2)then some (Sum.inr (Sum.inr (([]:List Tq1),false)))else(A2 s7 (List.length s1)).bind fun x5=>(AY s1 x5).bind fun x6=>some (Sum.inl ((s0.1,s0.2.1,s0.2.2.1,s0.2.2.2),(List.set s1 x5 ((x4.1.1,x4.1.2.1),x4.1.2.2.1,x4.1.2.2.2)),s2,s3,s4,s5,s6,(zi zj (s7+1))))else some (Sum.inr (Sum.inl ((s0.1,s0.2.1,s0.2.2.1,s0.2.2.2),s1,s2,s3,s4)))
def Bk (s0:Tq6) (s1:List Tq1) (s2:List Tq3) (s3 s4:Int):Option (Tq6×(List Tq1)×(List Tq3)×Int×Int⊕((List Tq1)⊕(List Tq1)×Bool)):=bif decide (s4<s3)then(A2 s4 (List.length s2)).bind fun x0=>(AY s2 x0).bind fun x1=>(NU x1).bind fun x2=>(DH x2.1 (s0.1,s0.2.1,s0.2.2.1,s0.2.2.2)).bind fun x3=>bif(!x3.2)then some (Sum.inr (Sum.inr (([]:List Tq1),false)))else(Ad (fun(s:(Tq6×(List Tq1)×(List Tq3)×Int×Int×(List Tq1)×Int×Int))=>BU s.1 s.2.1 s.2.2.1 s.2.2.2.1 s.2.2.2.2.1 s.2.2.2.2.2.1 s.2.2.2.2.2.2.1 s.2.2.2.2.2.2.2) ((s0.1,s0.2.1,s0.2.2.1,s0.2.2.2),s1,s2,s3,s4,x3.1,(x3.1.length:Int),(0:Int))).bind fun x4=>Sum.elim (fun x5=>some (Sum.inl ((x5.1.1,x5.1.2.1,x5.1.2.2.1,x5.1.2.2.2),x5.2.1,x5.2.2.1,x5.2.2.2.1,(zi zj (x5.2.2.2.2+1))))) (fun x6=>some (Sum.inr (Sum.inr (x6.1,x6.2)))) x4 else some (Sum.inr (Sum.inl s1))
def EU (a0:List UInt8) (a1:Tq6):Option (List Tq22×Bool):=(EV a0).bind fun x0=>bif(!x0.2.2.2)then some (([]:List Tq1),false)else(BP (a1.1,a1.2.1,a1.2.2.1,a1.2.2.2)).bind fun x1=>bif(!x1)then some (([]:List Tq1),false)else(Ad (fun(s:(Tq6×(List Tq3)×(List Tq1)×Int))=>Ck s.1 s.2.1 s.2.2.1 s.2.2.2) ((a1.1,a1.2.1,a1.2.2.1,a1.2.2.2),x0.1,([]:List Tq1),(zi zj (a1.2.2.1*a1.2.2.2)))).bind fun x2=>(Ad (fun(s:(Tq6×(List Tq1)×(List Tq3)×Int×Int))=>Bk s.1 s.2.1 s.2.2.1 s.2.2.2.1 s.2.2.2.2) ((x2.1.1,x2.1.2.1,x2.1.2.2.1,x2.1.2.2.2),x2.2.2,x2.2.1,(x2.2.1.length:Int),(0:Int))).bind fun x3=>Sum.elim (fun x4=>some (x4,true)) (fun x5=>some (x5.1,x5.2)) x3
def LJ:OKE:=fq QQ (fun x=>EU x.1 x.2) [LG,Ke,PZ,AV6,Av4,L8,N1] Tryz.func51
def PW (a0:Tq2):Option Tq7:=(BA false a0.2.1).bind fun x0=>some (x0.2,x0.1,a0.2.2.1,a0.2.2.2)
def A2i:OKE:=fq Aj5 (fun x=>PW x) [Ft] Tryz.func167
def Qy (a0 a1:Tq5):Option Tq12:=(Im (a1.1,a1.2)).bind fun x0=>(MF (a0.1,a0.2) (x0.1,x0.2)).bind fun x1=>some (x1.1,x1.2)
def A2D:OKE:=fq An8 (fun x=>Qy x.1 x.2) [Ui,Ae0] Tryz.func218
def Lk (a0:Tq2):Option Tq12:=(JV (a0.1,a0.2.1) (a0.2.2.1,a0.2.2.2)).bind fun x0=>bif x0.2.1 then(DC 1).bind fun x1=>(Qy (x0.1.1,x0.1.2) (x1.1,x1.2)).bind fun x2=>some (x2.1,x2.2)else some (x0.1.1,x0.1.2)
def AK8:OKE:=fq Vs (fun x=>Lk x) [Aj6,L6,A2D] Tryz.func170
def Lw (s0:Tq5) (s1 s2:Int):Option (Tq5×Int×Int⊕Tq5×Int):=bif decide (s2>=0)then(AD s0.2 s2).bind fun x0=>some (Sum.inl ((s0.1,s0.2),(zi zj ((zi zj (s1*65536))+x0)),(zi zj (s2-1))))else some (Sum.inr ((s0.1,s0.2),s1))
def L5 (a0:Tq5):Option (Int×Bool):=(G5 (a0.1,a0.2)).bind fun x0=>bif(!x0)then some ((0:Int),false)else bif decide ((a0.2.length:Int)>4)then some ((0:Int),false)else(DC 4611686018427387904).bind fun x1=>(CA a0.2 x1.2).bind fun x2=>bif decide (x2>0)then some ((0:Int),false)else(Ad (fun(s:Tq5×Int×Int)=>Lw s.1 s.2.1 s.2.2) ((a0.1,a0.2),(0:Int),(zi zj ((a0.2.length:Int)-1)))).bind fun x3=>bif x3.1.1 then some ((zi zj ((0:Int)-x3.2)),true)else some (x3.2,true)
def A1P:OKE:=fq Ai7 (fun x=>L5 x) [U3,L6,LU] Tryz.func169
def LA (a0:Tq2):Option Int:=(PW (a0.1,a0.2.1,a0.2.2.1,a0.2.2.2)).bind fun x0=>(CU 1).bind fun x1=>(Id (x0.1,x0.2.1,x0.2.2.1,x0.2.2.2) (x1.1,x1.2.1,x1.2.2.1,x1.2.2.2)).bind fun x2=>bif decide (x2>0)then some (255:Int)else(DC 1).bind fun x3=>(DC 2).bind fun x4=>(Fs (x3.1,x3.2) (x4.1,x4.2)).bind fun x5=>(CU 255).bind fun x6=>(Ic (x0.1,x0.2.1,x0.2.2.1,x0.2.2.2) (x6.1,x6.2.1,x6.2.2.1,x6.2.2.2)).bind fun x7=>(G7 (x7.1,x7.2.1,x7.2.2.1,x7.2.2.2) (x5.1,x5.2.1,x5.2.2.1,x5.2.2.2)).bind fun x8=>(Lk (x8.1,x8.2.1,x8.2.2.1,x8.2.2.2)).bind fun x9=>(L5 (x9.1,x9.2)).bind fun x10=>some x10.1
def AJ7:OKE:=fq V5 (fun x=>LA x) [A2i,PZ,T9,L6,KR,TF,L8,AK8,A1P] Tryz.func108
def B6 (s0:List Int) (s1:List Tq1) (s2 s3:Int):Option ((List Int)×(List Tq1)×Int×Int⊕(List Int)):=bif decide (s3<s2)then(AD s1 s3).bind fun x0=>(LA (x0.1.1,x0.1.2,x0.2.1,x0.2.2)).bind fun x1=>(CZ 8 1 s0 ([x1]:List Int)).bind fun x2=>some (Sum.inl (x2,s1,s2,(zi zj (s3+1))))else some (Sum.inr s0)
def Hy (a0:List UInt8) (a1:Tq6):Option (List Int×Bool):=(EU a0 (a1.1,a1.2.1,a1.2.2.1,a1.2.2.2)).bind fun x0=>bif(!x0.2)then some (([]:List Int),false)else(Ad (fun(s:((List Int)×(List Tq1)×Int×Int))=>B6 s.1 s.2.1 s.2.2.1 s.2.2.2) (([]:List Int),x0.1,(x0.1.length:Int),(0:Int))).bind fun x1=>some (x1,true)
def Pk:OKE:=fq OU (fun x=>Hy x.1 x.2) [LJ,AJ7] Tryz.func38
def Dg (s0:Tq6) (s1:List Tq3) (s2 s3:Int) (s4:Tq3) (s5 s6:Int):Option (Tq6×(List Tq3)×Int×Int×Tq3×Int×Int⊕(Tq6×(List Tq3)×Int×Int⊕Bool×Bool)):=bif decide (s6<s5)then(AD s4 s6).bind fun x0=>(AV x0.1 s0.1 (zi zj (s0.1+s0.2.2.1))).bind fun x1=>bif(!x1)then some (Sum.inr (Sum.inr (false,true)))else(AV x0.2 s0.2.1 (zi zj (s0.2.1+s0.2.2.2))).bind fun x2=>bif(!x2)then some (Sum.inr (Sum.inr (false,true)))else some (Sum.inl ((s0.1,s0.2.1,s0.2.2.1,s0.2.2.2),s1,s2,s3,s4,s5,(zi zj (s6+1))))else some (Sum.inr (Sum.inl ((s0.1,s0.2.1,s0.2.2.1,s0.2.2.2),s1,s2,s3)))
def Di (s0:Tq6) (s1:List Tq3) (s2 s3:Int):Option (Tq6×(List Tq3)×Int×Int⊕(Unit⊕Bool×Bool)):=bif decide (s3<s2)then(AD s1 s3).bind fun x0=>(Ad (fun(s:(Tq6×(List Tq3)×Int×Int×Tq3×Int×Int))=>Dg s.1 s.2.1 s.2.2.1 s.2.2.2.1 s.2.2.2.2.1 s.2.2.2.2.2.1 s.2.2.2.2.2.2) ((s0.1,s0.2.1,s0.2.2.1,s0.2.2.2),s1,s2,s3,x0,(x0.length:Int),(0:Int))).bind fun x1=>Sum.elim (fun x2=>some (Sum.inl ((x2.1.1,x2.1.2.1,x2.1.2.2.1,x2.1.2.2.2),x2.2.1,x2.2.2.1,(zi zj (x2.2.2.2+1))))) (fun x3=>some (Sum.inr (Sum.inr (x3.1,x3.2)))) x1 else some (Sum.inr (Sum.inl ()))
def Eb (a0:List UInt8) (a1:Tq6):Option (Bool×Bool):=(EZ a0).bind fun x0=>bif(!x0.2.2.2)then some (false,false)else(AQ (a1.1,a1.2.1,a1.2.2.1,a1.2.2.2)).bind fun x1=>bif(!x1)then some (false,false)else(Ad (fun(s:(Tq6×(List Tq3)×Int×Int))=>Di s.1 s.2.1 s.2.2.1 s.2.2.2) ((a1.1,a1.2.1,a1.2.2.1,a1.2.2.2),x0.1,(x0.1.length:Int),(0:Int))).bind fun x2=>Sum.elim (fun x3=>some (true,true)) (fun x4=>some (x4.1,x4.2)) x2
def Oy:OKE:=fq OO (fun x=>Eb x.1 x.2) [LQ,D7,Gz] Tryz.func52
def I3 (s0 s1:Int×Int) (s2 s3:Int×Int) (s4:Tq3) (s5 s6:Int):Option ((Int×Int)×(Int×Int)×(Int×Int)×(Int×Int)×Tq3×Int×Int⊕(Int×Int)×(Int×Int)×(Int×Int)×Int×Int):=bif decide (s6<s5)then(AD s4 s6).bind fun x0=>(bif decide (x0.1<s2.1)then some (Sum.inr ((s0.1,s0.2),(s1.1,s1.2),(x0.1,s2.2),(s3.1,s3.2),(x0.1,x0.2),s4,s5,s6))else some (Sum.inr ((s0.1,s0.2),(s1.1,s1.2),(s2.1,s2.2),(s3.1,s3.2),(x0.1,x0.2),s4,s5,s6))).bind fun x1=>Sum.elim (fun x2=>some x2) (fun x3=>(bif decide (x3.2.2.2.2.1.2<x3.2.2.1.2)then some (Sum.inr ((x3.1.1,x3.1.2),(x3.2.1.1,x3.2.1.2),(x3.2.2.1.1,x3.2.2.2.2.1.2),(x3.2.2.2.1.1,x3.2.2.2.1.2),(x3.2.2.2.2.1.1,x3.2.2.2.2.1.2),x3.2.2.2.2.2.1,x3.2.2.2.2.2.2.1,x3.2.2.2.2.2.2.2))else some (Sum.inr ((x3.1.1,x3.1.2),(x3.2.1.1,x3.2.1.2),(x3.2.2.1.1,x3.2.2.1.2),(x3.2.2.2.1.1,x3.2.2.2.1.2),(x3.2.2.2.2.1.1,x3.2.2.2.2.1.2),x3.2.2.2.2.2.1,x3.2.2.2.2.2.2.1,x3.2.2.2.2.2.2.2))).bind fun x4=>Sum.elim (fun x5=>some x5) (fun x6=>(bif decide (x6.2.2.2.2.1.1>x6.2.2.2.1.1)then some (Sum.inr ((x6.1.1,x6.1.2),(x6.2.1.1,x6.2.1.2),(x6.2.2.1.1,x6.2.2.1.2),(x6.2.2.2.2.1.1,x6.2.2.2.1.2),(x6.2.2.2.2.1.1,x6.2.2.2.2.1.2),x6.2.2.2.2.2.1,x6.2.2.2.2.2.2.1,x6.2.2.2.2.2.2.2))else some (Sum.inr ((x6.1.1,x6.1.2),(x6.2.1.1,x6.2.1.2),(x6.2.2.1.1,x6.2.2.1.2),(x6.2.2.2.1.1,x6.2.2.2.1.2),(x6.2.2.2.2.1.1,x6.2.2.2.2.1.2),x6.2.2.2.2.2.1,x6.2.2.2.2.2.2.1,x6.2.2.2.2.2.2.2))).bind fun x7=>Sum.elim (fun x8=>some x8) (fun x9=>bif decide (x9.2.2.2.2.1.2>x9.2.2.2.1.2)then some (Sum.inl ((x9.1.1,x9.1.2),(x9.2.1.1,x9.2.1.2),(x9.2.2.1.1,x9.2.2.1.2),(x9.2.2.2.1.1,x9.2.2.2.2.1.2),x9.2.2.2.2.2.1,x9.2.2.2.2.2.2.1,(zi zj (x9.2.2.2.2.2.2.2+1))))else some (Sum.inl ((x9.1.1,x9.1.2),(x9.2.1.1,x9.2.1.2),(x9.2.2.1.1,x9.2.2.1.2),(x9.2.2.2.1.1,x9.2.2.2.1.2),x9.2.2.2.2.2.1,x9.2.2.2.2.2.2.1,(zi zj (x9.2.2.2.2.2.2.2+1))))) x7) x4) x1 else some (Sum.inr ((s0.1,s0.2),(s1.1,s1.2),(s2.1,s2.2),s3.1,s3.2))
def Qj (a0:Tq3):Option ((Int×Int)×Int×Int):=(AD a0 0).bind fun x0=>(AD a0 0).bind fun x1=>(Ad (fun(s:((Int×Int)×(Int×Int)×(Int×Int)×(Int×Int)×Tq3×Int×Int))=>I3 s.1 s.2.1 s.2.2.1 s.2.2.2.1 s.2.2.2.2.1 s.2.2.2.2.2.1 s.2.2.2.2.2.2) (((0:Int),(0:Int)),((0:Int),(0:Int)),(x0.1,x0.2),(x1.1,x1.2),a0,(a0.length:Int),(0:Int))).bind fun x2=>some ((x2.2.2.1.1,x2.2.2.1.2),x2.2.2.2.1,x2.2.2.2.2)
def A2R:OKE:=fq Ah6 (fun x=>Qj x) [] Tryz.func122
def Df (s0:Tq6) (s1:List Tq3) (s2 s3:Int):Option (Tq6×(List Tq3)×Int×Int⊕(Unit⊕Bool×Bool)):=bif decide (s3<s2)then(A2 s3 (List.length s1)).bind fun x0=>(AY s1 x0).bind fun x1=>(Qj x1).bind fun x2=>bif decide (x2.1.1<s0.1)then some (Sum.inr (Sum.inr (false,true)))else bif decide (x2.1.2<s0.2.1)then some (Sum.inr (Sum.inr (false,true)))else bif decide (x2.2.1>(zi zj (s0.1+s0.2.2.1)))then some (Sum.inr (Sum.inr (false,true)))else bif decide (x2.2.2>(zi zj (s0.2.1+s0.2.2.2)))then some (Sum.inr (Sum.inr (false,true)))else some (Sum.inl ((s0.1,s0.2.1,s0.2.2.1,s0.2.2.2),s1,s2,(zi zj (s3+1))))else some (Sum.inr (Sum.inl ()))
def HT (a0:List UInt8) (a1:Tq6):Option (Bool×Bool):=(EV a0).bind fun x0=>bif(!x0.2.2.2)then some (false,false)else(BP (a1.1,a1.2.1,a1.2.2.1,a1.2.2.2)).bind fun x1=>bif(!x1)then some (false,false)else(Ad (fun(s:(Tq6×(List Tq3)×Int×Int))=>Df s.1 s.2.1 s.2.2.1 s.2.2.2) ((a1.1,a1.2.1,a1.2.2.1,a1.2.2.2),x0.1,(x0.1.length:Int),(0:Int))).bind fun x2=>Sum.elim (fun x3=>some (true,true)) (fun x4=>some (x4.1,x4.2)) x2
def On:OKE:=fq OI (fun x=>HT x.1 x.2) [LG,Ke,A2R] Tryz.func53
def Eo (s0 s1:Tq2) (s2:List Tq3) (s3 s4:Int):Option (Tq2×Tq2×(List Tq3)×Int×Int⊕Tq2×Bool×(List Int)×Bool×(List Int)):=bif decide (s4<s3)then(AD s2 s4).bind fun x0=>(J7 x0).bind fun x1=>(Hu x1).bind fun x2=>(Cl (s1.1,s1.2.1,s1.2.2.1,s1.2.2.2) (x2.1,x2.2.1,x2.2.2.1,x2.2.2.2)).bind fun x3=>some (Sum.inl ((s0.1,s0.2.1,s0.2.2.1,s0.2.2.2),(x3.1,x3.2.1,x3.2.2.1,x3.2.2.2),s2,s3,(zi zj (s4+1))))else some (Sum.inr ((s0.1,s0.2.1,s0.2.2.1,s0.2.2.2),s1.1,s1.2.1,s1.2.2.1,s1.2.2.2))
def Ig (a0:List UInt8):Option (Tq7×Bool):=(EZ a0).bind fun x0=>bif(!x0.2.2.2)then some ((false,([]:List Int),false,([]:List Int)),false)else(A4 0).bind fun x1=>(Ad (fun(s:(Tq2×Tq2×(List Tq3)×Int×Int))=>Eo s.1 s.2.1 s.2.2.1 s.2.2.2.1 s.2.2.2.2) ((false,([]:List Int),false,([]:List Int)),(x1.1,x1.2.1,x1.2.2.1,x1.2.2.2),x0.1,(x0.1.length:Int),(0:Int))).bind fun x2=>(Du (x2.2.1,x2.2.2.1,x2.2.2.2.1,x2.2.2.2.2)).bind fun x3=>some ((x3.1.1,x3.1.2.1,x3.1.2.2.1,x3.1.2.2.2),x3.2)
def Am3:OKE:=fq Af7 (fun x=>Ig x) [LQ,F1,Ym,SO,Fw,HR] Tryz.func13
def MK (a0:Tq3) (a1:Int):Option (Int×Int):=bif((a0.length:Int)==0)then none else(AD a0 (Int.tmod (zi zj (a1+1)) (a0.length:Int))).bind fun x0=>some (x0.1,x0.2)
def AS7:OKE:=fq Yl (fun x=>MK x.1 x.2) [] Tryz.func132
def JI (s0:Tq3) (s1:Int) (s2:Tq3) (s3 s4:Int):Option (Tq3×Int×Tq3×Int×Int⊕Int):=bif decide (s4<s3)then(AD s2 s4).bind fun x0=>(MK s0 s4).bind fun x1=>some (Sum.inl (s0,(zi zj (s1+(zi zj ((zi zj (x0.1*x1.2))-(zi zj (x1.1*x0.2)))))),s2,s3,(zi zj (s4+1))))else some (Sum.inr s1)
def NI (a0:Tq3):Option Int:=(Ad (fun(s:Tq3×Int×Tq3×Int×Int)=>JI s.1 s.2.1 s.2.2.1 s.2.2.2.1 s.2.2.2.2) (a0,(0:Int),a0,(a0.length:Int),(0:Int))).bind fun x0=>some x0
def AS3:OKE:=fq Xw (fun x=>NI x) [AS7] Tryz.func69
def Ek (s0:Tq2) (s1:List Tq3) (s2 s3 s4:Int):Option (Tq2×(List Tq3)×Int×Int×Int⊕Tq2×Int):=bif decide (s4<s3)then(A2 s4 (List.length s1)).bind fun x0=>(AY s1 x0).bind fun x1=>(NI x1).bind fun x2=>some (Sum.inl ((s0.1,s0.2.1,s0.2.2.1,s0.2.2.2),s1,(zi zj (s2+x2)),s3,(zi zj (s4+1))))else some (Sum.inr ((s0.1,s0.2.1,s0.2.2.1,s0.2.2.2),s2))
def Ip (a0:List UInt8):Option (Tq7×Bool):=(EV a0).bind fun x0=>bif(!x0.2.2.2)then some ((false,([]:List Int),false,([]:List Int)),false)else(Ad (fun(s:(Tq2×(List Tq3)×Int×Int×Int))=>Ek s.1 s.2.1 s.2.2.1 s.2.2.2.1 s.2.2.2.2) ((false,([]:List Int),false,([]:List Int)),x0.1,(0:Int),(x0.1.length:Int),(0:Int))).bind fun x1=>(DC x1.2).bind fun x2=>(DC 2).bind fun x3=>(Fs (x2.1,x2.2) (x3.1,x3.2)).bind fun x4=>(Eu (x4.1,x4.2.1,x4.2.2.1,x4.2.2.2)).bind fun x5=>some ((x5.1.1,x5.1.2.1,x5.1.2.2.1,x5.1.2.2.2),x5.2)
def An7:OKE:=fq Ac5 (fun x=>Ip x) [LG,AS3,L6,KR,N1] Tryz.func12
def BQ (s0 s1:List Int) (s2 s3:Int):Option ((List Int)×(List Int)×Int×Int⊕(Unit⊕Bool)):=bif decide (s3<s2)then(AD s0 s3).bind fun x0=>(AD s1 s3).bind fun x1=>bif(x0 != x1)then some (Sum.inr (Sum.inr false))else some (Sum.inl (s0,s1,s2,(zi zj (s3+1))))else some (Sum.inr (Sum.inl ()))
def CJ (a0 a1:List Int):Option Bool:=bif((a0.length:Int) != (a1.length:Int))then some false else(Ad (fun(s:((List Int)×(List Int)×Int×Int))=>BQ s.1 s.2.1 s.2.2.1 s.2.2.2) (a0,a1,(a0.length:Int),(0:Int))).bind fun x0=>Sum.elim (fun x1=>some true) (fun x2=>some x2) x0
def Nd:OKE:=fq Sg (fun x=>CJ x.1 x.2) [] Tryz.func54
def IQ (a0 a1:Tq5):Option Bool:=bif(a0.1==a1.1)then(CJ a0.2 a1.2).bind fun x0=>some x0 else some false
def AH4:OKE:=fq V3 (fun x=>IQ x.1 x.2) [Nd] Tryz.func107
def CO (a0 a1:Tq2):Option Bool:=(IQ (a0.1,a0.2.1) (a1.1,a1.2.1)).bind fun x0=>bif x0 then(IQ (a0.2.2.1,a0.2.2.2) (a1.2.2.1,a1.2.2.2)).bind fun x1=>some x1 else some false
def Pt:OKE:=fq VN (fun x=>CO x.1 x.2) [AH4] Tryz.func37
def Dm (s0 s1:List Tq1) (s2 s3:Int):Option ((List Tq1)×(List Tq1)×Int×Int⊕(Unit⊕Bool)):=bif decide (s3<s2)then(AD s0 s3).bind fun x0=>(AD s1 s3).bind fun x1=>(CO (x0.1.1,x0.1.2,x0.2.1,x0.2.2) (x1.1.1,x1.1.2,x1.2.1,x1.2.2)).bind fun x2=>bif(!x2)then some (Sum.inr (Sum.inr false))else some (Sum.inl (s0,s1,s2,(zi zj (s3+1))))else some (Sum.inr (Sum.inl ()))
def FU (a0 a1:List Tq1):Option Bool:=bif((a0.length:Int) != (a1.length:Int))then some false else(Ad (fun(s:((List Tq1)×(List Tq1)×Int×Int))=>Dm s.1 s.2.1 s.2.2.1 s.2.2.2) (a0,a1,(a0.length:Int),(0:Int))).bind fun x0=>Sum.elim (fun x1=>some true) (fun x2=>some x2) x0
def SQ:OKE:=fq R4 (fun x=>FU x.1 x.2) [Pt] Tryz.func55
def Dr (s0:Int) (s1:List Int) (s2 s3:Int):Option (Int×(List Int)×Int×Int⊕Int):=bif decide (s3<s2)then(AD s1 s3).bind fun x0=>some (Sum.inl ((Int.tmod (zi zj ((zi zj ((31:Int)*s0))+(zi zj x0))) 1000003),s1,s2,(zi zj (s3+1))))else some (Sum.inr s0)
def JO (a0:List Int):Option Int:=(Ad (fun(s:(Int×(List Int)×Int×Int))=>Dr s.1 s.2.1 s.2.2.1 s.2.2.2) ((0:Int),a0,(a0.length:Int),(0:Int))).bind fun x0=>some x0
def SK:OKE:=fq R5 (fun x=>JO x) [] Tryz.func56
def HK (a0:Int):Option Bool:=(AV a0 0 255).bind fun x0=>some (!x0)
def PG:OKE:=fq Ol (fun x=>HK x) [Gz] Tryz.func181
def Aw (s0:List Int) (s1 s2:Int):Option ((List Int)×Int×Int⊕(Unit⊕Int)):=bif decide (s2<s1)then(AD s0 s2).bind fun x0=>(HK x0).bind fun x1=>bif x1 then some (Sum.inr (Sum.inr s2))else some (Sum.inl (s0,s1,(zi zj (s2+1))))else some (Sum.inr (Sum.inl ()))
def BI (a0:List Int):Option Int:=(Ad (fun(s:Tq9)=>Aw s.1 s.2.1 s.2.2) (a0,(a0.length:Int),(0:Int))).bind fun x0=>Sum.elim (fun x1=>some (-(1:Int))) (fun x2=>some x2) x0
def Ej:Ent:=⟨CQ,fun x=>BI x⟩
def Ep:TX:=⟨Tk,Rn,[],[4],[PG.E],CQ⟩
theorem I0(a0:List (Int)):wtF Ep Tryz.f233 (a0)=BI a0:=by kernel_rfl
theorem Iw:Eh RR Ej:=P0 (X:=Ep) ⟨A2u,T0,A2r⟩ (Sb (by exact⟨⟨PG.k,rfl⟩,trivial⟩)) (A3h C3 (by kernel_rfl) rfl rfl rfl rfl rfl rfl) ⟨Tryz.func233,rfl,by kernel_rfl,rfl⟩ (fun x=>by exact I0 x)
def Br (a0:List Int):Option Bool:=(BI a0).bind fun x0=>some (decide (x0>=0))
def DF:Ent:=⟨Ca,fun x=>Br x⟩
def DQ:TX:=⟨Tk,Rn,[],[4],[Ej],Ca⟩
theorem HU(a0:List (Int)):wtF DQ Tryz.f180 (a0)=Br a0:=by kernel_rfl
theorem Hb:Eh RR DF:=P0 (X:=DQ) ⟨A2u,T0,A2r⟩ (Sb (by exact⟨⟨Iw,rfl⟩,trivial⟩)) (A3h CE (by kernel_rfl) rfl rfl rfl rfl rfl rfl) ⟨Tryz.func180,rfl,by kernel_rfl,rfl⟩ (fun x=>by exact HU x)
def HA:OKE:=⟨DF,Hb,rfl⟩
def JE (a0:List Int):Option Bool:=(Br a0).bind fun x0=>some (!x0)
def Aq9:OKE:=fq Su (fun x=>JE x) [HA] Tryz.func123
def EF (s0 s1:Tq6) (s2 s3:List Int) (s4 s5:Int) (s6 s7:Int):Option (Tq6×Tq6×(List Int)×(List Int)×Int×Int×Int×Int⊕(List Int)):=bif decide (s7<s6)then(FT (zi zj ((zi zj ((zi zj (s5+s7))*s0.2.2.1))+s4)) (zi zj ((zi zj ((zi zj ((zi zj (s5+s7))*s0.2.2.1))+s4))+s1.2.2.1)) (List.length s3)).bind fun x0=>(CZ 8 1 s2 (List.drop x0.1 (List.take x0.2 s3))).bind fun x1=>some (Sum.inl ((s0.1,s0.2.1,s0.2.2.1,s0.2.2.2),(s1.1,s1.2.1,s1.2.2.1,s1.2.2.2),x1,s3,s4,s5,s6,(zi zj (s7+1))))else some (Sum.inr s2)
def Gy (a0:Tq6) (a1:List Int) (a2:Tq6):Option (List Int×Bool):=(AQ (a0.1,a0.2.1,a0.2.2.1,a0.2.2.2)).bind fun x0=>bif(!x0)then some (([]:List Int),false)else(AQ (a2.1,a2.2.1,a2.2.2.1,a2.2.2.2)).bind fun x1=>bif(!x1)then some (([]:List Int),false)else bif((a1.length:Int) != (zi zj (a0.2.2.1*a0.2.2.2)))then some (([]:List Int),false)else(JE a1).bind fun x2=>bif(!x2)then some (([]:List Int),false)else bif decide ((zi zj (a2.1-a0.1))<0)then some (([]:List Int),false)else bif decide ((zi zj (a2.2.1-a0.2.1))<0)then some (([]:List Int),false)else bif decide ((zi zj ((zi zj (a2.1-a0.1))+a2.2.2.1))>a0.2.2.1)then some (([]:List Int),false)else bif decide ((zi zj ((zi zj (a2.2.1-a0.2.1))+a2.2.2.2))>a0.2.2.2)then some (([]:List Int),false)else(Ad (fun(s:(Tq6×Tq6×(List Int)×(List Int)×Int×Int×Int×Int))=>EF s.1 s.2.1 s.2.2.1 s.2.2.2.1 s.2.2.2.2.1 s.2.2.2.2.2.1 s.2.2.2.2.2.2.1 s.2.2.2.2.2.2.2) ((a0.1,a0.2.1,a0.2.2.1,a0.2.2.2),(a2.1,a2.2.1,a2.2.2.1,a2.2.2.2),([]:List Int),a1,(zi zj (a2.1-a0.1)),(zi zj (a2.2.1-a0.2.1)),a2.2.2.2,(0:Int))).bind fun x3=>some (x3,true)
def Zq:OKE:=fq Zy (fun x=>Gy x.1 x.2.1 x.2.2) [D7,Aq9] Tryz.func57
def El (s0 s1:Tq2) (s2:List Tq1) (s3 s4:Int):Option (Tq2×Tq2×(List Tq1)×Int×Int⊕Tq2×Bool×(List Int)×Bool×(List Int)):=bif decide (s4<s3)then(AD s2 s4).bind fun x0=>(Cl (s1.1,s1.2.1,s1.2.2.1,s1.2.2.2) (x0.1.1,x0.1.2,x0.2.1,x0.2.2)).bind fun x1=>some (Sum.inl ((s0.1,s0.2.1,s0.2.2.1,s0.2.2.2),(x1.1,x1.2.1,x1.2.2.1,x1.2.2.2),s2,s3,(zi zj (s4+1))))else some (Sum.inr ((s0.1,s0.2.1,s0.2.2.1,s0.2.2.2),s1.1,s1.2.1,s1.2.2.1,s1.2.2.2))
def Mx (a0:List Tq1):Option (Tq7×Bool):=bif decide ((a0.length:Int)>64)then some ((false,([]:List Int),false,([]:List Int)),false)else(FE a0).bind fun x0=>bif(!x0)then some ((false,([]:List Int),false,([]:List Int)),false)else(A4 0).bind fun x1=>(Ad (fun(s:(Tq2×Tq2×(List Tq1)×Int×Int))=>El s.1 s.2.1 s.2.2.1 s.2.2.2.1 s.2.2.2.2) ((false,([]:List Int),false,([]:List Int)),(x1.1,x1.2.1,x1.2.2.1,x1.2.2.2),a0,(a0.length:Int),(0:Int))).bind fun x2=>(Du (x2.2.1,x2.2.2.1,x2.2.2.2.1,x2.2.2.2.2)).bind fun x3=>some ((x3.1.1,x3.1.2.1,x3.1.2.2.1,x3.1.2.2.2),x3.2)
def Ak5:OKE:=fq Ae6 (fun x=>Mx x) [VV,F1,Fw,HR] Tryz.func59
def FB (a0 a1:List Int):Option Bool:=bif decide ((zi zj ((a0.length:Int)+(a1.length:Int)))>1048576)then some true else(Ew a0).bind fun x0=>(D3 x0.1 (x0.2.1,x0.2.2.1,x0.2.2.2.1,x0.2.2.2.2)).bind fun x1=>(Hy x0.1 (x0.2.1,x0.2.2.1,x0.2.2.2.1,x0.2.2.2.2)).bind fun x2=>(EY x0.1 (x0.2.1,x0.2.2.1,x0.2.2.2.1,x0.2.2.2.2)).bind fun x3=>(EU x0.1 (x0.2.1,x0.2.2.1,x0.2.2.2.1,x0.2.2.2.2)).bind fun x4=>(Eb x0.1 (x0.2.1,x0.2.2.1,x0.2.2.2.1,x0.2.2.2.2)).bind fun x5=>(HT x0.1 (x0.2.1,x0.2.2.1,x0.2.2.2.1,x0.2.2.2.2)).bind fun x6=>(Ig x0.1).bind fun x7=>(Ip x0.1).bind fun x8=>bif(!(x1.2==x2.2))then some false else(CJ x1.1 x2.1).bind fun x9=>bif(!x9)then some false else bif(!(x3.2==x4.2))then some false else(FU x3.1 x4.1).bind fun x10=>bif(!x10)then some false else bif(!(x5.2==x6.2))then some false else bif(!(x5.1==x6.1))then some false else bif(!(x7.2==x8.2))then some false else(CO (x7.1.1,x7.1.2.1,x7.1.2.2.1,x7.1.2.2.2) (x8.1.1,x8.1.2.1,x8.1.2.2.1,x8.1.2.2.2)).bind fun x11=>bif(!x11)then some false else bif x1.2 then(JO a1).bind fun x12=>bif(x0.2.2.2.1==0)then none else bif(x0.2.2.2.2==0)then none else(D3 x0.1 ((zi zj (x0.2.1+(Int.tmod x12 x0.2.2.2.1))),(zi zj (x0.2.2.1+(Int.tmod (zi zj (Int.tdiv x12 8)) x0.2.2.2.2))),(zi zj ((zi zj (x0.2.1+x0.2.2.2.1))-(zi zj (x0.2.1+(Int.tmod x12 x0.2.2.2.1))))),(zi zj ((zi zj (x0.2.2.1+x0.2.2.2.2))-(zi zj (x0.2.2.1+(Int.tmod (zi zj (Int.tdiv x12 8)) x0.2.2.2.2))))))).bind fun x13=>(Gy (x0.2.1,x0.2.2.1,x0.2.2.2.1,x0.2.2.2.2) x1.1 ((zi zj (x0.2.1+(Int.tmod x12 x0.2.2.2.1))),(zi zj (x0.2.2.1+(Int.tmod (zi zj (Int.tdiv x12 8)) x0.2.2.2.2))),(zi zj ((zi zj (x0.2.1+x0.2.2.2.1))-(zi zj (x0.2.1+(Int.tmod x12 x0.2.2.2.1))))),(zi zj ((zi zj (x0.2.2.1+x0.2.2.2.2))-(zi zj (x0.2.2.1+(Int.tmod (zi zj (Int.tdiv x12 8)) x0.2.2.2.2))))))).bind fun x14=>((AQ ((zi zj (x0.2.1+(Int.tmod x12 x0.2.2.2.1))),(zi zj (x0.2.2.1+(Int.tmod (zi zj (Int.tdiv x12 8)) x0.2.2.2.2))),(zi zj ((zi zj (x0.2.1+x0.2.2.2.1))-(zi zj (x0.2.1+(Int.tmod x12 x0.2.2.2.1))))),(zi zj ((zi zj (x0.2.2.1+x0.2.2.2.2))-(zi zj (x0.2.2.1+(Int.tmod (zi zj (Int.tdiv x12 8)) x0.2.2.2.2))))))).bind fun x15=>bif x15 then bif(!x13.2)then some (Sum.inl false)else bif(!x14.2)then some (Sum.inl false)else(CJ x13.1 x14.1).bind fun x16=>bif(!x16)then some (Sum.inl false)else some (Sum.inr ((x7.1.1,x7.1.2.1,x7.1.2.2.1,x7.1.2.2.2),x3.1,x3.2,x5.1,x5.2))else some (Sum.inr ((x7.1.1,x7.1.2.1,x7.1.2.2.1,x7.1.2.2.2),x3.1,x3.2,x5.1,x5.2))).bind fun x17=>Sum.elim (fun x18=>some x18) (fun x19=>bif x19.2.2.2.1 then bif x19.2.2.2.2 then(Mx x19.2.1).bind fun x20=>bif(!x19.2.2.1)then some false else bif x20.2 then(CO (x20.1.1,x20.1.2.1,x20.1.2.2.1,x20.1.2.2.2) (x19.1.1,x19.1.2.1,x19.1.2.2.1,x19.1.2.2.2)).bind fun x21=>bif(!x21)then some false else some true else some true else some true else some true) x17 else some true
def XW:Ent:=⟨Kd,fun x=>FB x.1 x.2⟩
def Pq:TX:=⟨Tk,Rn,[],[4],[Ki.E,OK.E,Pk.E,LS.E,LJ.E,Oy.E,On.E,Am3.E,An7.E,Nd.E,SQ.E,Pt.E,SK.E,Zq.E,D7.E,Ak5.E],Kd⟩
theorem Xe(a0:List (Int))(a1:List (Int)):wtF Pq Tryz.f8 (a0,a1)=FB a0 a1:=by kernel_rfl
theorem WD:Eh RR XW:=P0 (X:=Pq) ⟨A2u,T0,A2r⟩ (Sb (by exact⟨⟨Ki.k,rfl⟩,⟨⟨OK.k,rfl⟩,⟨⟨Pk.k,rfl⟩,⟨⟨LS.k,rfl⟩,⟨⟨LJ.k,rfl⟩,⟨⟨Oy.k,rfl⟩,⟨⟨On.k,rfl⟩,⟨⟨Am3.k,rfl⟩,⟨⟨An7.k,rfl⟩,⟨⟨Nd.k,rfl⟩,⟨⟨SQ.k,rfl⟩,⟨⟨Pt.k,rfl⟩,⟨⟨SK.k,rfl⟩,⟨⟨Zq.k,rfl⟩,⟨⟨D7.k,rfl⟩,⟨⟨Ak5.k,rfl⟩,trivial⟩⟩⟩⟩⟩⟩⟩⟩⟩⟩⟩⟩⟩⟩⟩⟩)) (A0Y (by kernel_rfl)) ⟨Tryz.func8,rfl,by kernel_rfl,rfl⟩ (fun x=>by exact Xe x.1 x.2)
end
section
open Go
section
variable {α β σ ρ:Type} {body:σ->Option (σ⊕ρ)}
theorem J2{l:List α}(st:Nat->β->σ)(step:β->α->β)(fin:β->ρ)(I:Nat->β->Prop)
  (hgo:∀k b a,l[k]? =some a->I k b->body (st k b)=some (.inl (st (k+1) (step b a)))/\I (k+1) (step b a))
  (hend:∀b,I l.length b->body (st l.length b)=some (.inr (fin b))) (b:β) (h0:I 0 b):
  Ad body (st 0 b)=some (fin (l.foldl step b))/\I l.length (l.foldl step b):=by
 have key:∀(n k:Nat)(b:β),k+n=l.length->I k b->Ad body (st k b)=some (fin ((l.drop k).foldl step b))/\I l.length ((l.drop k).foldl step b):=by
  intro n
  induction n with
  |zero=>
   intro k b hk hI;have:k=l.length:=by omega
   subst this;rw[List.drop_length];exact⟨Ak (hend b hI),hI⟩
  |succ n ih=>
   intro k b hk hI;have hlt:k<l.length:=by omega
   have hd:l.drop k=l[k]::l.drop (k+1):=zb1 hlt;have he:l[k]? =some l[k]:=za1 hlt;obtain⟨h1,h2⟩:=hgo k b _ he hI;rw[hd,List.foldl_cons,AP h1];exact ih (k+1) _ (by omega) h2
 have:=key l.length 0 b (by omega) h0
 rwa[zf5]at this
def V2(step:β->α->ρ⊕β):β->List α->ρ⊕β
 |b,[]=>.inr b
 |b,a::l=>match step b a with|.inl r=>.inl r|.inr b'=>V2 step b' l
theorem A3i{l:List α}(st:Nat->β->σ)(step:β->α->ρ⊕β)(fin:β->ρ)(I:Nat->β->Prop)
  (hgo:∀k b a,l[k]? =some a->I k b->(∃b',step b a=.inr b'/\body (st k b)=some (.inl (st (k+1) b'))/\I (k+1) b')\/∃r,step b a=.inl r/\body (st k b)=some (.inr r))
  (hend:∀b,I l.length b->body (st l.length b)=some (.inr (fin b))) (b:β) (h0:I 0 b):
  Ad body (st 0 b)=some (Sum.elim id fin (V2 step b l))/\∀b',V2 step b l=.inr b'->I l.length b':=by
 have key:∀(n k:Nat)(b:β),k+n=l.length->I k b->Ad body (st k b)=some (Sum.elim id fin (V2 step b (l.drop k)))/\∀b',V2 step b (l.drop k)=.inr b'->I l.length b':=by
  intro n
  induction n with
  |zero=>
   intro k b hk hI;have:k=l.length:=by omega
   subst this;rw[List.drop_length];exact⟨Ak (hend b hI),fun b' h=>by cases h;exact hI⟩
  |succ n ih=>
   intro k b hk hI;have hlt:k<l.length:=by omega
   have hd:l.drop k=l[k]::l.drop (k+1):=zb1 hlt;have he:l[k]? =some l[k]:=za1 hlt;rw[hd];unfold V2;rcases hgo k b _ he hI with⟨b',h1,h2,h3⟩|⟨r,h1,h2⟩
   ·rw[h1,AP h2];exact ih (k+1) _ (by omega) h3
   ·rw[h1];exact⟨Ak h2,fun b' h=>by cases h⟩
 have:=key l.length 0 b (by omega) h0
 rwa[zf5]at this
theorem JY(st:Nat->β->σ)(fin:β->ρ)(I:Nat->β->Prop)
  (hgo:∀n b,I (n+1) b->∃b',body (st (n+1) b)=some (.inl (st n b'))/\I n b')
  (hend:∀b,I 0 b->body (st 0 b)=some (.inr (fin b))):∀n b,I n b->∃b',Ad body (st n b)=some (fin b')/\I 0 b':=by
 intro n
 induction n with
 |zero=>intro b h;exact⟨b,Ak (hend b h),h⟩
 |succ n ih=>
  intro b h;obtain⟨b1,h1,h2⟩:=hgo n b h;obtain⟨b2,h3,h4⟩:=ih b1 h2;exact⟨b2,by rw[AP h1,h3],h4⟩
end
theorem CK{β σ ρ:Type}{body:σ->Option (σ⊕ρ)}(st:Nat->β->σ)(fin:β->ρ)(I:Nat->β->Prop)(e:Nat)
  (hgo:∀k b,k<e->I k b->∃b',body (st k b)=some (.inl (st (k+1) b'))/\I (k+1) b')
  (hend:∀b,I e b->body (st e b)=some (.inr (fin b))):∀k b,k<=e->I k b->∃b',Ad body (st k b)=some (fin b')/\I e b':=by
 have key:∀(n k:Nat)(b:β),k+n=e->I k b->∃b',Ad body (st k b)=some (fin b')/\I e b':=by
  intro n
  induction n with
  |zero=>
   intro k b hk hI;have:k=e:=by omega
   subst this;exact⟨b,Ak (hend b hI),hI⟩
  |succ n ih=>
   intro k b hk hI;obtain⟨b1,h1,h2⟩:=hgo k b (by omega) hI;obtain⟨b2,h3,h4⟩:=ih (k+1) b1 (by omega) h2;exact⟨b2,by rw[AP h1,h3],h4⟩
 intro k b hk hI;exact key (e-k) k b (by omega) hI
theorem Yc{n:Int}(h1:0<=n)(h2:n<18446744073709551616):zi zk n=n:=by rw[IntKind.wrap_u64];omega
theorem A24(n:Int):0<=zi zk n/\zi zk n<18446744073709551616:=by rw[IntKind.wrap_u64];omega
def Ly{α:Type}(l:List α):Prop:=l.length<1099511627776
theorem Dt{α:Type}{l:List α}{k:Nat}{a:α}(h:l[k]? =some a):k<l.length:=(za4.1 h).1
structure Cur (B:Nat) (c:List Int×Int×Int):Prop where
 bytes:∀b∈c.1,0<=b/\b<=255
 short:c.1.length<=1048576
 lo:0<=c.2.1
 hi:c.2.1<=(B:Int)
 seed0:0<=c.2.2
 seed1:c.2.2<18446744073709551616
theorem Cur.start{l:List Int}(h:∀b∈l,0<=b/\b<=255)(hl:l.length<=1048576):Cur 0 (l,0,0):=⟨h,hl,by simp,by simp,by simp,by simp⟩
theorem Cur.mono{B B':Nat}{c:List Int×Int×Int}(h:Cur B c)(hb:B<=B'):Cur B' c:=⟨h.bytes,h.short,h.lo,by have:=h.hi;omega,h.seed0,h.seed1⟩
theorem obs{α β:Type}(a:α)(f:α->Option β):(some a).bind f=f a:=(rfl)
theorem cT{α:Type}(a b:α):(bif true then a else b)=a:=(rfl)
theorem cF{α:Type}(a b:α):(bif false then a else b)=b:=(rfl)
theorem nT:(!true)=false:=(rfl)
theorem nF:(!false)=true:=(rfl)
theorem AI{α β:Type}(p:α×β):(p.1,p.2)=p:=by cases p;rfl
theorem sEl{α β γ:Type}(f:α->γ)(g:β->γ)(x:α):Sum.elim f g (.inl x)=f x:=(rfl)
theorem sEr{α β γ:Type}(f:α->γ)(g:β->γ)(x:β):Sum.elim f g (.inr x)=g x:=(rfl)
end
section
open Go
theorem A73(a:Int):0<=A4Q .u64 a 255/\A4Q .u64 a 255<=255:=by
 unfold A4Q;have h:((BitVec.ofInt (IntKind.bits .u64) a&&& BitVec.ofInt (IntKind.bits .u64) 255).toNat)<=255:=by
  rw[BitVec.toNat_and];exact ze7 Nat.and_le_right (by decide)
 rw[Yc (by omega) (by omega)];omega
theorem A01{B:Nat}{c:List Int×Int×Int}(h:Cur B c)(hB:B<=1125899906842624):∃c' v,FF c=some (c',v)/\Cur (B+1) c'/\0<=v/\v<=255:=by
 obtain⟨l,i,s⟩:=c;obtain⟨h1,h2,h3,h4,h5,h6⟩:=h;simp only at h1 h2 h3 h4 h5 h6;have w1:zi zj (i+1)=i+1:=Ab (by omega) (by omega);have hcur:∀x:Int,Cur (B+1) (l,i+1,zi zk x):=fun x=>⟨h1,h2,by simp only;omega,by simp only;omega,(A24 x).1,(A24 x).2⟩
 unfold FF;by_cases hi:i<(l.length:Int)
 ·obtain⟨a,ha,hm⟩:=WJ h3 hi;have hb:=h1 a (za3 hm);have hd:decide (i<(l.length:Int))=true:=by simpa using hi
  have hd2:decide (i+1<=(l.length:Int))=true:=by simp;omega
  simp only[hd,cond_true,ha,za0,za9,w1,hd2,Ab (show-9223372036854775808<=a by omega) (show a<=9223372036854775807 by omega)];exact⟨_,_,rfl,hcur _,hb.1,hb.2⟩
 ·have hd:decide (i<(l.length:Int))=false:=by simpa using hi
  have hd2:decide (i+1<=(l.length:Int))=false:=by simp;omega
  simp only[hd,cond_false,za0,za9,w1,hd2];refine⟨_,_,rfl,hcur _,?_⟩
  have:=A73 (AR8 .u64 (zi zk (zi zk (zi zk (s*6364136223846793005)+zi zk 0)+1442695040888963407)) 40);rw[Ab (by omega) (by omega)];exact this
theorem Au3{a n:Int}(h0:0<=a)(hn:1<n):0<=a.tmod n/\a.tmod n<n:=by
 rw[zb7 h0];exact⟨Int.emod_nonneg _ (by omega),Int.emod_lt_of_pos _ (by omega)⟩
theorem Be{B:Nat}{c:List Int×Int×Int}(h:Cur B c)(hB:B<=1000000000000000)(n:Int):∃c' v,Ah c n=some (c',v)/\Cur (B+2) c'/\0<=v/\(1<=n->v<n):=by
 unfold Ah;by_cases h1:n<=1
 ·have hd:decide (n<=1)=true:=by simpa using h1
  simp only[hd,cond_true];exact⟨_,_,rfl,h.mono (by omega),by omega,by omega⟩
 ·have hd:decide (n<=1)=false:=by simpa using h1
  have hz:(n==0)=false:=by simp;omega
  obtain⟨c1,v1,e1,q1,b1,b2⟩:=A01 h (by omega);simp only[hd,cond_false,e1,za0,hz];by_cases h2:n>200
  ·obtain⟨c2,v2,e2,q2,b3,b4⟩:=A01 q1 (by omega);have hd2:decide (n>200)=true:=by simpa using h2
   simp only[hd2,cond_true,e2,za0];refine⟨_,_,rfl,q2.mono (by omega),?_⟩
   rw[Ab (by rw[Ab (by omega) (by omega)];omega) (by rw[Ab (by omega) (by omega)];omega),Ab (by omega) (by omega)];have:=Au3 (a:=v1*256+v2) (n:=n) (by omega) (by omega);exact⟨this.1,fun _=>this.2⟩
  ·have hd2:decide (n>200)=false:=by simpa using h2
   simp only[hd2,cond_false];have:=Au3 (a:=v1) (n:=n) (by omega) (by omega);exact⟨_,_,rfl,q1.mono (by omega),this.1,fun _=>this.2⟩
theorem MY{B:Nat}{c:List Int×Int×Int}(h:Cur B c)(hB:B<=1000000000000000)(n:Int):∃c' v,AR c n=some (c',v)/\Cur (B+2) c':=by
 unfold AR;obtain⟨c1,v1,e1,q1,_⟩:=Be h hB n;simp only[e1,za0];exact⟨_,_,rfl,q1⟩
theorem ZB{B:Nat}{c:List Int×Int×Int}(h:Cur B c)(hB:B<=1000000000000000)(l:List Int)(h1:1<=l.length)(h2:l.length<1000000):∃c' v,DA c l=some (c',v)/\Cur (B+2) c'/\v∈l:=by
 unfold DA;obtain⟨c1,v1,e1,q1,b1,b2⟩:=Be h hB (l.length:Int);have:=b2 (by omega);obtain⟨a,ha,hm⟩:=WJ b1 this;simp only[e1,za0,ha];exact⟨_,_,rfl,q1,za3 hm⟩
end
section
open Go
structure GP (p:Int×Int):Prop where
 a: -1000<=p.1
 b:p.1<=1001
 c: -2<=p.2
 d:p.2<=8
theorem A7R{B:Nat}{c:List Int×Int×Int}(h:Cur B c)(hB:B<=100000000000000):∃c' v,Hg c=some (c',v)/\Cur (B+8) c'/\GP v:=by
 unfold Hg;obtain⟨c1,v1,e1,q1⟩:=MY h (by omega) 40;simp only[e1,za0];cases v1
 ·obtain⟨c2,v2,e2,q2,a2,b2⟩:=Be q1 (by omega) 9;obtain⟨c3,v3,e3,q3,a3,b3⟩:=Be q2 (by omega) 9;simp only[cond_false,e2,e3,za0];have b2:=b2 (by omega);have b3:=b3 (by omega);refine⟨_,_,rfl,q3.mono (by omega),?_⟩
  rw[Ab (by omega) (by omega),Ab (by omega) (by omega)];constructor<;>simp only<;>omega
 ·obtain⟨c2,v2,e2,q2,m2⟩:=ZB q1 (by omega) [-(1000:Int),1000,1001] (by simp) (by simp);obtain⟨c3,v3,e3,q3,a3,b3⟩:=Be q2 (by omega) 5;simp only[cond_true,e2,e3,za0];have b3:=b3 (by omega);refine⟨_,_,rfl,q3.mono (by omega),?_⟩
  simp at m2;constructor<;>simp only<;>omega
structure GW (l:List (Int×Int)):Prop where
 pts:∀p∈l,GP p
 lo:3<=l.length
 hi:l.length<=13
theorem A0V{l:List (Int×Int)}{p:Int×Int}(h:∀q∈l,GP q)(hp:GP p):∀q∈l++[p],GP q:=by
 intro q hq;rcases zb2.1 hq with h1|h1
 ·exact h q h1
 ·cases zd1.1 h1;exact hp
theorem A8T{B:Nat}{c:List Int×Int×Int}(h:Cur B c)(hB:B<=10000000000000):∃c' l,IG c=some (c',l)/\Cur (B+500) c'/\GW l:=by
 unfold IG;obtain⟨c0,v0,e0,q0,a0,b0⟩:=Be h (by omega) 4;simp only[e0,za0];by_cases h0:v0=0
 ·have:(v0==0)=true:=by simp[h0]
  obtain⟨c1,v1,e1,q1,a1,b1⟩:=Be q0 (by omega) 6;obtain⟨c2,v2,e2,q2,a2,b2⟩:=Be q1 (by omega) 2;obtain⟨c3,v3,e3,q3,a3,b3⟩:=Be q2 (by omega) 3;obtain⟨c4,v4,e4,q4,a4,b4⟩:=Be q3 (by omega) 5;obtain⟨c5,v5,e5,q5,a5,b5⟩:=Be q4 (by omega) 2;obtain⟨c6,v6,e6,q6,a6,b6⟩:=Be q5 (by omega) 5;have b1:=b1 (by omega);have b2:=b2 (by omega);have b3:=b3 (by omega);have b4:=b4 (by omega);have b5:=b5 (by omega);have b6:=b6 (by omega);simp only[this,cond_true,e1,e2,e3,e4,e5,e6,za0];rw[Ab (by omega) (by omega),Ab (by omega) (by omega),Ab (by omega) (by omega),Ab (by omega) (by omega)]
  refine⟨_,_,rfl,q6.mono (by omega),?_,by simp,by simp⟩
  intro p hp;simp only[zc6,zf3,or_false]at hp;rcases hp with rfl|rfl|rfl|rfl<;>constructor<;>simp only<;>omega
 ·have t0:(v0==0)=false:=by simp[h0]
  by_cases h1:v0=1
  ·have t1:(v0==1)=true:=by simp[h1]
   obtain⟨c1,v1,e1,q1,a1,b1⟩:=Be q0 (by omega) 4;obtain⟨c2,v2,e2,q2,a2,b2⟩:=Be q1 (by omega) 4;have b1:=b1 (by omega);have b2:=b2 (by omega);simp only[t0,t1,cond_true,cond_false,e1,e2,za0];rw[Ab (by omega) (by omega),Ab (by omega) (by omega)];refine⟨_,_,rfl,q2.mono (by omega),?_,by simp,by simp⟩
   intro p hp;simp only[zc6,zf3,or_false]at hp;rcases hp with rfl|rfl|rfl|rfl|rfl|rfl|rfl|rfl<;>constructor<;>simp only<;>omega
  ·have t1:(v0==1)=false:=by simp[h1]
   obtain⟨c1,v1,e1,q1,a1,b1⟩:=Be q0 (by omega) 4;have b1:=b1 (by omega);obtain⟨n,hn,hn1⟩:∃n:Nat,(3+v1:Int)=(n:Int)/\3<=n/\n<=6:=⟨(3+v1).toNat,by omega,by omega⟩;simp only[t0,t1,cond_true,cond_false,e1,za0];rw[Ab (by omega) (by omega),hn];obtain⟨⟨c2,l2⟩,e2,q2,g2,n2⟩:=JY (body:=fun(s:(((List Int)×(Int×Int))×((List (Int×Int))×Int)))=>Gq s.1 s.2.1 s.2.2)
    (st:=fun k (b:(List Int×Int×Int)×List (Int×Int))=>(b.1,b.2,(k:Int))) (fin:=fun b=>b) (I:=fun k b=>Cur (B+100-8*k) b.1/\(∀p∈b.2,GP p)/\b.2.length+k=n)
    (by
     rintro k ⟨c,l⟩ ⟨i1,i2,i3⟩;obtain⟨c',v,e,q,g⟩:=A7R i1 (by omega);unfold Gq;have:decide (((k+1:Nat):Int)>0)=true:=zp (by omega);simp only at i3;simp only[this,cond_true,e,za0,D2 (l:=l) (m:=[(v.1,v.2)]) (b:=16) (s:=2) (by simp[Ae];omega) (by simp[Ae];omega)];rw[Ab (by omega) (by omega),show((k+1:Nat):Int)-1=(k:Int) by omega];exact⟨(c',l++[(v.1,v.2)]),rfl,q.mono (by omega),A0V i2 g,by simp;omega⟩)
    (by
     rintro⟨c,l⟩ ⟨i1,i2,i3⟩;unfold Gq;rfl) n (c1,[]) ⟨q1.mono (by omega),by simp,by simp⟩
   obtain⟨c3,v3,e3,q3⟩:=MY q2 (by omega) 20;simp only at e2 n2 g2;simp only[e2,za0,e3];cases v3
   ·exact⟨_,_,rfl,q3.mono (by omega),g2,by omega,by omega⟩
   ·obtain⟨r,e4,q4,g4,n4,n5⟩:=Gi (f:=fun(s:(((List Int)×(Int×Int))×(List (Int×Int))))=>Je s.1 s.2) (I:=fun s=>Cur (B+102+10*s.2.length) s.1/\(∀p∈s.2,GP p)/\3<=s.2.length/\s.2.length<=13)
     (R:=fun s=>Cur (B+400) s.1/\(∀p∈s.2,GP p)/\3<=s.2.length/\s.2.length<=13) (fun s=>20-s.2.length)
     (by
      rintro⟨c,l⟩ ⟨i1,i2,i3,i4⟩;unfold Je;simp only at i1 i2 i3 i4;obtain⟨c',v,e,q,a,b⟩:=Be i1 (by omega) 2;have b:=b (by omega);simp only[e,za0];rw[Ab (by omega) (by omega)];by_cases hlt:(l.length:Int)<12+v
      ·have:decide ((l.length:Int)<12+v)=true:=by simpa using hlt
       obtain⟨c2,v2,e2,q2,g2⟩:=A7R q (by omega);simp only[this,cond_true,e2,za0,D2 (l:=l) (m:=[(v2.1,v2.2)]) (b:=16) (s:=2) (by simp[Ae];omega) (by simp[Ae];omega)];refine .inl ⟨_,rfl,⟨q2.mono (by simp;omega),A0V i2 g2,by simp;omega,by simp;omega⟩,by simp;omega⟩
      ·have:decide ((l.length:Int)<12+v)=false:=by simpa using hlt
       simp only[this,cond_false];exact .inr ⟨_,rfl,q.mono (by omega),i2,i3,i4⟩) (c3,l2) ⟨q3.mono (by omega),g2,by simp only;omega,by simp only;omega⟩
    simp only[cond_true,e4,za0];exact⟨_,_,rfl,q4.mono (by omega),g4,n4,n5⟩
end
section
open Go
section
variable {α β:Type}
def rot(l:List α):List α:=l.tail++l.head?.toList
theorem A6z(l:List α):(rot l).length=l.length:=by cases l<;>simp[rot]
theorem A7e(l:List α){k:Nat}(h:k<l.length):(rot l)[k]? =l[(k+1)%l.length]? :=by
 cases l with
 |nil=>simp at h
 |cons a t=>
  simp only[rot,List.tail_cons,List.head?_cons,Option.toList_some,zb8]at*
  by_cases hk:k<t.length
  ·rw[zd9 hk,Nat.mod_eq_of_lt (by omega),List.getElem?_cons_succ]
  ·have:k=t.length:=by omega
   subst this;rw[List.getElem?_append_right (by omega),Nat.sub_self,Nat.mod_self];rfl
theorem A6n{l:List α}{a:α}:a∈rot l↔a∈l:=by
 cases l with
 |nil=>simp[rot]
 |cons b t=>simp[rot];exact or_comm
def Me(l:List α):List (α×α):=l.zip (rot l)
theorem Zj(l:List α):(Me l).length=l.length:=by simp[Me,A6z]
theorem A3V{l:List α}{k:Nat}{p:α×α}(h:(Me l)[k]? =some p):k<l.length/\l[k]? =some p.1/\l[(k+1)%l.length]? =some p.2:=by
 have hk:=(za4.1 h).1;rw[Zj]at hk;unfold Me at h;rw[List.getElem?_zip_eq_some]at h;rw[A7e l hk]at h;exact⟨hk,h⟩
theorem Yk{l:List α}{p:α×α}(h:p∈Me l):p.1∈l/\p.2∈l:=by
 unfold Me at h;have:=List.of_mem_zip (show(p.1,p.2)∈_ from h);exact⟨this.1,A6n.1 this.2⟩
def tot(f:α->Int):List α->Int
 |[]=>0
 |a::l=>f a+tot f l
theorem AN3(f:α->Int)(l m:List α):tot f (l++m)=tot f l+tot f m:=by
 induction l with
 |nil=>simp[tot]
 |cons a l ih=>simp only[zd8,tot,ih];omega
theorem An0{f:α->Int}{B:Int}:∀{l:List α},(∀a∈l,-B<=f a/\f a<=B)-> -(B*l.length)<=tot f l/\tot f l<=B*l.length
 |[],_=>by simp[tot]
 |a::l,h=>by
  have h1:=h a (List.mem_cons_self ..);have h2:=An0 (l:=l) (fun b hb=>h b (ze6 _ hb));have:B*((a::l).length:Int)=B*l.length+B:=by rw[zb8,Int.natCast_add,ze3];simp
  simp only[tot];omega
theorem Aa8(f:α->Int){l:List α}{k:Nat}{a:α}(h:l[k]? =some a):tot f (l.take (k+1))=tot f (l.take k)+f a:=by
 rw[List.take_add_one,h,AN3];simp[tot]
theorem Yh{f:α->Int}{B:Int}(hB:0<=B){l:List α}(h:∀a∈l,-B<=f a/\f a<=B)(k:Nat): -(B*l.length)<=tot f (l.take k)/\tot f (l.take k)<=B*l.length:=by
 have h1:=An0 (l:=l.take k) (fun a ha=>h a (List.mem_of_mem_take ha));have h2:((l.take k).length:Int)<=l.length:=by simp;omega
 have h3:=zb0 h2 hB;omega
end
section
variable {α:Type}
def Aw2(f:α->α->Int):List α->Int
 |[]=>0
 |[_]=>0
 |a::b::l=>f a b+Aw2 f (b::l)
theorem A1V(f:α->α->Int)(a:α)(t:List α):tot (fun p:α×α=>f p.1 p.2) (Me (a::t))=Aw2 f (a::t++[a]):=by
 have key:∀(t:List α)(a b:α),tot (fun p:α×α=>f p.1 p.2) ((a::t).zip (t++[b]))=Aw2 f (a::t++[b]):=by
  intro t
  induction t with
  |nil=>intro a b;simp[tot,Aw2]
  |cons c t ih=>
   intro a b;simp only[zd8,List.zip_cons_cons,tot,Aw2];rw[<-zd8,ih c b]
 have h:=key t a a;simpa[Me,rot]using h
end
def Mp(l:List (Int×Int)):Int:=tot (fun p:(Int×Int)×(Int×Int)=>p.1.1*p.2.2-p.2.1*p.1.2) (Me l)
end
section
open Go
abbrev P2:=Int×Int
def CN(a b c:Int):Bool:=decide (b<=a)&&decide (a<=c)
theorem LV(a b c:Int):AV a b c=some (CN a b c):=by
 unfold AV CN;by_cases h:a>=b<;>simp[h]
theorem Ro(a b c:Int):Dy a b c=some (CN a b c):=by
 unfold Dy CN;by_cases h:a>=b<;>simp[h]
theorem Iv{a b c:Int}:CN a b c=true↔b<=a/\a<=c:=by simp[CN]
def Dl(p:P2):Bool:=CN p.1 (-1000) 1000&&CN p.2 (-1000) 1000
theorem AE2(p:P2):Gu p=some (Dl p):=by
 unfold Gu Dl;simp only[Ro,za0];cases CN p.1 (-1000) 1000<;>rfl
theorem RG{p:P2}:Dl p=true↔ -1000<=p.1/\p.1<=1000/\ -1000<=p.2/\p.2<=1000:=by
 simp only[Dl,za2,Iv];omega
theorem Ye{k:Nat}{α:Type}{l:List α}{a:α}(h:l[k]? =some a):decide ((k:Int)<(l.length:Int))=true:=by have:=Dt h;simpa using this
theorem AO4{α:Type}(l:List α):decide ((l.length:Int)<(l.length:Int))=false:=by simp
theorem A6i{l:List P2}(hl:Ly l):PU l=some (l.all Dl):=by
 unfold PU;unfold Ly at hl;have key:=EM (body:=fun s:List (Int×Int)×Int×Int=>IM s.1 s.2.1 s.2.2) (l:=l) (st:=fun k=>(l,(l.length:Int),(k:Int))) (p:=Dl) (fin:=.inl ()) (bad:=fun k=>.inr false)
  (fun k a hk hp=>by
   have:=Dt hk;unfold IM;simp only[Ye hk,cond_true,Af,hk,za0,AE2,hp,Bool.not_true,cond_false,AA (show k<4611686018427387904 by omega)])
  (fun k a hk hp=>by
   unfold IM;simp only[Ye hk,cond_true,Af,hk,za0,AE2,hp,Bool.not_false])
  (by unfold IM;simp only[AO4,cond_false])
 cases hall:l.all Dl with
 |true=>
  have h:=key.1 hall;rw[show((0:Nat):Int)=0 from rfl]at h;simp only[h,za0,Sum.elim_inl]
 |false=>
  obtain⟨k,_,h⟩:=key.2 hall;rw[show((0:Nat):Int)=0 from rfl]at h;simp only[h,za0,za9]
theorem Aj0{x y B C:Int}(hx: -B<=x/\x<=B)(hy: -C<=y/\y<=C): -(B*C)<=x*y/\x*y<=B*C:=by
 have hB:0<=B:=by omega
 have hC:0<=C:=by omega
 constructor
 ·by_cases h:0<=x
  ·have h1:=zb0 (show-C<=y by omega) h;have h2:=za7 (show x<=B by omega) hC;have:x* -C= -(x*C):=Int.mul_neg ..
   omega
  ·have h1:=zb0 (show y<=C by omega) (show 0<= -x by omega);have h2:=za7 (show-x<=B by omega) hC;have: -x*y= -(x*y):=Int.neg_mul ..
   omega
 ·by_cases h:0<=x
  ·have h1:=zb0 (show y<=C by omega) h;have h2:=za7 (show x<=B by omega) hC;omega
  ·have h1:=zb0 (show-C<=y by omega) (show 0<= -x by omega);have h2:=za7 (show-x<=B by omega) hC;have e1: -x* -C=x*C:=Int.neg_mul_neg ..
   have e2: -x*y= -(x*y):=Int.neg_mul ..
   have e3: -x*C= -(x*C):=Int.neg_mul ..
   omega
section
variable {a b c d p:P2} (ha:Dl a=true) (hb:Dl b=true) (hc:Dl c=true) (hd:Dl d=true) (hp:Dl p=true)
include ha hb hc
end
end
section
open Go
def FD(l:List P2):Bool:=(decide (3<=l.length)&&decide (l.length<=12))&&l.all Dl
theorem F0{l:List P2}:FD l=true↔(3<=l.length/\l.length<=12)/\∀p∈l,Dl p=true:=by
 simp[FD,za5,and_assoc]
theorem AR1(l:List P2):CN (l.length:Int) 3 12=(decide (3<=l.length)&&decide (l.length<=12)):=by
 unfold CN
 congr 1<;>rw[decide_eq_decide]<;>omega
theorem Au8{l:List P2}(h:Ly l):Mo l=some (FD l):=by
 unfold Mo FD;simp only[Ro,za0,A6i h,AR1];cases(decide (3<=l.length)&&decide (l.length<=12))<;>rfl
theorem XB{p q:P2}(hp:Dl p=true)(hq:Dl q=true):(-1000000<=p.1*q.2/\p.1*q.2<=1000000)/\(-1000000<=q.1*p.2/\q.1*p.2<=1000000):=by
 rw[RG]at hp hq;have h1:=Aj0 (x:=p.1) (y:=q.2) (B:=1000) (C:=1000) (by omega) (by omega);have h2:=Aj0 (x:=q.1) (y:=p.2) (B:=1000) (C:=1000) (by omega) (by omega);omega
theorem TW{l:List P2}(hg:∀p∈l,Dl p=true)(hl:l.length<=1000)(k:Nat): -2000000000<=tot (fun p:P2×P2=>p.1.1*p.2.2-p.2.1*p.1.2) ((Me l).take k)/\tot (fun p:P2×P2=>p.1.1*p.2.2-p.2.1*p.1.2) ((Me l).take k)<=2000000000:=by
 have:=Yh (f:=fun p:P2×P2=>p.1.1*p.2.2-p.2.1*p.1.2) (B:=2000000) (by omega) (l:=Me l) (fun a ha=>by
  have:=Yk ha;have:=XB (hg _ this.1) (hg _ this.2);omega) k
 rw[Zj]at this;omega
end
section
open Go
variable {α β γ:Type}
theorem BE{s t:Str}(h:s.length+t.length<=9223372036854775807):F7 s t=some (s++t):=by unfold F7;rw[zr h]
end
section
open Go
def Gg(b:UInt8):Bool:=decide (48<=b.toNat)&&decide (b.toNat<=57)
theorem GF{b:UInt8}:Gg b=true↔48<=b.toNat/\b.toNat<=57:=by simp[Gg]
def LE(n:Nat)(l:Str):Nat:=l.foldl (fun a b=>a*10+(b.toNat-48)) n
theorem Ag1(n:Nat)(l:Str)(b:UInt8):LE n (l++[b])=LE n l*10+(b.toNat-48):=by unfold LE;simp
def AA3(l:Str):Prop:=(∀b∈l,Gg b=true)/\l≠[]/\¬(l.head?=some 48/\1<l.length)
theorem A7y{b:UInt8}(h:48<=b.toNat):UInt8.ofNat (48+(b.toNat-48))=b:=by
 rw[show 48+(b.toNat-48)=b.toNat by omega];exact UInt8.ofNat_toNat
theorem AM2{n:Nat}(h:n<10):Gg (UInt8.ofNat (48+n))=true/\(UInt8.ofNat (48+n)).toNat=48+n:=by
 have:(UInt8.ofNat (48+n)).toNat=48+n:=by rw[UInt8.toNat_ofNat'];omega
 exact⟨GF.2 (by omega),this⟩
theorem Aw1{b:UInt8}:b=48↔b.toNat=48:=by
 constructor
 ·rintro rfl;rfl
 ·intro h;have:b.toNat=(48:UInt8).toNat:=h;exact UInt8.toNat_inj.1 this
theorem AD7:∀(l:Str)(n:Nat),1<=n->1<=LE n l
 |[],n,h=>h
 |b::l,n,h=>by
  unfold LE;rw[List.foldl_cons];exact AD7 l _ (by omega)
theorem A2A{b:UInt8}{l:Str}(hb:Gg b=true)(h:b≠48):1<=LE 0 (b::l):=by
 unfold LE;rw[List.foldl_cons];refine AD7 l _ ?_
 have:=GF.1 hb;have h2:b.toNat≠48:=fun h2=>h (Aw1.2 h2)
 omega
theorem Ai1:∀(n:Nat)(l:Str),l.length=n->AA3 l->Lib.decDigits (LE 0 l)=l
 |0,l,hn,h=>absurd (zc0 hn) h.2.1
 |n+1,l,hn,h=>by
  obtain⟨e,b,rfl⟩:∃e b,l=e++[b]:=⟨l.dropLast,l.getLast h.2.1,(List.dropLast_concat_getLast h.2.1).symm⟩;have hb:=GF.1 (h.1 b (by simp));rw[Ag1];cases e with
  |nil=>
   show Lib.decDigits (0*10+(b.toNat-48))=[b];rw[Lib.decDigits_one (by omega),Nat.zero_mul,zf0,A7y hb.1]
  |cons c e=>
   have hc0:c≠48:=by
    rintro rfl;exact h.2.2 ⟨rfl,by simp⟩
   have hcd:Gg c=true:=h.1 c (by simp);have h1:=A2A (l:=e) hcd hc0;rw[Lib.decDigits,dif_neg (by omega),show(LE 0 (c::e)*10+(b.toNat-48))/10=LE 0 (c::e) by omega,show(LE 0 (c::e)*10+(b.toNat-48))%10=b.toNat-48 by omega,A7y hb.1,
    Ai1 n (c::e) (by simpa using hn) ⟨fun x hx=>h.1 x (by simp at hx⊢;rcases hx with rfl|hx<;>simp_all),by simp,fun hh=>hc0 (zv hh.1)⟩]
theorem Mv(u:Nat):AA3 (Lib.decDigits u)/\LE 0 (Lib.decDigits u)=u/\(1<=u->(Lib.decDigits u).head?≠some 48):=by
 induction u using Nat.strongRecOn with
 |ind u ih=>
  by_cases h:u<10
  ·rw[Lib.decDigits_one h];obtain⟨h1,h2⟩:=AM2 h;refine⟨⟨fun b hb=>by cases zd1.1 hb;exact h1,by simp,fun hh=>by simp at hh⟩,?_,fun hu=> ?_⟩
   ·show 0*10+((UInt8.ofNat (48+u)).toNat-48)=u;rw[h2];omega
   ·intro hh;have:=Aw1.1 (zv hh);omega
  ·obtain⟨⟨c1,c2,c3⟩,h2,h3⟩:=ih (u/10) (by omega);obtain⟨g1,g2⟩:=AM2 (n:=u%10) (by omega);have hh:(Lib.decDigits (u/10)++[UInt8.ofNat (48+u%10)]).head?≠some 48:=by
    rw[List.head?_append];cases hz:Lib.decDigits (u/10)with
    |nil=>exact absurd hz c2
    |cons a t=>rw[hz]at h3;exact h3 (by omega)
   rw[Lib.decDigits,dif_neg h];refine⟨⟨fun b hb=> ?_,by simp,fun h=>hh h.1⟩,?_,fun _=>hh⟩
   ·rcases zb2.1 hb with hb|hb
    ·exact c1 b hb
    ·cases zd1.1 hb;exact g1
   ·rw[Ag1,h2,g2];omega
theorem Aw3{u:Nat}{t:Str}:Lib.decDigits u≠45::t:=by
 intro h;have:=(Mv u).1.1 45 (by rw[h];simp);simp[Gg]at this
theorem AI4{u:Nat}:(Lib.decDigits u).length<=4↔u<=9999:=by
 rw[Lib.decDigits_length];have h1:=Lib.lt_pow_nDigits u;constructor
 ·intro h;have:10^Lib.nDigits u<=10^4:=Nat.pow_le_pow_right (by omega) h;omega
 ·intro h;by_cases h0:u<10
  ·rw[Lib.nDigits_small h0];omega
  by_cases h0:u<100
  ·rw[Lib.nDigits_unique 1 u (by omega) (by omega)];omega
  by_cases h0:u<1000
  ·rw[Lib.nDigits_unique 2 u (by omega) (by omega)];omega
  ·rw[Lib.nDigits_unique 3 u (by omega) (by omega)];omega
theorem ZQ:∀(l:Str)(acc:Nat),(∀b∈l,Gg b=true)->acc*10^l.length+10^l.length<=1000000000000000000->Lib.parseUint10 acc l=.ok (LE acc l)
 |[],acc,_,_=>rfl
 |b::l,acc,h,hl=>by
  have hb:=GF.1 (h b (by simp));have hp:1<=10^l.length:=Nat.one_le_pow _ _ (by omega);have e:(b::l).length=l.length+1:=rfl;rw[e,Nat.pow_succ]at hl;have h1:acc*(10^l.length*10)=(acc*10)*10^l.length:=by rw[Nat.mul_comm (10^l.length) 10,Nat.mul_assoc]
  rw[h1]at hl;have h2:acc*10<=(acc*10)*10^l.length:=Nat.le_mul_of_pos_right _ (by omega);have h3:(acc*10+(b.toNat-48))*10^l.length<=(acc*10)*10^l.length+9*10^l.length:=by
   rw[<-zf7];exact ze0 _ (by omega)
  rw[Lib.parseUint10,zr hb,zw (by omega),zw (by omega),ZQ l _ (fun x hx=>h x (ze6 _ hx)) (by omega)];rfl
theorem AY8{b:UInt8}{n:Nat}(hd:Gg b=true)(h:n<48):b.toNat≠n:=by have:=GF.1 hd;omega
theorem A14{v:Int}(h0: -9999<=v)(h1:v<=9999):Lib.atoiAll (Lib.itoa v)=.ok v:=by
 have key:∀u:Nat,u<=9999->Lib.parseMag (Lib.decDigits u)=.ok u:=by
  intro u hu;obtain⟨⟨c1,c2,_⟩,c4,_⟩:=Mv u;have h4:=AI4.2 hu;unfold Lib.parseMag;rw[zw c2,ZQ _ _ c1 (by
   have:10^(Lib.decDigits u).length<=10^4:=Nat.pow_le_pow_right (by omega) h4;omega),c4]
 unfold Lib.itoa;by_cases hv:v<0
 ·rw[zr hv];unfold Lib.atoiAll;simp only;rw[zr (Or.inr (by rfl)),key v.natAbs (by omega)];simp only;rw[zw (fun h=>h.1 rfl),zw (by omega),zr (by rfl)]
  congr 1;omega
 ·rw[zw hv];have hk:=key v.toNat (by omega);obtain⟨⟨c1,c2,_⟩,_⟩:=Mv v.toNat;cases hz:Lib.decDigits v.toNat with
  |nil=>exact absurd hz c2
  |cons b t=>
   rw[hz]at hk c1;have hb:=c1 b (by simp);unfold Lib.atoiAll;simp only;rw[zw (by
    rintro(h|h)
    ·exact AY8 hb (by omega) h
    ·exact AY8 hb (by omega) h),hk]
   simp only;rw[zw (by omega),zw (fun h=>AY8 hb (by omega) h.1),zw (AY8 hb (by omega))]
   congr 1;omega
end
section
open Go
theorem Pz{p:UInt8->Bool}:∀{l:Str},∀b∈l.takeWhile p,p b=true
 |[],b,h=>by simp at h
 |a::l,b,h=>by
  rw[List.takeWhile_cons]at h;by_cases ha:p a=true
  ·rw[zr ha]at h;rcases zc6.1 h with rfl|h
   ·exact ha
   ·exact Pz b h
  ·rw[zw ha]at h;exact absurd h zf3
def H8(s:Str)(n k:Nat):Str:=((s.drop k).take n).takeWhile Gg
theorem Al8(s:Str)(k:Nat):H8 s 0 k=[]:=by simp[H8]
theorem Zu{s:Str}{k:Nat}(n:Nat)(h:s.length<=k):H8 s n k=[]:=by simp[H8,zd7 h]
theorem Ak7{s:Str}{k n:Nat}{b:UInt8}(h:s[k]? =some b):H8 s (n+1) k=if Gg b then b::H8 s n (k+1)else []:=by
 have hlt:=Dt h;unfold H8;rw[zb1 hlt,List.take_succ_cons,List.takeWhile_cons];have:s[k]=b:=by rw[za1 hlt]at h;exact zv h
 rw[this]
theorem AF0(s:Str)(n k:Nat):(H8 s n k).length<=n:=by
 have h1:=(List.takeWhile_sublist Gg (l:=(s.drop k).take n)).length_le;have h2:=List.length_take_le n (s.drop k);unfold H8;omega
theorem AD0(s:Str)(n k:Nat):∀b∈H8 s n k,Gg b=true:=Pz
theorem As2(s:Str):∀(n k i:Nat),i<(H8 s n k).length->s[k+i]? =(H8 s n k)[i]?
 |0,k,i,h=>by rw[Al8]at h;simp at h
 |n+1,k,i,h=>by
  by_cases hk:k<s.length
  ·have e:=Ak7 (n:=n) (za1 hk);rw[e]at h⊢
   by_cases hd:Gg s[k]=true
   ·rw[zr hd]at h⊢
    cases i with
    |zero=>simp[hk]
    |succ i=>
     rw[show k+(i+1)=(k+1)+i by omega,As2 s n (k+1) i (by simpa using h)];simp
   ·rw[zw hd]at h;simp at h
  ·rw[Zu _ (by omega)]at h;simp at h
theorem A6B(l:Str)(h:∀b∈l,Gg b=true):LE 0 l<10^l.length:=by
 have key:∀(l:Str)(n:Nat),(∀b∈l,Gg b=true)->LE n l<(n+1)*10^l.length:=by
  intro l
  induction l with
  |nil=>intro n _;simp[LE]
  |cons b l ih=>
   intro n h;have hb:=GF.1 (h b (by simp));have:=ih (n*10+(b.toNat-48)) (fun x hx=>h x (ze6 _ hx));have e:LE n (b::l)=LE (n*10+(b.toNat-48)) l:=rfl;rw[e,zb8,Nat.pow_succ,Nat.mul_comm (10^l.length) 10,<-Nat.mul_assoc];refine ze1 this (ze0 _ (by omega))
 have:=key l 0 h;simpa using this
theorem A3I{s:Str}(hs:s.length<4611686018427387904){a:Nat}(ha:a<4611686018427387904):∀(m:Nat)(n k:Nat),k+m=a+4->a<=k->n<10^(k-a)->
  Ad (fun(t:(Str×(Int×(Int×Int))))=>DP t.1 t.2.1 t.2.2.1 t.2.2.2) (s,(a:Int),(n:Int),(k:Int))=some (s,(a:Int),((LE n (H8 s m k):Nat):Int),((k+(H8 s m k).length:Nat):Int)):=by
 intro m
 induction m with
 |zero=>
  intro n k hk hak hn;rw[Al8];refine Ak ?_
  unfold DP;simp only;by_cases h1:(k:Int)<(s.length:Int)
  ·rw[zp h1,cT,Ab (by omega) (by omega),zq (by omega),cF];rfl
  ·rw[zq h1,cF];rfl
 |succ m ih=>
  intro n k hk hak hn;by_cases h1:k<s.length
  ·have e:s[k]? =some s[k]:=za1 h1;generalize s[k]=b at e;rw[Ak7 e];have hb:=b.toNat_lt;by_cases hd:Gg b=true
   ·have hd':=GF.1 hd;have hp:10^(k-a)<=10^3:=Nat.pow_le_pow_right (by omega) (by omega);rw[zr hd];have hgo:(fun(t:(Str×(Int×(Int×Int))))=>DP t.1 t.2.1 t.2.2.1 t.2.2.2) (s,(a:Int),(n:Int),(k:Int))=some (.inl (s,(a:Int),((n*10+(b.toNat-48):Nat):Int),((k+1:Nat):Int))):=by
     unfold DP;simp only;rw[zp (by omega),cT,Ab (n:=(a:Int)+4) (by omega) (by omega),zp (by omega),cT,Af,e,obs,zp (by omega),cT,obs,zp (by omega),cT,obs,AA (by omega)];have w1:zi .u8 (((b.toNat:Nat):Int)-48)=((b.toNat-48:Nat):Int):=by rw[IntKind.wrap_u8];omega
     rw[w1,Ab (n:=((b.toNat-48:Nat):Int)) (by omega) (by omega),Ab (n:=10*(n:Int)) (by omega) (by omega),Ab (by omega) (by omega)]
     congr 4
     have:(10:Int)*(n:Int)+((b.toNat-48:Nat):Int)=((n*10+(b.toNat-48):Nat):Int):=by push_cast;omega
     rw[this]
    rw[AP hgo,ih (n*10+(b.toNat-48)) (k+1) (by omega) (by omega) (by
     rw[show k+1-a=(k-a)+1 by omega,Nat.pow_succ];omega)]
    congr 4
    simp only[zb8]
    congr 1
    omega
   ·have hd':¬(48<=b.toNat/\b.toNat<=57):=fun h=>hd (GF.2 h)
    rw[zw hd];refine Ak ?_
    unfold DP;simp only;rw[zp (by omega),cT,Ab (n:=(a:Int)+4) (by omega) (by omega),zp (by omega),cT,Af,e,obs];by_cases c:48<=b.toNat
    ·rw[zp (by omega),cT,obs,zq (by omega),cF];rfl
    ·rw[zq (by omega),cF];rfl
  ·rw[Zu _ (by omega)];refine Ak ?_
   unfold DP;simp only;rw[zq (by omega),cF];rfl
def Z0(d:Str):Prop:=d=[]\/(d.head?=some 48/\1<d.length)
instance (d:Str):Decidable (Z0 d):=by unfold Z0;infer_instance
def Jm(s:Str)(a:Nat):Int×Int:=let d:=H8 s 4 a;if Z0 d then(-1,(a:Int))else((LE 0 d:Nat),((a+d.length:Nat):Int))
theorem YR{s:Str}(hs:s.length<4611686018427387904){a:Nat}(ha:a<4611686018427387904):MJ s (a:Int)=some (Jm s a):=by
 unfold MJ Jm;have h:=A3I hs ha 4 0 a rfl (za8 _) (by simp);have h':Ad (fun(t:(Str×(Int×(Int×Int))))=>DP t.1 t.2.1 t.2.2.1 t.2.2.2) (s,(a:Int),(0:Int),(a:Int))=_:=h;rw[h',obs];have hl:=AF0 s 4 a;have h0:=As2 s 4 a 0;cases hd:H8 s 4 a with
 |nil=>
  have hb0:Z0 ([]:Str):=Or.inl rfl;simp only[hb0,if_true,zf4,Nat.add_zero,beq_self_eq_true,cond_true]
 |cons b t=>
  rw[hd]at hl h0;have hb:s[a]? =some b:=by
   have:=h0 (by simp);rw[Nat.add_zero]at this;rw[this];rfl
  have hlb:=Dt hb;simp only[zb8]at hl⊢
  rw[show(((a+(t.length+1):Nat):Int)==(a:Int))=false by simp;omega,cF,Af,hb,obs];by_cases c:b=48
  ·subst c;rw[show((((48:UInt8).toNat:Nat):Int)==48)=true from rfl,cT,Ab (by omega) (by omega)];by_cases c2:t.length=0
   ·have hn:¬Z0 (48::t):=by
     rintro(h|⟨_,h⟩)
     ·cases h
     ·simp at h;omega
    rw[zq (by omega),cF,zw hn]
   ·rw[zp (by omega),cT,zr (show Z0 (48::t)from Or.inr ⟨rfl,by simp;omega⟩)]
  ·have c':¬b.toNat=48:=fun h=>c (Aw1.2 h)
   have hn:¬Z0 (b::t):=by
    rintro(h|⟨h,_⟩)
    ·cases h
    ·exact c (zv h)
   rw[show((((b.toNat:Nat):Int))==48)=false by simp;omega,cF,zw hn]
end
section
open Go
theorem IF{n:Nat}(h:n<18446744073709551616):(Lib.decDigits n).length<=20:=by rw[Lib.decDigits_length];exact Lib.nDigits_le20 n h
theorem A8H{n:Int}(h0: -9223372036854775808<=n)(h1:n<=9223372036854775807):Hd n=some (Lib.itoa n):=by
 unfold Hd Yd;rw[zr ⟨h0,h1⟩]
theorem Ma{n:Int}(h0: -9223372036854775808<=n)(h1:n<9223372036854775808):(Lib.itoa n).length<=21:=by
 unfold Lib.itoa
 split
 ·have:=IF (n:=n.natAbs) (by omega);simp;omega
 ·have:=IF (n:=n.toNat) (by omega);omega
end
section
open Go
def Ou(s:Str):Int×Bool:=match Lib.atoiAll s with|.ok v=>if-9999<=v/\v<=9999/\Lib.itoa v=s then(v,true)else(0,false)|_=>(0,false)
theorem A3J{v:Int}(h: -9999<=v/\v<=9999):Ou (Lib.itoa v)=(v,true):=by
 unfold Ou;rw[A14 h.1 h.2];simp only;rw[zr ⟨h.1,h.2,trivial⟩]
theorem Lp(s:Str):(∃v:Int,-9999<=v/\v<=9999/\s=Lib.itoa v/\Ou s=(v,true))\/(Ou s=(0,false)/\∀v:Int,-9999<=v->v<=9999->s≠Lib.itoa v):=by
 by_cases h:∃v:Int,-9999<=v/\v<=9999/\s=Lib.itoa v
 ·obtain⟨v,h0,h1,rfl⟩:=h;exact .inl ⟨v,h0,h1,rfl,A3J ⟨h0,h1⟩⟩
 ·refine .inr ⟨?_,fun v h0 h1 h2=>h ⟨v,h0,h1,h2⟩⟩
  unfold Ou
  split
  ·rw[zw];rintro⟨h0,h1,h2⟩;exact h ⟨_,h0,h1,h2.symm⟩
  ·rfl
theorem A6E(n:Int):JL n=some (decide (-9999<=n/\n<=9999)):=by
 unfold JL AV;by_cases h:n>= -9999
 ·rw[zp h,cT,obs];congr 1;simp;omega
 ·rw[zq h,cF,obs];congr 1;simp;omega
theorem Aw8{s:Str}(hs:s.length<=281474976710656):Ho s=some (Ou s):=by
 unfold Ho Kk Xz Ou QS;rw[zr hs,obs];cases hz:Lib.atoiAll s with
 |ok v=>
  simp only[cF,A6E,obs];by_cases h: -9999<=v/\v<=9999
  ·rw[zp h,nT,cF,A8H (by omega) (by omega),obs];by_cases h2:Lib.itoa v=s
   ·rw[zr ⟨h.1,h.2,h2⟩,h2,beq_self_eq_true,nT,cF]
   ·rw[zw (fun hh=>h2 hh.2.2),beq_eq_false_iff_ne.2 h2,nF,cT]
  ·rw[zq h,nF,cT,zw (fun hh=>h ⟨hh.1,hh.2.1⟩)]
 |range=>rfl
 |_=>rfl
theorem AP2{d t:Str}{n:Nat}(h:AA3 d)(hn:d.length<=n)(hb:∀b,t.head?=some b->Gg b=false):H8 (d++t) n 0=d:=by
 unfold H8;rw[zf5];have key:∀(d:Str)(n:Nat),(∀b∈d,Gg b=true)->d.length<=n->((d++t).take n).takeWhile Gg=d:=by
  intro d
  induction d with
  |nil=>
   intro n _ _;cases n with
   |zero=>simp
   |succ n=>
    cases t with
    |nil=>simp
    |cons b t=>simp[hb b rfl]
  |cons b d ih=>
   intro n hd hn;cases n with
   |zero=>simp at hn
   |succ n=>
    rw[zd8,List.take_succ_cons,List.takeWhile_cons,zr (hd b (by simp)),ih n (fun x hx=>hd x (ze6 _ hx)) (by simpa using hn)]
 exact key d n h.1 hn
theorem AU2{d:Str}(h:AA3 d):¬Z0 d:=by
 rintro(h1|h1)
 ·exact h.2.1 h1
 ·exact h.2.2 h1
theorem AS8{s:Str}{n k:Nat}(h:¬Z0 (H8 s n k)):AA3 (H8 s n k):=⟨AD0 s n k,fun h1=>h (.inl h1),fun h1=>h (.inr h1)⟩
theorem T7(u:Nat)(hu:u<=9999):Jm (Lib.decDigits u) 0=((u:Int),((Lib.decDigits u).length:Int)):=by
 obtain⟨h1,h2,_⟩:=Mv u;have hd:=AP2 (t:=[]) h1 (AI4.2 hu) (by simp);rw[ze2]at hd;unfold Jm;simp only[hd,zw (AU2 h1),h2,zf0]
theorem Wj(t:Str):(∃u:Nat,u<=9999/\t=Lib.decDigits u)\/((Jm t 0).1<0\/(Jm t 0).2<(t.length:Int)):=by
 by_cases hb:Z0 (H8 t 4 0)
 ·right;left
  unfold Jm;simp only[zr hb];omega
 ·have hc:=AS8 hb;have hl:=AF0 t 4 0;by_cases hh:(H8 t 4 0).length<t.length
  ·right;right
   unfold Jm;simp only[zw hb,zf0];omega
  ·left
   have he:H8 t 4 0=t:=by
    have h1:(H8 t 4 0).length<=t.length:=by
     have:=(List.takeWhile_sublist Gg (l:=(t.drop 0).take 4)).length_le;have h2:=List.length_take_le' 4 (t.drop 0);unfold H8;simp only[zf5]at this h2⊢
     omega
    refine List.ext_getElem (by omega) fun i h2 h3=> ?_
    have:=As2 t 4 0 i h2;rw[zf0,za1 h3,za1 h2]at this;exact(zv this).symm
   refine⟨LE 0 (H8 t 4 0),?_,?_⟩
   ·have:=A6B _ (AD0 t 4 0);have h2:10^(H8 t 4 0).length<=10^4:=Nat.pow_le_pow_right (by omega) hl;omega
   ·rw[Ai1 _ _ rfl hc,he]
theorem A9W{s:Str}{b:UInt8}:(FT (1:Int) (((b::s).length:Nat):Int) (b::s).length)=some (1,(b::s).length):=by
 unfold FT;rw[zr (by simp only[zb8];omega)];simp
theorem Ao7{s:Str}(hs:s.length<4611686018427387904):Hh s=some (Ou s):=by
 unfold Hh;cases s with
 |nil=>
  rw[show decide ((((([]:Str).length):Nat):Int)>0)=false from rfl,cF,obs];simp only[za9];rw[cF,obs];simp only[za9];rw[show((0:Int))=((0:Nat):Int)from rfl,YR hs (by omega),obs];rcases Lp ([]:Str)with⟨v,h0,h1,h2,_⟩|⟨h,_⟩
  ·exfalso
   unfold Lib.itoa at h2
   split at h2
   ·cases h2
   ·exact(Mv _).1.2.1 h2.symm
  ·rw[h];have:Jm ([]:Str) 0=(-1,0):=by
    unfold Jm;simp only[Zu 4 (show([]:Str).length<=0 by simp)];rfl
   rw[this];rfl
 |cons b t=>
  rw[zp (show(((((b::t)).length:Nat):Int)>0) by simp only[zb8];omega),cT];have hg:AD (b::t) 0=some b:=rfl;rw[hg,obs,obs];simp only[za9];have hlt:t.length<4611686018427387904:=by simp only[zb8]at hs;omega
  by_cases hb:b.toNat=45
  ·have hb':b=45:=UInt8.toNat_inj.1 (show b.toNat=(45:UInt8).toNat from hb);subst hb';rw[show((((45:UInt8).toNat:Nat):Int)==45)=true from rfl,cT,A9W,obs,obs];simp only[za9];rw[List.take_length,show List.drop 1 ((45:UInt8)::t)=t from rfl,show((0:Int))=((0:Nat):Int)from rfl,YR hlt (by omega),obs];rcases Lp ((45:UInt8)::t)with⟨v,h0,h1,h2,h3⟩|⟨h3,h4⟩
   ·rw[h3];have hv:v<0:=by
     rcases Int.lt_or_le v 0 with h|h
     ·exact h
     ·unfold Lib.itoa at h2;rw[zw (by omega)]at h2;exact absurd h2.symm Aw3
    have ht:t=Lib.decDigits v.natAbs:=by
     unfold Lib.itoa at h2;rw[zr hv]at h2;exact(List.cons.inj h2).2
    rw[ht,T7 _ (by omega)];simp only;rw[zq (by omega),cF,zq (by omega),cF,cT,show(((v.natAbs:Nat):Int)==((0:Nat):Int))=false by simp;omega,cF,obs];simp only[za9,cT];rw[Ab (by omega) (by omega)]
    congr 2;omega
   ·rw[h3];rcases Wj t with⟨u,hu,rfl⟩|h
    ·rw[T7 _ hu];simp only;rw[zq (by omega),cF,zq (by omega),cF,cT];by_cases hu0:u=0
     ·subst hu0;rw[show((((0:Nat):Int))==((0:Nat):Int))=true from rfl,cT,obs];rfl
     ·exfalso
      refine h4 (-(u:Int)) (by omega) (by omega) ?_
      unfold Lib.itoa;rw[zr (by omega),Int.natAbs_neg,zf1]
    ·by_cases hn:(Jm t 0).1<0
     ·rw[zp (show(Jm t 0).1<((0:Nat):Int)from hn),cT,obs];rfl
     ·have h:=h.resolve_left hn;rw[zq (show ¬(Jm t 0).1<((0:Nat):Int)from hn),cF,zp h,cT,obs];rfl
  ·rw[show(((b.toNat:Nat):Int)==45)=false by simp;omega,cF,obs];simp only[za9];rw[show((0:Int))=((0:Nat):Int)from rfl,YR hs (by omega),obs];rcases Lp (b::t)with⟨v,h0,h1,h2,h3⟩|⟨h3,h4⟩
   ·rw[h3];have hv:¬v<0:=by
     intro h;unfold Lib.itoa at h2;rw[zr h]at h2;exact hb (by rw[(List.cons.inj h2).1];rfl)
    have ht:b::t=Lib.decDigits v.toNat:=by
     unfold Lib.itoa at h2;rw[zw hv]at h2;exact h2
    rw[ht,T7 _ (by omega)];simp only;rw[zq (by omega),cF,zq (by omega),cF,cF,obs];simp only[za9,cF]
    congr 2;omega
   ·rw[h3];rcases Wj (b::t)with⟨u,hu,he⟩|h
    ·exfalso
     refine h4 (u:Int) (by omega) (by omega) ?_
     unfold Lib.itoa;rw[zw (by omega),zc8,he]
    ·by_cases hn:(Jm (b::t) 0).1<0
     ·rw[zp (show(Jm (b::t) 0).1<((0:Nat):Int)from hn),cT,obs];rfl
     ·have h:=h.resolve_left hn;rw[zq (show ¬(Jm (b::t) 0).1<((0:Nat):Int)from hn),cF,zp h,cT,obs];rfl
end
section
open Go
theorem QX(b c:UInt8)(l:Str):Lib.index (b::l) [c]=if b=c then 0 else if Lib.index l [c]= -1 then-1 else Lib.index l [c]+1:=by
 rw[Lib.index];have:([c]:Str).isPrefixOf (b::l)=(c==b):=by simp[List.isPrefixOf]
 rw[this];by_cases h:b=c
 ·subst h;simp
 ·rw[zw (show ¬(c==b)=true by simpa using Ne.symm h),zw h];by_cases h2:Lib.index l [c]= -1
  ·simp[h2]
  ·rw[zw (by simpa using h2),zw h2]
theorem Yf{c:UInt8}:∀{s:Str},c ∉ s->Lib.index s [c]= -1
 |[],_=>by rw[Lib.index];rfl
 |b::l,h=>by
  rw[QX,zw (fun e=>h (by rw[e];simp)),zr (Yf (fun hm=>h (ze6 _ hm)))]
theorem RU{c:UInt8}:∀{x r:Str},c ∉ x->Lib.index (x++c::r) [c]=(x.length:Nat)
 |[],r,_=>by rw[List.nil_append,QX,zr rfl];rfl
 |b::x,r,h=>by
  have ih:=RU (r:=r) (fun hm:c∈x=>h (ze6 _ hm));rw[zd8,QX,zw (fun e=>h (by rw[e];simp)),ih,zw (by omega),zb8];omega
theorem AP6(c:UInt8)(s:Str):c ∉ s\/∃x r,s=x++c::r/\c ∉ x:=by
 by_cases h:c∈s
 ·right
  induction s with
  |nil=>exact absurd h zf3
  |cons b l ih=>
   by_cases hb:b=c
   ·subst hb;exact⟨[],l,rfl,zf3⟩
   ·have hm:c∈l:=by
     rcases zc6.1 h with rfl|h
     ·exact absurd rfl hb
     ·exact h
    obtain⟨x,r,h1,h2⟩:=ih hm;refine⟨b::x,r,by rw[h1,zd8],fun h3=> ?_⟩
    rcases zc6.1 h3 with rfl|h3
    ·exact hb rfl
    ·exact h2 h3
 ·exact .inl h
def Aj(c:UInt8)(s:Str):List Str:=Lib.split s [c]
theorem Ib{c:UInt8}{s:Str}(h:c ∉ s):Aj c s=[s]:=by
 unfold Aj Lib.split;rw[Lib.count_miss (Yf h)];rfl
theorem Nf{c:UInt8}{x r:Str}(h:c ∉ x):Aj c (x++c::r)=x::Aj c r:=by
 unfold Aj Lib.split;have e:List.drop (x.length+([c]:Str).length) (x++c::r)=r:=by simp
 rw[Lib.count_hit (by simp) (RU h),e,Nat.add_comm,Lib.splitK,RU h,zw (by simp),zc8,Nat.add_zero,e];simp
theorem A4J(c:UInt8)(s:Str):Aj c s≠[]:=by
 rcases AP6 c s with h|⟨x,r,rfl,h⟩
 ·rw[Ib h];simp
 ·rw[Nf h];simp
theorem Ua{c:UInt8}:∀(n:Nat)(s:Str),s.length<=n->∀p∈Aj c s,p.length<=s.length:=by
 intro n
 induction n with
 |zero=>
  intro s hs p hp;have:s=[]:=zc0 (by omega);subst this;rw[Ib (by simp)]at hp;cases zd1.1 hp
  exact za8 _
 |succ n ih=>
  intro s hs p hp;rcases AP6 c s with h|⟨x,r,rfl,h⟩
  ·rw[Ib h]at hp;cases zd1.1 hp
   exact za8 _
  ·rw[Nf h]at hp;rw[zc3,zb8]at hs⊢
   rcases zc6.1 hp with rfl|hp
   ·omega
   ·have:=ih r (by omega) p hp;omega
theorem A1E(s:Str)(c:UInt8):GC s [c]=Aj c s:=by
 unfold GC Aj Lib.split;exact Lib.splitB_data ⟨#[c]⟩ 0 _ ⟨s.toArray⟩
theorem A5s{s:Str}{c:UInt8}(h:s.length<4294967281):Qp s [c]=some (Aj c s):=by
 unfold Qp;rw[zr ⟨h,by simp⟩,A1E]
end
section
open Go
abbrev Pn:=Int×Int
abbrev Wy:=List Pn
theorem AO1{s:Str}(hs:s.length<=1000):JF s=some (Aj 32 s):=by
 unfold JF;obtain⟨b,h1,h2,h3,h4,h5⟩:=CK (body:=fun(t:(List Str×(Str×(Int×Int))))=>FJ t.1 t.2.1 t.2.2.1 t.2.2.2)
  (fun k (b:List Str×Nat)=>(b.1,s,(b.2:Int),(k:Int))) (fun b=>(b.1,s,(b.2:Int))) (fun k b=>b.2<=k/\b.1.length<=k/\Aj 32 s=b.1++Aj 32 (s.drop b.2)/\(32:UInt8) ∉ (s.drop b.2).take (k-b.2)) s.length (by
   rintro k ⟨out,f⟩ hk ⟨h1,h2,h3,h4⟩;simp only at h1 h2 h3 h4;have he:s[k]? =some s[k]:=za1 hk;generalize s[k]=c at he;unfold FJ;simp only;rw[zp (show(k:Int)<(s.length:Int) by omega),cT,Af,he,obs];by_cases hc:c=32
   ·subst hc;refine⟨(out++[(s.drop f).take (k-f)],k+1),?_,za8 _,by simp;omega,?_,by simp⟩
    ·have hsub:FT (f:Int) (k:Int) s.length=some (f,k):=by unfold FT;rw[zr (by omega)];rfl
     rw[show((((32:UInt8).toNat:Nat):Int)==32)=true from rfl,cT,hsub,obs,D2 (by simp[Ae];omega) (by simp[Ae];omega),obs,AA (by omega),List.drop_take]
    ·have hd:s.drop f=(s.drop f).take (k-f)++32::s.drop (k+1):=by
      have e1:(s.drop f).drop (k-f)=s.drop k:=by rw[List.drop_drop];congr 1;omega
      have e2:s.drop k=32::s.drop (k+1):=by
       rw[zb1 hk];rw[za1 hk]at he;rw[zv he]
      rw[<-e2,<-e1,List.take_append_drop]
     rw[h3]
     conv=>lhs;rw[hd]
     rw[Nf h4];simp
   ·have hc':c.toNat≠32:=fun h=>hc (UInt8.toNat_inj.1 (show c.toNat=(32:UInt8).toNat from h))
    refine⟨(out,f),?_,by simp only;omega,by simp only;omega,h3,?_⟩
    ·rw[show(((c.toNat:Nat):Int)==32)=false by simp;omega,cF,AA (by omega)]
    ·simp only;rw[show k+1-f=(k-f)+1 by omega,List.take_add_one,zd6,show f+(k-f)=k by omega,he];intro hm;rcases zb2.1 hm with hm|hm
     ·exact h4 hm
     ·simp at hm;exact hc hm.symm) (by
   rintro⟨out,f⟩ _;unfold FJ;simp) 0 ([],0) (by omega) ⟨by simp,by simp,by simp,by simp⟩
 have h1':Ad (fun(t:(List Str×(Str×(Int×Int))))=>FJ t.1 t.2.1 t.2.2.1 t.2.2.2) (([]:List Str),s,(0:Int),(0:Int))=_:=h1;obtain⟨out,f⟩:=b;simp only at h2 h3 h4 h5;have hsub:FT (f:Int) (s.length:Int) s.length=some (f,s.length):=by unfold FT;rw[zr (by omega)];rfl
 have hall:(s.drop f).take (s.length-f)=s.drop f:=zc4 (by simp);rw[hall]at h5;rw[h1',obs];simp only;rw[hsub,obs,D2 (by simp[Ae];omega) (by simp[Ae];omega),obs,h4,Ib h5,List.take_length]
def Fx(W:List Str)(i:Nat):Option Int:=match W[i]? with|none=>none|some s=>if(Ou s).2 then some (Ou s).1 else none
abbrev CV:=(Int×Nat)⊕(Nat×List Wy×Wy)
def ptV(g:Int×Int->Bool)(i:Nat)(ways:List Wy)(way:Wy)(p:Pn):CV:=if g p then .inr (i,ways,way++[p])else .inl (6,i-1)
def GN(p:Pn):Bool:=decide (-1000<=p.1/\p.1<=1000)&&decide (-1000<=p.2/\p.2<=1000)
def one(W:List Str)(i:Nat)(ways:List Wy)(way:Wy)(f:Int->Pn):CV:=match Fx W i with|none=>.inl (3,i)|some x=>ptV GN (i+1) ways way (f x)
def two(W:List Str)(i:Nat)(ways:List Wy)(way:Wy)(f:Int->Int->Pn):CV:=match Fx W i with|none=>.inl (3,i)|some x=>one W (i+1) ways way (f x)
section
variable {W:List Str} (hW:W.length<=1000) (hs:∀w∈W,w.length<=1000)
include hW hs
theorem AK3{i:Nat}(hi:i<=W.length)(ways:List Wy)(way:Wy):Aq (W,(i:Int),0) ways way=some (match Fx W i with|none=>((W,(i:Int),3),ways,way,0)|some x=>((W,((i+1:Nat):Int),0),ways,way,x)):=by
 unfold Aq Fx;simp only;rw[show((0:Int) != 0)=false from rfl,cF];by_cases h:i=W.length
 ·subst h;rw[show((W.length:Int)==(W.length:Int))=true by simp,cT,ze8 (za8 _)]
 ·have he:W[i]? =some (W[i]'(by omega)):=za1 (by omega);generalize (W[i]'(by omega))=w at he;have hw:=hs w (za3 he);rw[show((i:Int)==(W.length:Int))=false by simp;omega,cF,Af,he,obs,Ao7 (by omega),obs];simp only;cases hr:(Ou w).2 with
  |false=>rw[nF,cT];rfl
  |true=>rw[nT,cF,AA (by omega)];rfl
omit hs in
theorem AR9 {i:Int} {c:Int} (hc:c≠0) (ways:List Wy) (way:Wy):Aq (W,i,c) ways way=some ((W,i,c),ways,way,0):=by
 unfold Aq;simp only;rw[show(c != 0)=true by simpa[bne]using hc,cT]
theorem A5r{i:Nat}(hi:i<=W.length)(o:Bool)(ways:List Wy)(way:Wy):Gp (W,(i:Int),o) ways way=some (match Fx W i with|none=>((W,(i:Int),o),ways,way,0,false)|some x=>((W,((i+1:Nat):Int),o),ways,way,x,true)):=by
 unfold Gp Fx;simp only;by_cases h:i=W.length
 ·subst h;rw[show((W.length:Int)==(W.length:Int))=true by simp,cT,ze8 (za8 _)]
 ·have he:W[i]? =some (W[i]'(by omega)):=za1 (by omega);generalize (W[i]'(by omega))=w at he;have hw:=hs w (za3 he);rw[show((i:Int)==(W.length:Int))=false by simp;omega,cF,Af,he,obs,Aw8 (by omega),obs];simp only;rcases Lp w with⟨v,_,_,_,hr⟩|⟨hr,_⟩
  ·rw[hr];simp only;rw[cT,AA (by omega)];rfl
  ·rw[hr];rfl
end
theorem A6g(p:Pn):Gu p=some (GN p):=by
 unfold Gu Dy GN;by_cases h1:p.1>= -1000<;>by_cases h2:p.1<=1000<;>by_cases h3:p.2>= -1000<;>by_cases h4:p.2<=1000<;>simp[h1,h2,h3,h4]<;>omega
theorem A5Z(p:Pn):Ku p=some (GN p):=by
 unfold Ku AV GN;by_cases h1:p.1>= -1000<;>by_cases h2:p.1<=1000<;>by_cases h3:p.2>= -1000<;>by_cases h4:p.2<=1000<;>simp[h1,h2,h3,h4]<;>omega
theorem A6L(W:List Str){i:Nat}(hi:1<=i/\i<=2000)(ways:List Wy){way:Wy}(hw:way.length<=1000)(p:Pn):
  AE (W,(i:Int),0) ways way p=some (if GN p then((W,(i:Int),0),ways,way++[p])else((W,((i-1:Nat):Int),6),ways,way)):=by
 unfold AE;simp only;rw[show((0:Int) != 0)=false from rfl,cF,A6g,obs];cases h:GN (p.1,p.2)with
 |false=>
  rw[nF,cT,Ab (by omega) (by omega),show(i:Int)-1=((i-1:Nat):Int) by omega];rfl
 |true=>
  rw[nT,cF,D2 (by simp[Ae];omega) (by simp[Ae];omega),obs];rfl
theorem Ai5(W:List Str){i c:Int}(hc:c≠0)(ways:List Wy)(way:Wy)(p:Pn):AE (W,i,c) ways way p=some ((W,i,c),ways,way):=by
 unfold AE;simp only;rw[show(c != 0)=true by simpa[bne]using hc,cT]
def TH(W:List Str)(ways:List Wy)(way:Wy):CV->(List Str×Int×Int)×List Wy×Wy
 |.inl (c,i)=>((W,(i:Int),c),ways,way)
 |.inr (i,ways',way')=>((W,(i:Int),0),ways',way')
abbrev SSt:=(List Str×Int×Int)×List Wy×Wy
def A7P (st:SSt) (f:Int->Pn):Option SSt:=
 (Aq (st.1.1,(st.1.2.1,st.1.2.2)) st.2.1 st.2.2).bind fun x=>(AE (x.1.1,(x.1.2.1,x.1.2.2)) x.2.1 x.2.2.1 (f x.2.2.2)).bind fun y=>some ((y.1.1,(y.1.2.1,y.1.2.2)),(y.2.1,y.2.2))
def A7Q (st:SSt) (f:Int->Int->Pn):Option SSt:=
 (Aq (st.1.1,(st.1.2.1,st.1.2.2)) st.2.1 st.2.2).bind fun x=>(Aq (x.1.1,(x.1.2.1,x.1.2.2)) x.2.1 x.2.2.1).bind fun x'=>(AE (x'.1.1,(x'.1.2.1,x'.1.2.2)) x'.2.1 x'.2.2.1 (f x.2.2.2 x'.2.2.2)).bind fun y=>some ((y.1.1,(y.1.2.1,y.1.2.2)),(y.2.1,y.2.2))
section
variable {W:List Str} (hW:W.length<=1000) (hs:∀w∈W,w.length<=1000)
include hW hs
theorem J9{i:Nat}{x:Int}(h:Fx W i=some x):i<W.length:=by
 unfold Fx at h;cases hz:W[i]? with
 |none=>rw[hz]at h;cases h
 |some w=>exact Dt hz
theorem PB{i:Nat}(hi:i<=W.length)(ways:List Wy){way:Wy}(hw:way.length<=1000)(f:Int->Pn):A7P ((W,(i:Int),0),ways,way) f=some (TH W ways way (one W i ways way f)):=by
 unfold A7P one;simp only;rw[AK3 hW hs hi,obs];cases hz:Fx W i with
 |none=>
  simp only;rw[Ai5 W (by omega),obs];rfl
 |some x=>
  have:=J9 hW hs hz;simp only;rw[A6L W (by omega) ways hw,obs];unfold ptV
  split<;>rfl
theorem Xp{i:Nat}(hi:i<=W.length)(ways:List Wy){way:Wy}(hw:way.length<=1000)(f:Int->Int->Pn):A7Q ((W,(i:Int),0),ways,way) f=some (TH W ways way (two W i ways way f)):=by
 unfold A7Q two;simp only;rw[AK3 hW hs hi,obs];cases hz:Fx W i with
 |none=>
  simp only;rw[AR9 hW (by omega),obs];simp only;rw[Ai5 W (by omega),obs];rfl
 |some x=>
  have:=J9 hW hs hz;simp only;exact PB hW hs (by omega) ways hw (f x)
end
end
section
open Go
def KW:List Str:=[[77],[76],[108],[72],[104],[86],[118],[90]]
def En(way:Wy):Pn:=way.getLast?.getD (0,0)
def Cj(W:List Str)(i:Nat)(ways:List Wy)(way:Wy)(w:Str):CV:=
 if w=[77]then(if way=[]then(if ways.length=4 then .inl (5,i)else two W (i+1) ways way (fun x y=>(x,y)))else .inl (4,i))
 else if w∈KW then
  (if way=[]then .inl (4,i)
  else if w=[90]then(if way.length<3 then .inl (5,i)else .inr (i+1,ways++[way],[]))
  else if way.length=12 then .inl (5,i)
  else if w=[76]then two W (i+1) ways way (fun x y=>(x,y))
  else if w=[108]then two W (i+1) ways way (fun x y=>(zi zj ((En way).1+x),zi zj ((En way).2+y)))
  else if w=[72]then one W (i+1) ways way (fun x=>(x,(En way).2))
  else if w=[104]then one W (i+1) ways way (fun x=>(zi zj ((En way).1+x),(En way).2))
  else if w=[86]then one W (i+1) ways way (fun x=>((En way).1,x))
  else one W (i+1) ways way (fun x=>((En way).1,zi zj ((En way).2+x))))
 else .inl (2,i)
theorem Ri:(([77]:Str)==[77])=true:=rfl
theorem Rs:(([77]:Str)==[76])=false:=rfl
theorem Nw:(([77]:Str)==[108])=false:=rfl
theorem Rg:(([77]:Str)==[72])=false:=rfl
theorem NG:(([77]:Str)==[104])=false:=rfl
theorem Q9:(([77]:Str)==[86])=false:=rfl
theorem Ny:(([77]:Str)==[118])=false:=rfl
theorem Ru:(([77]:Str)==[90])=false:=rfl
theorem Q4:(([76]:Str)==[77])=false:=rfl
theorem QY:(([76]:Str)==[76])=true:=rfl
theorem MS:(([76]:Str)==[108])=false:=rfl
theorem Rx:(([76]:Str)==[72])=false:=rfl
theorem MN:(([76]:Str)==[104])=false:=rfl
theorem Rm:(([76]:Str)==[86])=false:=rfl
theorem NO:(([76]:Str)==[118])=false:=rfl
theorem RA:(([76]:Str)==[90])=false:=rfl
theorem Nk:(([108]:Str)==[77])=false:=rfl
theorem M5:(([108]:Str)==[76])=false:=rfl
theorem Kf:(([108]:Str)==[108])=true:=rfl
theorem MW:(([108]:Str)==[72])=false:=rfl
theorem KD:(([108]:Str)==[104])=false:=rfl
theorem Na:(([108]:Str)==[86])=false:=rfl
theorem KG:(([108]:Str)==[118])=false:=rfl
theorem NJ:(([108]:Str)==[90])=false:=rfl
theorem Rd:(([72]:Str)==[77])=false:=rfl
theorem QW:(([72]:Str)==[76])=false:=rfl
theorem M2:(([72]:Str)==[108])=false:=rfl
theorem RD:(([72]:Str)==[72])=true:=rfl
theorem MI:(([72]:Str)==[104])=false:=rfl
theorem RV:(([72]:Str)==[86])=false:=rfl
theorem Nc:(([72]:Str)==[118])=false:=rfl
theorem Rb:(([72]:Str)==[90])=false:=rfl
theorem NF:(([104]:Str)==[77])=false:=rfl
theorem M1:(([104]:Str)==[76])=false:=rfl
theorem KE:(([104]:Str)==[108])=false:=rfl
theorem NP:(([104]:Str)==[72])=false:=rfl
theorem J8:(([104]:Str)==[104])=true:=rfl
theorem NX:(([104]:Str)==[86])=false:=rfl
theorem KB:(([104]:Str)==[118])=false:=rfl
theorem Nu:(([104]:Str)==[90])=false:=rfl
theorem Q7:(([86]:Str)==[77])=false:=rfl
theorem Q1:(([86]:Str)==[76])=false:=rfl
theorem MQ:(([86]:Str)==[108])=false:=rfl
theorem R0:(([86]:Str)==[72])=false:=rfl
theorem NR:(([86]:Str)==[104])=false:=rfl
theorem Q8:(([86]:Str)==[86])=true:=rfl
theorem NZ:(([86]:Str)==[118])=false:=rfl
theorem Rp:(([86]:Str)==[90])=false:=rfl
theorem Nb:(([118]:Str)==[77])=false:=rfl
theorem Nx:(([118]:Str)==[76])=false:=rfl
theorem J5:(([118]:Str)==[108])=false:=rfl
theorem NN:(([118]:Str)==[72])=false:=rfl
theorem KI:(([118]:Str)==[104])=false:=rfl
theorem MZ:(([118]:Str)==[86])=false:=rfl
theorem KC:(([118]:Str)==[118])=true:=rfl
theorem MP:(([118]:Str)==[90])=false:=rfl
theorem UK:(([90]:Str)==[77])=false:=rfl
theorem Uo:(([90]:Str)==[76])=false:=rfl
theorem P1:(([90]:Str)==[108])=false:=rfl
theorem Uf:(([90]:Str)==[72])=false:=rfl
theorem Qn:(([90]:Str)==[104])=false:=rfl
theorem TS:(([90]:Str)==[86])=false:=rfl
theorem P9:(([90]:Str)==[118])=false:=rfl
theorem US:(([90]:Str)==[90])=true:=rfl
theorem Ed{way:Wy}(h:way≠[]):AY way (way.length-1)=some (En way):=by
 have hp:=zd5.2 h;have e:way[way.length-1]? =some (way[way.length-1]'(by omega)):=za1 (by omega);show way[way.length-1]? =_;unfold En;rw[List.getLast?_eq_getElem?,e];rfl
theorem Ef{way:Wy}(h:way≠[])(hl:way.length<=1000):A2 (zi zj ((way.length:Int)-1)) way.length=some (way.length-1):=by
 have hp:=zd5.2 h;rw[Ab (by omega) (by omega),show(way.length:Int)-1=((way.length-1:Nat):Int) by omega,AW (by omega)]
theorem JJ(W:List Str)(i:Int)(ways:List Wy)(way:Wy)(w:Str)(o:Bool):
  Ad (fun(s:((List Str×(Int×Int))×(List Str×(List Wy×(Wy×(Str×(Bool×(Bool×(Int×Int)))))))))=>Dv s.1 s.2.1 s.2.2.1 s.2.2.2.1 s.2.2.2.2.1 s.2.2.2.2.2.1 s.2.2.2.2.2.2.1 s.2.2.2.2.2.2.2.1 s.2.2.2.2.2.2.2.2)
   ((W,(i,0)),(KW,(ways,(way,(w,(o,(false,(((8:Nat):Int),(0:Int)))))))))=some ((W,(i,0)),(ways,(way,(w,(o,decide (w∈KW)))))):=by
 obtain⟨_,h1,_⟩:=CK (body:=fun(s:((List Str×(Int×Int))×(List Str×(List Wy×(Wy×(Str×(Bool×(Bool×(Int×Int)))))))))=>Dv s.1 s.2.1 s.2.2.1 s.2.2.2.1 s.2.2.2.2.1 s.2.2.2.2.2.1 s.2.2.2.2.2.2.1 s.2.2.2.2.2.2.2.1 s.2.2.2.2.2.2.2.2)
  (fun k (_:Unit)=>((W,(i,0)),(KW,(ways,(way,(w,(o,(decide (w∈KW.take k),(((8:Nat):Int),(k:Int)))))))))) (fun _=>((W,(i,0)),(ways,(way,(w,(o,decide (w∈KW))))))) (fun _ _=>True) 8 (by
   intro k _ hk _;have he:KW[k]? =some (KW[k]'hk):=za1 hk;generalize hx:(KW[k]'hk)=x at he;refine⟨(),?_,trivial⟩
   unfold Dv;simp only;rw[zp (by omega),cT,show A2 (k:Int) KW.length=some k from AW hk,obs,show AY KW k=some x from he,obs,List.take_add_one,he,AA (by omega)];by_cases hm:w∈KW.take k
   ·rw[zp hm,cT,zp (List.mem_append_left _ hm)]
   ·rw[zq hm,cF];by_cases hxw:x=w
    ·subst hxw;rw[beq_self_eq_true,zp (List.mem_append_right _ (by simp))]
    ·rw[beq_eq_false_iff_ne.2 hxw,zq];intro h;rcases zb2.1 h with h|h
     ·exact hm h
     ·simp at h;exact hxw h.symm) (by
   intro _ _;unfold Dv;simp only;rw[zq (by omega),cF];rfl) 0 () (by omega) trivial
 exact h1
section
variable {W:List Str} (hW:W.length<=1000) (hs:∀w∈W,w.length<=1000)
include hW hs
theorem A4s{i:Nat}{w:Str}(he:W[i]? =some w)(hk:w ∉ KW)(ways:List Wy){way:Wy}(hw:way.length<=1000):As (W,(i:Int),0) ways way=some (TH W ways way (Cj W i ways way w)):=by
 unfold As;simp only;rw[Af,he,obs,show([[77],[76],[108],[72],[104],[86],[118],[90]]:List Str)=KW from rfl,JJ W _ ways way _ _,obs];have h77:w≠[77]:=fun h=>hk (by rw[h];decide)
 unfold Cj;rw[zw h77,zw hk,zq hk,nF];simp only[cond_true,za0,za9];rfl
theorem A4o{i:Nat}(he:W[i]? =some [77])(ways:List Wy){way:Wy}(hw:way.length<=1000):As (W,(i:Int),0) ways way=some (TH W ways way (Cj W i ways way [77])):=by
 have hlt:=Dt he;unfold As;simp only;rw[Af,he,obs,show([[77],[76],[108],[72],[104],[86],[118],[90]]:List Str)=KW from rfl,JJ W _ ways way _ _,obs];unfold Cj;rw[zr rfl,zp (show([77]:Str)∈KW by decide)];by_cases h0:way=[]
 ·subst h0;rw[zr rfl];by_cases h4:ways.length=4
  ·have h4':((ways.length:Int)==4)=true:=by simp[h4]
   rw[zr h4];simp only[Ri,Rs,Nw,Rg,NG,Q9,Ny,Ru,h4',nT,cF,cT,zf4,show decide (((0:Nat):Int)>0)=false from rfl,show(false==true)=false from rfl,obs,za9,show((5:Int) != 0)=true from rfl];rfl
  ·have h4':((ways.length:Int)==4)=false:=by simp;omega
   rw[zw h4];simp only[Ri,Rs,Nw,Rg,NG,Q9,Ny,Ru,h4',nT,nF,cF,cT,zf4,show decide (((0:Nat):Int)>0)=false from rfl,show(false==true)=false from rfl,obs,za9,show((0:Int) != 0)=false from rfl,show(((0:Nat):Int)==12)=false from rfl,AA (show i<4611686018427387904 by omega)];exact Xp hW hs (by omega) ways (by simp) (fun x y=>(x,y))
 ·have hp:=zd5.2 h0;rw[zw h0];simp only[Ri,Rs,Nw,Rg,NG,Q9,Ny,Ru,nT,cF,cT,zp (show(way.length:Int)>0 by omega),show(true==true)=true from rfl,obs,za9,show((4:Int) != 0)=true from rfl];rfl
theorem A4V{i:Nat}(he:W[i]? =some [76])(ways:List Wy){way:Wy}(hw:way.length<=1000):As (W,(i:Int),0) ways way=some (TH W ways way (Cj W i ways way [76])):=by
 have hlt:=Dt he;unfold As;simp only;rw[Af,he,obs,show([[77],[76],[108],[72],[104],[86],[118],[90]]:List Str)=KW from rfl,JJ W _ ways way _ _,obs];unfold Cj;rw[zw (by decide),zr (show([76]:Str)∈KW by decide),zp (show([76]:Str)∈KW by decide)];by_cases h0:way=[]
 ·subst h0;rw[zr rfl];simp only[Q4,QY,MS,Rx,MN,Rm,NO,RA,nT,cF,cT,zf4,show decide (((0:Nat):Int)>0)=false from rfl,show(false==false)=true from rfl,obs,za9,show((4:Int) != 0)=true from rfl];rfl
 ·have hp:=zd5.2 h0;rw[zw h0];rw[zw (by decide)];by_cases h12:way.length=12
  ·rw[zr h12];simp only[Q4,QY,MS,Rx,MN,Rm,NO,RA,nT,nF,cF,cT,zp (show(way.length:Int)>0 by omega),show(true==false)=false from rfl,obs,za9,show((way.length:Int)==12)=true by simp;omega,show((5:Int) != 0)=true from rfl];rfl
  ·rw[zw h12,zr rfl];simp only[Q4,QY,MS,Rx,MN,Rm,NO,RA,nT,nF,cF,cT,zp (show(way.length:Int)>0 by omega),show(true==false)=false from rfl,obs,za9,show((way.length:Int)==12)=false by simp;omega,show((0:Int) != 0)=false from rfl,Ef h0 hw,Ed h0,AA (show i<4611686018427387904 by omega)];exact Xp hW hs (by omega) ways hw (fun x y=>(x,y))
theorem A2H{i:Nat}(he:W[i]? =some [108])(ways:List Wy){way:Wy}(hw:way.length<=1000):As (W,(i:Int),0) ways way=some (TH W ways way (Cj W i ways way [108])):=by
 have hlt:=Dt he;unfold As;simp only;rw[Af,he,obs,show([[77],[76],[108],[72],[104],[86],[118],[90]]:List Str)=KW from rfl,JJ W _ ways way _ _,obs];unfold Cj;rw[zw (by decide),zr (show([108]:Str)∈KW by decide),zp (show([108]:Str)∈KW by decide)];by_cases h0:way=[]
 ·subst h0;rw[zr rfl];simp only[Nk,M5,Kf,MW,KD,Na,KG,NJ,nT,cF,cT,zf4,show decide (((0:Nat):Int)>0)=false from rfl,show(false==false)=true from rfl,obs,za9,show((4:Int) != 0)=true from rfl];rfl
 ·have hp:=zd5.2 h0;rw[zw h0];rw[zw (by decide)];by_cases h12:way.length=12
  ·rw[zr h12];simp only[Nk,M5,Kf,MW,KD,Na,KG,NJ,nT,nF,cF,cT,zp (show(way.length:Int)>0 by omega),show(true==false)=false from rfl,obs,za9,show((way.length:Int)==12)=true by simp;omega,show((5:Int) != 0)=true from rfl];rfl
  ·rw[zw h12,zw (by decide),zr rfl];simp only[Nk,M5,Kf,MW,KD,Na,KG,NJ,nT,nF,cF,cT,zp (show(way.length:Int)>0 by omega),show(true==false)=false from rfl,obs,za9,show((way.length:Int)==12)=false by simp;omega,show((0:Int) != 0)=false from rfl,Ef h0 hw,Ed h0,AA (show i<4611686018427387904 by omega)];exact Xp hW hs (by omega) ways hw (fun x y=>(zi zj ((En way).1+x),zi zj ((En way).2+y)))
theorem A5J{i:Nat}(he:W[i]? =some [72])(ways:List Wy){way:Wy}(hw:way.length<=1000):As (W,(i:Int),0) ways way=some (TH W ways way (Cj W i ways way [72])):=by
 have hlt:=Dt he;unfold As;simp only;rw[Af,he,obs,show([[77],[76],[108],[72],[104],[86],[118],[90]]:List Str)=KW from rfl,JJ W _ ways way _ _,obs];unfold Cj;rw[zw (by decide),zr (show([72]:Str)∈KW by decide),zp (show([72]:Str)∈KW by decide)];by_cases h0:way=[]
 ·subst h0;rw[zr rfl];simp only[Rd,QW,M2,RD,MI,RV,Nc,Rb,nT,cF,cT,zf4,show decide (((0:Nat):Int)>0)=false from rfl,show(false==false)=true from rfl,obs,za9,show((4:Int) != 0)=true from rfl];rfl
 ·have hp:=zd5.2 h0;rw[zw h0];rw[zw (by decide)];by_cases h12:way.length=12
  ·rw[zr h12];simp only[Rd,QW,M2,RD,MI,RV,Nc,Rb,nT,nF,cF,cT,zp (show(way.length:Int)>0 by omega),show(true==false)=false from rfl,obs,za9,show((way.length:Int)==12)=true by simp;omega,show((5:Int) != 0)=true from rfl];rfl
  ·rw[zw h12,zw (by decide),zw (by decide),zr rfl];simp only[Rd,QW,M2,RD,MI,RV,Nc,Rb,nT,nF,cF,cT,zp (show(way.length:Int)>0 by omega),show(true==false)=false from rfl,obs,za9,show((way.length:Int)==12)=false by simp;omega,show((0:Int) != 0)=false from rfl,Ef h0 hw,Ed h0,AA (show i<4611686018427387904 by omega)];exact PB hW hs (by omega) ways hw (fun x=>(x,(En way).2))
theorem A1g{i:Nat}(he:W[i]? =some [104])(ways:List Wy){way:Wy}(hw:way.length<=1000):As (W,(i:Int),0) ways way=some (TH W ways way (Cj W i ways way [104])):=by
 have hlt:=Dt he;unfold As;simp only;rw[Af,he,obs,show([[77],[76],[108],[72],[104],[86],[118],[90]]:List Str)=KW from rfl,JJ W _ ways way _ _,obs];unfold Cj;rw[zw (by decide),zr (show([104]:Str)∈KW by decide),zp (show([104]:Str)∈KW by decide)];by_cases h0:way=[]
 ·subst h0;rw[zr rfl];simp only[NF,M1,KE,NP,J8,NX,KB,Nu,nT,cF,cT,zf4,show decide (((0:Nat):Int)>0)=false from rfl,show(false==false)=true from rfl,obs,za9,show((4:Int) != 0)=true from rfl];rfl
 ·have hp:=zd5.2 h0;rw[zw h0];rw[zw (by decide)];by_cases h12:way.length=12
  ·rw[zr h12];simp only[NF,M1,KE,NP,J8,NX,KB,Nu,nT,nF,cF,cT,zp (show(way.length:Int)>0 by omega),show(true==false)=false from rfl,obs,za9,show((way.length:Int)==12)=true by simp;omega,show((5:Int) != 0)=true from rfl];rfl
  ·rw[zw h12,zw (by decide),zw (by decide),zw (by decide),zr rfl];simp only[NF,M1,KE,NP,J8,NX,KB,Nu,nT,nF,cF,cT,zp (show(way.length:Int)>0 by omega),show(true==false)=false from rfl,obs,za9,show((way.length:Int)==12)=false by simp;omega,show((0:Int) != 0)=false from rfl,Ef h0 hw,Ed h0,AA (show i<4611686018427387904 by omega)];exact PB hW hs (by omega) ways hw (fun x=>(zi zj ((En way).1+x),(En way).2))
theorem A27{i:Nat}(he:W[i]? =some [86])(ways:List Wy){way:Wy}(hw:way.length<=1000):As (W,(i:Int),0) ways way=some (TH W ways way (Cj W i ways way [86])):=by
 have hlt:=Dt he;unfold As;simp only;rw[Af,he,obs,show([[77],[76],[108],[72],[104],[86],[118],[90]]:List Str)=KW from rfl,JJ W _ ways way _ _,obs];unfold Cj;rw[zw (by decide),zr (show([86]:Str)∈KW by decide),zp (show([86]:Str)∈KW by decide)];by_cases h0:way=[]
 ·subst h0;rw[zr rfl];simp only[Q7,Q1,MQ,R0,NR,Q8,NZ,Rp,nT,cF,cT,zf4,show decide (((0:Nat):Int)>0)=false from rfl,show(false==false)=true from rfl,obs,za9,show((4:Int) != 0)=true from rfl];rfl
 ·have hp:=zd5.2 h0;rw[zw h0];rw[zw (by decide)];by_cases h12:way.length=12
  ·rw[zr h12];simp only[Q7,Q1,MQ,R0,NR,Q8,NZ,Rp,nT,nF,cF,cT,zp (show(way.length:Int)>0 by omega),show(true==false)=false from rfl,obs,za9,show((way.length:Int)==12)=true by simp;omega,show((5:Int) != 0)=true from rfl];rfl
  ·rw[zw h12,zw (by decide),zw (by decide),zw (by decide),zw (by decide),zr rfl];simp only[Q7,Q1,MQ,R0,NR,Q8,NZ,Rp,nT,nF,cF,cT,zp (show(way.length:Int)>0 by omega),show(true==false)=false from rfl,obs,za9,show((way.length:Int)==12)=false by simp;omega,show((0:Int) != 0)=false from rfl,Ef h0 hw,Ed h0,AA (show i<4611686018427387904 by omega)];exact PB hW hs (by omega) ways hw (fun x=>((En way).1,x))
theorem A2U{i:Nat}(he:W[i]? =some [118])(ways:List Wy){way:Wy}(hw:way.length<=1000):As (W,(i:Int),0) ways way=some (TH W ways way (Cj W i ways way [118])):=by
 have hlt:=Dt he;unfold As;simp only;rw[Af,he,obs,show([[77],[76],[108],[72],[104],[86],[118],[90]]:List Str)=KW from rfl,JJ W _ ways way _ _,obs];unfold Cj;rw[zw (by decide),zr (show([118]:Str)∈KW by decide),zp (show([118]:Str)∈KW by decide)];by_cases h0:way=[]
 ·subst h0;rw[zr rfl];simp only[Nb,Nx,J5,NN,KI,MZ,KC,MP,nT,cF,cT,zf4,show decide (((0:Nat):Int)>0)=false from rfl,show(false==false)=true from rfl,obs,za9,show((4:Int) != 0)=true from rfl];rfl
 ·have hp:=zd5.2 h0;rw[zw h0];rw[zw (by decide)];by_cases h12:way.length=12
  ·rw[zr h12];simp only[Nb,Nx,J5,NN,KI,MZ,KC,MP,nT,nF,cF,cT,zp (show(way.length:Int)>0 by omega),show(true==false)=false from rfl,obs,za9,show((way.length:Int)==12)=true by simp;omega,show((5:Int) != 0)=true from rfl];rfl
  ·rw[zw h12,zw (by decide),zw (by decide),zw (by decide),zw (by decide),zw (by decide)];simp only[Nb,Nx,J5,NN,KI,MZ,KC,MP,nT,nF,cF,cT,zp (show(way.length:Int)>0 by omega),show(true==false)=false from rfl,obs,za9,show((way.length:Int)==12)=false by simp;omega,show((0:Int) != 0)=false from rfl,Ef h0 hw,Ed h0,AA (show i<4611686018427387904 by omega)];exact PB hW hs (by omega) ways hw (fun x=>((En way).1,zi zj ((En way).2+x)))
theorem A41{i:Nat}(he:W[i]? =some [90])(ways:List Wy){way:Wy}(hw:way.length<=1000)(hwl:ways.length<=1000):As (W,(i:Int),0) ways way=some (TH W ways way (Cj W i ways way [90])):=by
 have hlt:=Dt he;unfold As;simp only;rw[Af,he,obs,show([[77],[76],[108],[72],[104],[86],[118],[90]]:List Str)=KW from rfl,JJ W _ ways way _ _,obs];unfold Cj;rw[zw (by decide),zr (show([90]:Str)∈KW by decide),zp (show([90]:Str)∈KW by decide)];by_cases h0:way=[]
 ·subst h0;rw[zr rfl];simp only[UK,Uo,P1,Uf,Qn,TS,P9,US,nT,cF,cT,zf4,show decide (((0:Nat):Int)>0)=false from rfl,show(false==false)=true from rfl,obs,za9,show((4:Int) != 0)=true from rfl];rfl
 ·have hp:=zd5.2 h0;rw[zw h0];rw[zr rfl];by_cases h3:way.length<3
  ·rw[zr h3];simp only[UK,Uo,P1,Uf,Qn,TS,P9,US,nT,nF,cF,cT,zp (show(way.length:Int)>0 by omega),show(true==false)=false from rfl,obs,za9,zp (show(way.length:Int)<3 by omega),show((5:Int) != 0)=true from rfl];rfl
  ·rw[zw h3];simp only[UK,Uo,P1,Uf,Qn,TS,P9,US,nT,nF,cF,cT,zp (show(way.length:Int)>0 by omega),show(true==false)=false from rfl,obs,za9,zq (show ¬(way.length:Int)<3 by omega),show((0:Int) != 0)=false from rfl,Ef h0 hw,Ed h0,AA (show i<4611686018427387904 by omega)];rw[D2 (by simp[Ae];omega) (by simp[Ae];omega),obs];rfl
theorem A2V{i:Nat}{w:Str}(he:W[i]? =some w)(ways:List Wy){way:Wy}(hw:way.length<=1000)(hwl:ways.length<=1000):As (W,(i:Int),0) ways way=some (TH W ways way (Cj W i ways way w)):=by
 by_cases hk:w∈KW
 ·have hk':w=[77]\/w=[76]\/w=[108]\/w=[72]\/w=[104]\/w=[86]\/w=[118]\/w=[90]:=by simpa[KW]using hk
  rcases hk' with rfl|rfl|rfl|rfl|rfl|rfl|rfl|rfl
  ·exact A4o hW hs he ways hw
  ·exact A4V hW hs he ways hw
  ·exact A2H hW hs he ways hw
  ·exact A5J hW hs he ways hw
  ·exact A1g hW hs he ways hw
  ·exact A27 hW hs he ways hw
  ·exact A2U hW hs he ways hw
  ·exact A41 hW hs he ways hw hwl
 ·exact A4s hW hs he hk ways hw
end
end
section
open Go
abbrev ISt:=(List Str×(Int×Bool))×(List Wy×(Wy×(Int×Int)))
def EI(W:List Str):CV->ISt->Prop
 |.inl (c,i),r=>r.2.2.2=(c,(i:Int))/\c≠0
 |.inr (i,ways',way'),r=>r=((W,((i:Int),decide (way'≠[]))),(ways',(way',(0,0))))
def KWi:List Str:=[[77],[76],[108],[72],[86],[104],[118],[90]]
theorem A0n(w:Str):w∈KWi↔w∈KW:=by simp only[KWi,KW,zc6,zf3,or_false];constructor<;>(intro h;rcases h with h|h|h|h|h|h|h|h<;>simp[h])
theorem Jz(w:Str):Bs KWi w=some (decide (w∈KW)):=by
 unfold Bs CP;have key:=EM (body:=fun s:List Str×Str×Int×Int=>A5 s.1 s.2.1 s.2.2.1 s.2.2.2) (l:=KWi) (st:=fun k=>(KWi,w,((KWi.length:Nat):Int),(k:Int))) (p:=fun x=> !(w==x)) (fin:=.inl ()) (bad:=fun k=>.inr (k:Int))
  (fun k a hk hp=>by
   have hlt:k<8:=Dt hk;have hp:(w==a)=false:=by simpa using hp
   unfold A5;simp only;rw[zp (show(k:Int)<((KWi.length:Nat):Int) by show(k:Int)<8;omega),cT,Af,hk,obs,hp,cF,AA (by omega)])
  (fun k a hk hp=>by
   have hlt:k<8:=Dt hk;have hp:(w==a)=true:=by simpa using hp
   unfold A5;simp only;rw[zp (show(k:Int)<((KWi.length:Nat):Int) by show(k:Int)<8;omega),cT,Af,hk,obs,hp,cT])
  (by
   unfold A5;simp only;rw[zq (by omega),cF])
 by_cases hm:w∈KW
 ·have hall:KWi.all (fun x=> !(w==x))=false:=by
   rw[List.all_eq_false];exact⟨w,(A0n w).2 hm,by simp⟩
  obtain⟨k,_,h⟩:=key.2 hall;rw[show((0:Nat):Int)=0 from rfl]at h;rw[h,obs];simp only[za9];rw[obs,zp hm,zp (by omega)]
 ·have hall:KWi.all (fun x=> !(w==x))=true:=by
   rw[za5];intro x hx;have:w≠x:=fun h=>hm ((A0n w).1 (h▸hx))
   simpa using this
  have h:=key.1 hall;rw[show((0:Nat):Int)=0 from rfl]at h;rw[h,obs];simp only[Sum.elim_inl];rw[obs,zq hm];rfl
theorem NH(w:Str):EC [72,86,104,118] w=some (Lib.contains [72,86,104,118] w):=by
 unfold EC Kn;rw[zr (by decide)]
def icB:((List Str×(Int×Bool))×(List Int×(List Wy×(Wy×(Str×(Int×Int))))))->Option (((List Str×(Int×Bool))×(List Int×(List Wy×(Wy×(Str×(Int×Int))))))⊕(((List Str×(Int×Bool))×(List Int×(List Wy×(Wy×Str))))⊕ISt)):=
 fun s=>ED s.1 s.2.1 s.2.2.1 s.2.2.2.1 s.2.2.2.2.1 s.2.2.2.2.2.1 s.2.2.2.2.2.2
section
variable {W:List Str} (hW:W.length<=1000) (hs:∀w∈W,w.length<=1000)
include hW hs
theorem A4S{i:Nat}(hi:i<=W.length)(o:Bool)(n:List Int)(hn:n.length<=10)(ways:List Wy)(way:Wy)(w:Str){c k:Nat}(hk:k<c)(hc:c<=10):
  icB ((W,((i:Int),o)),(n,(ways,(way,(w,((c:Int),(k:Int)))))))=match Fx W i with|none=>some (.inr (.inr ((W,((i:Int),o)),(ways,(way,(3,(i:Int)))))))|some x=>some (.inl ((W,(((i+1:Nat):Int),o)),(n++[x],(ways,(way,(w,((c:Int),((k+1:Nat):Int)))))))):=by
 unfold icB ED;simp only;rw[zp (by omega),cT,A5r hW hs hi,obs];cases hz:Fx W i with
 |none=>rfl
 |some x=>
  simp only;rw[nT,cF,D2 (by simp[Ae];omega) (by simp[Ae];omega),obs,AA (by omega)]
omit hW hs in
theorem A4A (W:List Str) (i:Int) (o:Bool) (n:List Int) (ways:List Wy) (way:Wy) (w:Str) (c:Nat):icB ((W,(i,o)),(n,(ways,(way,(w,((c:Int),(c:Int)))))))=some (.inr (.inl ((W,(i,o)),(n,(ways,(way,w)))))):=by
 unfold icB ED;simp only;rw[zq (by omega),cF]
theorem A8L{i:Nat}(hi:i<=W.length)(o:Bool)(ways:List Wy)(way:Wy)(w:Str):Ad icB ((W,((i:Int),o)),(([]:List Int),(ways,(way,(w,((1:Int),(0:Int)))))))=
  match Fx W i with|none=>some (.inr ((W,((i:Int),o)),(ways,(way,(3,(i:Int))))))|some x=>some (.inl ((W,(((i+1:Nat):Int),o)),([x],(ways,(way,w))))):=by
 have h1:=A4S hW hs hi o [] (by simp) ways way w (c:=1) (k:=0) (by omega) (by omega);cases hz:Fx W i with
 |none=>rw[hz]at h1;exact Ak h1
 |some x=>
  rw[hz]at h1;exact(AP h1).trans (Ak (A4A W _ o [x] ways way w 1))
theorem A8o{i:Nat}(hi:i<=W.length)(o:Bool)(ways:List Wy)(way:Wy)(w:Str):Ad icB ((W,((i:Int),o)),(([]:List Int),(ways,(way,(w,((2:Int),(0:Int)))))))=
  match Fx W i with|none=>some (.inr ((W,((i:Int),o)),(ways,(way,(3,(i:Int))))))|some x=>(match Fx W (i+1)with|none=>some (.inr ((W,(((i+1:Nat):Int),o)),(ways,(way,(3,((i+1:Nat):Int))))))|some y=>some (.inl ((W,(((i+2:Nat):Int),o)),([x,y],(ways,(way,w)))))):=by
 have h1:=A4S hW hs hi o [] (by simp) ways way w (c:=2) (k:=0) (by omega) (by omega);cases hz:Fx W i with
 |none=>rw[hz]at h1;exact Ak h1
 |some x=>
  rw[hz]at h1;have hlt:=J9 hW hs hz;have h2:=A4S hW hs (i:=i+1) (by omega) o [x] (by simp) ways way w (c:=2) (k:=1) (by omega) (by omega);refine(AP h1).trans ?_
  simp only;cases hz2:Fx W (i+1)with
  |none=>rw[hz2]at h2;exact Ak h2
  |some y=>
   rw[hz2]at h2;exact(AP h2).trans (Ak (A4A W _ o [x,y] ways way w 2))
def icK (w:Str):(((List Str×(Int×Bool))×(List Int×(List Wy×(Wy×Str))))⊕ISt)->Option ISt:=fun x7=>Sum.elim
   (fun x8=>
   ((Bo (x8.1.1,(x8.1.2.1,x8.1.2.2)) x8.2.2.1 x8.2.2.2.1 x8.2.2.2.2 x8.2.1)).bind fun x9=>
   ((Ku (x9.2.2.2.1,x9.2.2.2.2))).bind fun x10=>
   bif(!x10)then
    some ((x9.1.1,(x9.1.2.1,x9.1.2.2)),(x9.2.1,(x9.2.2.1,((6:Int),(zi zj (x9.1.2.1-(1:Int)))))))
   else
   ((CZ 16 2 x9.2.2.1 (List.cons (x9.2.2.2.1,x9.2.2.2.2) List.nil))).bind fun x11=>
   some ((x9.1.1,(x9.1.2.1,true)),(x9.2.1,(x11,((0:Int),(0:Int))))))
   (fun x12=>
   some ((x12.1.1,(x12.1.2.1,x12.1.2.2)),(x12.2.1,(x12.2.2.1,(x12.2.2.2.1,x12.2.2.2.2)))))
   x7
theorem A7U{i:Nat}(hi:1<=i/\i<=2000)(o:Bool)(ways:List Wy){way:Wy}(hw:way.length<=1000)(w:Str)(n:List Int){p:Pn}(hn:Bo (W,((i:Int),o)) ways way w n=some ((W,((i:Int),o)),(ways,(way,p)))):
  ∃r,icK w (.inl ((W,((i:Int),o)),(n,(ways,(way,w)))))=some r/\EI W (ptV GN i ways way p) r:=by
 unfold icK ptV;simp only[Sum.elim_inl];rw[hn,obs];simp only;rw[A5Z,obs];cases h:GN (p.1,p.2)with
 |false=>
  rw[nF,cT,zw (by simp),Ab (by omega) (by omega)];exact⟨_,rfl,by show((6:Int),_)=_;congr 1;omega,by omega⟩
 |true=>
  rw[nT,cF,zr rfl,D2 (by simp[Ae];omega) (by simp[Ae];omega),obs];refine⟨_,rfl,?_⟩
  show _=_;rw[zp (show way++[p]≠[] by simp)]
theorem WR{i:Nat}(hi:i<=W.length)(o:Bool)(ways:List Wy){way:Wy}(hw:way.length<=1000)(w:Str){f:Int->Pn}(hf:∀(j:Nat) x,Bo (W,((j:Int),o)) ways way w [x]=some ((W,((j:Int),o)),(ways,(way,f x)))):
  ∃r,((Ad icB ((W,((i:Int),o)),(([]:List Int),(ways,(way,(w,((1:Int),(0:Int)))))))).bind (icK w))=some r/\EI W (one W i ways way f) r:=by
 rw[A8L hW hs hi];unfold one;cases hz:Fx W i with
 |none=>exact⟨_,rfl,rfl,by omega⟩
 |some x=>
  have:=J9 hW hs hz;exact A7U hW hs (by omega) o ways hw w [x] (hf (i+1) x)
theorem Ar0{i:Nat}(hi:i<=W.length)(o:Bool)(ways:List Wy){way:Wy}(hw:way.length<=1000)(w:Str){f:Int->Int->Pn}(hf:∀(j:Nat) x y,Bo (W,((j:Int),o)) ways way w [x,y]=some ((W,((j:Int),o)),(ways,(way,f x y)))):
  ∃r,((Ad icB ((W,((i:Int),o)),(([]:List Int),(ways,(way,(w,((2:Int),(0:Int)))))))).bind (icK w))=some r/\EI W (two W i ways way f) r:=by
 rw[A8o hW hs hi];unfold two one;cases hz:Fx W i with
 |none=>exact⟨_,rfl,rfl,by omega⟩
 |some x=>
  have:=J9 hW hs hz;simp only;cases hz2:Fx W (i+1)with
  |none=>exact⟨_,rfl,rfl,by omega⟩
  |some y=>
   have:=J9 hW hs hz2;exact A7U hW hs (by omega) o ways hw w [x,y] (hf (i+2) x y)
theorem A3a{i:Nat}{w:Str}(he:W[i]? =some w)(hk:w ∉ KW)(o:Bool)(ways:List Wy)(way:Wy):∃r,Au (W,((i:Int),o)) ways way=some r/\EI W (Cj W i ways way w) r:=by
 have h77:w≠[77]:=fun h=>hk (by rw[h];decide)
 unfold Au BB;simp only;rw[Af,he,obs,show([[77],[76],[108],[72],[86],[104],[118],[90]]:List Str)=KWi from rfl,Jz,obs,zq hk,nF,cT,obs];unfold Cj;rw[zw h77,zw hk];exact⟨_,rfl,rfl,by omega⟩
theorem A4G{i:Nat}(he:W[i]? =some [77])(ways:List Wy){way:Wy}(hw:way.length<=1000)(hwl:ways.length<=1000):∃r,Au (W,((i:Int),decide (way≠[]))) ways way=some r/\EI W (Cj W i ways way [77]) r:=by
 have hlt:=Dt he;unfold Au BB;simp only;rw[Af,he,obs,show([[77],[76],[108],[72],[86],[104],[118],[90]]:List Str)=KWi from rfl,Jz,obs,zp (show([77]:Str)∈KW by decide)];unfold Cj;by_cases h0:way=[]
 ·subst h0;by_cases h4:ways.length=4
  ·have h4':((ways.length:Int)==4)=true:=by simp[h4]
   rw[zr rfl,zr rfl,zr h4];simp only[Ri,Rs,Nw,Rg,NG,Q9,Ny,Ru,nT,nF,cF,cT,obs,h4',show decide (([]:Wy)≠[])=false from rfl,show(true==false)=false from rfl,show((5:Int) != 0)=true from rfl];exact⟨_,rfl,rfl,by omega⟩
  ·have h4':((ways.length:Int)==4)=false:=by simp;omega
   rw[zr rfl,zr rfl,zw h4];simp only[Ri,Rs,Nw,Rg,NG,Q9,Ny,Ru,nT,nF,cF,cT,obs,h4',show decide (([]:Wy)≠[])=false from rfl,show(true==false)=false from rfl,show((0:Int) != 0)=false from rfl,AA (show i<4611686018427387904 by omega),NH,show Lib.contains [72,86,104,118] [77]=false from by decide,za9];refine Ar0 hW hs (by omega) false ways (way:=[]) (by simp) [77] (f:=fun x y=>(x,y)) fun j x y=> ?_
   unfold Bo;simp only[Ri,Rs,Nw,Rg,NG,Q9,Ny,Ru,zf4,show decide (((0:Nat):Int)>0)=false from rfl,cF,obs,za9];rfl
 ·have hp:=zd5.2 h0;rw[zr rfl,zw h0];simp only[Ri,Rs,Nw,Rg,NG,Q9,Ny,Ru,nT,nF,cF,cT,obs,show decide (way≠[])=true from zp h0,show(true==true)=true from rfl,show((4:Int) != 0)=true from rfl];exact⟨_,rfl,rfl,by omega⟩
theorem A4B{i:Nat}(he:W[i]? =some [76])(ways:List Wy){way:Wy}(hw:way.length<=1000)(hwl:ways.length<=1000):∃r,Au (W,((i:Int),decide (way≠[]))) ways way=some r/\EI W (Cj W i ways way [76]) r:=by
 have hlt:=Dt he;unfold Au BB;simp only;rw[Af,he,obs,show([[77],[76],[108],[72],[86],[104],[118],[90]]:List Str)=KWi from rfl,Jz,obs,zp (show([76]:Str)∈KW by decide)];unfold Cj;rw[zw (by decide),zr (show([76]:Str)∈KW by decide)];by_cases h0:way=[]
 ·subst h0;rw[zr rfl];simp only[Q4,QY,MS,Rx,MN,Rm,NO,RA,nT,nF,cF,cT,obs,show decide (([]:Wy)≠[])=false from rfl,show(false==false)=true from rfl,show((4:Int) != 0)=true from rfl];exact⟨_,rfl,rfl,by omega⟩
 ·have hp:=zd5.2 h0;rw[zw h0];rw[zw (by decide)];by_cases h12:way.length=12
  ·rw[zr h12];simp only[Q4,QY,MS,Rx,MN,Rm,NO,RA,nT,nF,cF,cT,obs,show decide (way≠[])=true from zp h0,show(false==true)=false from rfl,show((way.length:Int)==12)=true by simp;omega,show((5:Int) != 0)=true from rfl];exact⟨_,rfl,rfl,by omega⟩
  ·rw[zw h12,zr rfl];simp only[Q4,QY,MS,Rx,MN,Rm,NO,RA,nT,nF,cF,cT,obs,show decide (way≠[])=true from zp h0,show(false==true)=false from rfl,show((way.length:Int)==12)=false by simp;omega,show((0:Int) != 0)=false from rfl,AA (show i<4611686018427387904 by omega),NH,show Lib.contains [72,86,104,118] [76]=false from by decide,za9];refine Ar0 hW hs (by omega) true ways hw [76] (f:=fun x y=>(x,y)) fun j x y=> ?_
   unfold Bo;simp only[Q4,QY,MS,Rx,MN,Rm,NO,RA,zp (show(way.length:Int)>0 by omega),cT,cF,Ef h0 hw,Ed h0,obs,za9];rfl
theorem A17{i:Nat}(he:W[i]? =some [108])(ways:List Wy){way:Wy}(hw:way.length<=1000)(hwl:ways.length<=1000):∃r,Au (W,((i:Int),decide (way≠[]))) ways way=some r/\EI W (Cj W i ways way [108]) r:=by
 have hlt:=Dt he;unfold Au BB;simp only;rw[Af,he,obs,show([[77],[76],[108],[72],[86],[104],[118],[90]]:List Str)=KWi from rfl,Jz,obs,zp (show([108]:Str)∈KW by decide)];unfold Cj;rw[zw (by decide),zr (show([108]:Str)∈KW by decide)];by_cases h0:way=[]
 ·subst h0;rw[zr rfl];simp only[Nk,M5,Kf,MW,KD,Na,KG,NJ,nT,nF,cF,cT,obs,show decide (([]:Wy)≠[])=false from rfl,show(false==false)=true from rfl,show((4:Int) != 0)=true from rfl];exact⟨_,rfl,rfl,by omega⟩
 ·have hp:=zd5.2 h0;rw[zw h0];rw[zw (by decide)];by_cases h12:way.length=12
  ·rw[zr h12];simp only[Nk,M5,Kf,MW,KD,Na,KG,NJ,nT,nF,cF,cT,obs,show decide (way≠[])=true from zp h0,show(false==true)=false from rfl,show((way.length:Int)==12)=true by simp;omega,show((5:Int) != 0)=true from rfl];exact⟨_,rfl,rfl,by omega⟩
  ·rw[zw h12,zw (by decide),zr rfl];simp only[Nk,M5,Kf,MW,KD,Na,KG,NJ,nT,nF,cF,cT,obs,show decide (way≠[])=true from zp h0,show(false==true)=false from rfl,show((way.length:Int)==12)=false by simp;omega,show((0:Int) != 0)=false from rfl,AA (show i<4611686018427387904 by omega),NH,show Lib.contains [72,86,104,118] [108]=false from by decide,za9];refine Ar0 hW hs (by omega) true ways hw [108] (f:=fun x y=>(zi zj ((En way).1+x),zi zj ((En way).2+y))) fun j x y=> ?_
   unfold Bo;simp only[Nk,M5,Kf,MW,KD,Na,KG,NJ,zp (show(way.length:Int)>0 by omega),cT,cF,Ef h0 hw,Ed h0,obs,za9];rfl
theorem A4i{i:Nat}(he:W[i]? =some [72])(ways:List Wy){way:Wy}(hw:way.length<=1000)(hwl:ways.length<=1000):∃r,Au (W,((i:Int),decide (way≠[]))) ways way=some r/\EI W (Cj W i ways way [72]) r:=by
 have hlt:=Dt he;unfold Au BB;simp only;rw[Af,he,obs,show([[77],[76],[108],[72],[86],[104],[118],[90]]:List Str)=KWi from rfl,Jz,obs,zp (show([72]:Str)∈KW by decide)];unfold Cj;rw[zw (by decide),zr (show([72]:Str)∈KW by decide)];by_cases h0:way=[]
 ·subst h0;rw[zr rfl];simp only[Rd,QW,M2,RD,MI,RV,Nc,Rb,nT,nF,cF,cT,obs,show decide (([]:Wy)≠[])=false from rfl,show(false==false)=true from rfl,show((4:Int) != 0)=true from rfl];exact⟨_,rfl,rfl,by omega⟩
 ·have hp:=zd5.2 h0;rw[zw h0];rw[zw (by decide)];by_cases h12:way.length=12
  ·rw[zr h12];simp only[Rd,QW,M2,RD,MI,RV,Nc,Rb,nT,nF,cF,cT,obs,show decide (way≠[])=true from zp h0,show(false==true)=false from rfl,show((way.length:Int)==12)=true by simp;omega,show((5:Int) != 0)=true from rfl];exact⟨_,rfl,rfl,by omega⟩
  ·rw[zw h12,zw (by decide),zw (by decide),zr rfl];simp only[Rd,QW,M2,RD,MI,RV,Nc,Rb,nT,nF,cF,cT,obs,show decide (way≠[])=true from zp h0,show(false==true)=false from rfl,show((way.length:Int)==12)=false by simp;omega,show((0:Int) != 0)=false from rfl,AA (show i<4611686018427387904 by omega),NH,show Lib.contains [72,86,104,118] [72]=true from by decide,za9];refine WR hW hs (by omega) true ways hw [72] (f:=fun x=>(x,(En way).2)) fun j x=> ?_
   unfold Bo;simp only[Rd,QW,M2,RD,MI,RV,Nc,Rb,zp (show(way.length:Int)>0 by omega),cT,cF,Ef h0 hw,Ed h0,obs,za9];rfl
theorem A2P{i:Nat}(he:W[i]? =some [104])(ways:List Wy){way:Wy}(hw:way.length<=1000)(hwl:ways.length<=1000):∃r,Au (W,((i:Int),decide (way≠[]))) ways way=some r/\EI W (Cj W i ways way [104]) r:=by
 have hlt:=Dt he;unfold Au BB;simp only;rw[Af,he,obs,show([[77],[76],[108],[72],[86],[104],[118],[90]]:List Str)=KWi from rfl,Jz,obs,zp (show([104]:Str)∈KW by decide)];unfold Cj;rw[zw (by decide),zr (show([104]:Str)∈KW by decide)];by_cases h0:way=[]
 ·subst h0;rw[zr rfl];simp only[NF,M1,KE,NP,J8,NX,KB,Nu,nT,nF,cF,cT,obs,show decide (([]:Wy)≠[])=false from rfl,show(false==false)=true from rfl,show((4:Int) != 0)=true from rfl];exact⟨_,rfl,rfl,by omega⟩
 ·have hp:=zd5.2 h0;rw[zw h0];rw[zw (by decide)];by_cases h12:way.length=12
  ·rw[zr h12];simp only[NF,M1,KE,NP,J8,NX,KB,Nu,nT,nF,cF,cT,obs,show decide (way≠[])=true from zp h0,show(false==true)=false from rfl,show((way.length:Int)==12)=true by simp;omega,show((5:Int) != 0)=true from rfl];exact⟨_,rfl,rfl,by omega⟩
  ·rw[zw h12,zw (by decide),zw (by decide),zw (by decide),zr rfl];simp only[NF,M1,KE,NP,J8,NX,KB,Nu,nT,nF,cF,cT,obs,show decide (way≠[])=true from zp h0,show(false==true)=false from rfl,show((way.length:Int)==12)=false by simp;omega,show((0:Int) != 0)=false from rfl,AA (show i<4611686018427387904 by omega),NH,show Lib.contains [72,86,104,118] [104]=true from by decide,za9];refine WR hW hs (by omega) true ways hw [104] (f:=fun x=>(zi zj ((En way).1+x),(En way).2)) fun j x=> ?_
   unfold Bo;simp only[NF,M1,KE,NP,J8,NX,KB,Nu,zp (show(way.length:Int)>0 by omega),cT,cF,Ef h0 hw,Ed h0,obs,za9];rfl
theorem A5A{i:Nat}(he:W[i]? =some [86])(ways:List Wy){way:Wy}(hw:way.length<=1000)(hwl:ways.length<=1000):∃r,Au (W,((i:Int),decide (way≠[]))) ways way=some r/\EI W (Cj W i ways way [86]) r:=by
 have hlt:=Dt he;unfold Au BB;simp only;rw[Af,he,obs,show([[77],[76],[108],[72],[86],[104],[118],[90]]:List Str)=KWi from rfl,Jz,obs,zp (show([86]:Str)∈KW by decide)];unfold Cj;rw[zw (by decide),zr (show([86]:Str)∈KW by decide)];by_cases h0:way=[]
 ·subst h0;rw[zr rfl];simp only[Q7,Q1,MQ,R0,NR,Q8,NZ,Rp,nT,nF,cF,cT,obs,show decide (([]:Wy)≠[])=false from rfl,show(false==false)=true from rfl,show((4:Int) != 0)=true from rfl];exact⟨_,rfl,rfl,by omega⟩
 ·have hp:=zd5.2 h0;rw[zw h0];rw[zw (by decide)];by_cases h12:way.length=12
  ·rw[zr h12];simp only[Q7,Q1,MQ,R0,NR,Q8,NZ,Rp,nT,nF,cF,cT,obs,show decide (way≠[])=true from zp h0,show(false==true)=false from rfl,show((way.length:Int)==12)=true by simp;omega,show((5:Int) != 0)=true from rfl];exact⟨_,rfl,rfl,by omega⟩
  ·rw[zw h12,zw (by decide),zw (by decide),zw (by decide),zw (by decide),zr rfl];simp only[Q7,Q1,MQ,R0,NR,Q8,NZ,Rp,nT,nF,cF,cT,obs,show decide (way≠[])=true from zp h0,show(false==true)=false from rfl,show((way.length:Int)==12)=false by simp;omega,show((0:Int) != 0)=false from rfl,AA (show i<4611686018427387904 by omega),NH,show Lib.contains [72,86,104,118] [86]=true from by decide,za9];refine WR hW hs (by omega) true ways hw [86] (f:=fun x=>((En way).1,x)) fun j x=> ?_
   unfold Bo;simp only[Q7,Q1,MQ,R0,NR,Q8,NZ,Rp,zp (show(way.length:Int)>0 by omega),cT,cF,Ef h0 hw,Ed h0,obs,za9];rfl
theorem A1m{i:Nat}(he:W[i]? =some [118])(ways:List Wy){way:Wy}(hw:way.length<=1000)(hwl:ways.length<=1000):∃r,Au (W,((i:Int),decide (way≠[]))) ways way=some r/\EI W (Cj W i ways way [118]) r:=by
 have hlt:=Dt he;unfold Au BB;simp only;rw[Af,he,obs,show([[77],[76],[108],[72],[86],[104],[118],[90]]:List Str)=KWi from rfl,Jz,obs,zp (show([118]:Str)∈KW by decide)];unfold Cj;rw[zw (by decide),zr (show([118]:Str)∈KW by decide)];by_cases h0:way=[]
 ·subst h0;rw[zr rfl];simp only[Nb,Nx,J5,NN,KI,MZ,KC,MP,nT,nF,cF,cT,obs,show decide (([]:Wy)≠[])=false from rfl,show(false==false)=true from rfl,show((4:Int) != 0)=true from rfl];exact⟨_,rfl,rfl,by omega⟩
 ·have hp:=zd5.2 h0;rw[zw h0];rw[zw (by decide)];by_cases h12:way.length=12
  ·rw[zr h12];simp only[Nb,Nx,J5,NN,KI,MZ,KC,MP,nT,nF,cF,cT,obs,show decide (way≠[])=true from zp h0,show(false==true)=false from rfl,show((way.length:Int)==12)=true by simp;omega,show((5:Int) != 0)=true from rfl];exact⟨_,rfl,rfl,by omega⟩
  ·rw[zw h12,zw (by decide),zw (by decide),zw (by decide),zw (by decide),zw (by decide)];simp only[Nb,Nx,J5,NN,KI,MZ,KC,MP,nT,nF,cF,cT,obs,show decide (way≠[])=true from zp h0,show(false==true)=false from rfl,show((way.length:Int)==12)=false by simp;omega,show((0:Int) != 0)=false from rfl,AA (show i<4611686018427387904 by omega),NH,show Lib.contains [72,86,104,118] [118]=true from by decide,za9];refine WR hW hs (by omega) true ways hw [118] (f:=fun x=>((En way).1,zi zj ((En way).2+x))) fun j x=> ?_
   unfold Bo;simp only[Nb,Nx,J5,NN,KI,MZ,KC,MP,zp (show(way.length:Int)>0 by omega),cT,cF,Ef h0 hw,Ed h0,obs,za9];rfl
theorem A4n{i:Nat}(he:W[i]? =some [90])(ways:List Wy){way:Wy}(hw:way.length<=1000)(hwl:ways.length<=1000):∃r,Au (W,((i:Int),decide (way≠[]))) ways way=some r/\EI W (Cj W i ways way [90]) r:=by
 have hlt:=Dt he;unfold Au BB;simp only;rw[Af,he,obs,show([[77],[76],[108],[72],[86],[104],[118],[90]]:List Str)=KWi from rfl,Jz,obs,zp (show([90]:Str)∈KW by decide)];unfold Cj;rw[zw (by decide),zr (show([90]:Str)∈KW by decide)];by_cases h0:way=[]
 ·subst h0;rw[zr rfl];simp only[UK,Uo,P1,Uf,Qn,TS,P9,US,nT,nF,cF,cT,obs,show decide (([]:Wy)≠[])=false from rfl,show(false==false)=true from rfl,show((4:Int) != 0)=true from rfl];exact⟨_,rfl,rfl,by omega⟩
 ·have hp:=zd5.2 h0;rw[zw h0];rw[zr rfl];by_cases h3:way.length<3
  ·rw[zr h3];simp only[UK,Uo,P1,Uf,Qn,TS,P9,US,nT,nF,cF,cT,obs,show decide (way≠[])=true from zp h0,show(false==true)=false from rfl,zp (show(way.length:Int)<3 by omega),show((5:Int) != 0)=true from rfl];exact⟨_,rfl,rfl,by omega⟩
  ·rw[zw h3];simp only[UK,Uo,P1,Uf,Qn,TS,P9,US,nT,nF,cF,cT,obs,show decide (way≠[])=true from zp h0,show(false==true)=false from rfl,zq (show ¬(way.length:Int)<3 by omega),show((0:Int) != 0)=false from rfl,AA (show i<4611686018427387904 by omega)];rw[D2 (by simp[Ae];omega) (by simp[Ae];omega),obs];exact⟨_,rfl,rfl⟩
theorem A1T{i:Nat}{w:Str}(he:W[i]? =some w)(ways:List Wy){way:Wy}(hw:way.length<=1000)(hwl:ways.length<=1000):∃r,Au (W,((i:Int),decide (way≠[]))) ways way=some r/\EI W (Cj W i ways way w) r:=by
 by_cases hk:w∈KW
 ·have hk':w=[77]\/w=[76]\/w=[108]\/w=[72]\/w=[104]\/w=[86]\/w=[118]\/w=[90]:=by simpa[KW]using hk
  rcases hk' with rfl|rfl|rfl|rfl|rfl|rfl|rfl|rfl
  ·exact A4G hW hs he ways hw hwl
  ·exact A4B hW hs he ways hw hwl
  ·exact A17 hW hs he ways hw hwl
  ·exact A4i hW hs he ways hw hwl
  ·exact A2P hW hs he ways hw hwl
  ·exact A5A hW hs he ways hw hwl
  ·exact A1m hW hs he ways hw hwl
  ·exact A4n hW hs he ways hw hwl
 ·exact A3a hW hs he hk _ ways way
end
end
section
open Go
def CF(W:List Str)(i:Nat)(ways:List Wy)(way:Wy):CV->Prop
 |.inl (c,_)=>c≠0
 |.inr (j,ways',way')=>i<j/\j<=W.length/\ways'.length<=ways.length+1/\way'.length<=way.length+1
section
variable {W:List Str} (hW:W.length<=1000) (hs:∀w∈W,w.length<=1000)
include hW hs
theorem A8Y{i j:Nat}(hi:i<j)(hj:j<=W.length)(ways:List Wy)(way:Wy)(p:Pn):CF W i ways way (ptV GN j ways way p):=by
 unfold ptV
 split
 ·exact⟨hi,hj,by omega,by simp⟩
 ·show(6:Int)≠0;omega
theorem A5g{i j:Nat}(hi:i<j)(ways:List Wy)(way:Wy)(f:Int->Pn):CF W i ways way (one W j ways way f):=by
 unfold one;cases hz:Fx W j with
 |none=>show(3:Int)≠0;omega
 |some x=>exact A8Y hW hs (by omega) (J9 hW hs hz) ways way _
theorem A8x{i j:Nat}(hi:i<j)(ways:List Wy)(way:Wy)(f:Int->Int->Pn):CF W i ways way (two W j ways way f):=by
 unfold two;cases hz:Fx W j with
 |none=>show(3:Int)≠0;omega
 |some x=>exact A5g hW hs (by omega) ways way _
theorem As7{i:Nat}{w:Str}(he:W[i]? =some w)(ways:List Wy)(way:Wy):CF W i ways way (Cj W i ways way w):=by
 have hlt:=Dt he;unfold Cj
 repeat' split
 all_goals first
  |exact A8x hW hs (by omega) ways way _
  |exact A5g hW hs (by omega) ways way _
  |(show(5:Int)≠0;omega)
  |(show(4:Int)≠0;omega)
  |(show(2:Int)≠0;omega)
  |exact⟨by omega,by omega,by simp,by simp⟩
def Fa(W:List Str):Nat->Nat->List Wy->Wy->(Int×Nat)⊕(List Wy×Wy)
 |0,_,ways,way=>.inr (ways,way)
 |n+1,i,ways,way=>match W[i]? with|none=>.inr (ways,way)|some w=>(match Cj W i ways way w with|.inl e=>.inl e|.inr (j,ways',way')=>Fa W n j ways' way')
abbrev SP:=(List Str×Int×Int)×List Wy×Wy
def spB:SP->Option (SP⊕SP):=fun s=>Dz s.1 s.2.1 s.2.2
def A9H(W:List Str):((Int×Nat)⊕(List Wy×Wy))->SP->Prop
 |.inl (c,i),r=>r.1.2=((i:Int),c)/\c≠0
 |.inr (ways,way),r=>r=((W,((W.length:Int),0)),(ways,way))
omit hW hs in
theorem A8z (W:List Str) (i c:Int) (hc:c≠0) (ways:List Wy) (way:Wy):Ad spB ((W,(i,c)),(ways,way))=some ((W,(i,c)),(ways,way)):=by
 refine Ak ?_
 unfold spB Dz;simp only;by_cases h:i<(W.length:Int)
 ·rw[zp h,cT,show(c==0)=false by simpa using hc,cF]
 ·rw[zq h,cF]
theorem A6q:∀(n i:Nat)(ways:List Wy)(way:Wy),W.length<n+i->i<=W.length->ways.length<=i->way.length<=i->∃r,Ad spB ((W,((i:Int),0)),(ways,way))=some r/\A9H W (Fa W n i ways way) r:=by
 intro n
 induction n with
 |zero=>intro i ways way h1 h2;omega
 |succ n ih=>
  intro i ways way h1 h2 h3 h4;unfold Fa;by_cases hi:i=W.length
  ·subst hi;rw[ze8 (za8 _)];refine⟨_,Ak (r:=((W,((W.length:Int),0)),(ways,way))) ?_,rfl⟩
   unfold spB Dz;simp only;rw[zq (by omega),cF]
  ·have he:W[i]? =some (W[i]'(by omega)):=za1 (by omega);generalize (W[i]'(by omega))=w at he;have hc:=A2V hW hs he ways (way:=way) (by omega) (by omega);have hf:=As7 hW hs he ways way;rw[he];simp only;have hgo:spB ((W,((i:Int),0)),(ways,way))=some (.inl (TH W ways way (Cj W i ways way w))):=by
    unfold spB Dz;simp only;rw[zp (by omega),cT,show((0:Int)==0)=true from rfl,cT,hc,obs]
   rw[AP hgo];cases hz:Cj W i ways way w with
   |inl e=>
    obtain⟨c,j⟩:=e;rw[hz]at hf;exact⟨_,A8z W _ c hf ways way,rfl,hf⟩
   |inr v=>
    obtain⟨j,ways',way'⟩:=v;rw[hz]at hf;obtain⟨f1,f2,f3,f4⟩:=hf;exact ih j ways' way' (by omega) f2 (by omega) (by omega)
abbrev IP:=(List Str×Int×Bool)×List Wy×Wy
def ipB:IP->Option (IP⊕(IP⊕(List Wy×Int×Int×Bool))):=fun s=>EL s.1 s.2.1 s.2.2
def A9J(W:List Str):((Int×Nat)⊕(List Wy×Wy))->(IP⊕(List Wy×Int×Int×Bool))->Prop
 |.inl (c,i),r=>r=.inr ([],c,(i:Int),false)
 |.inr (ways,way),r=>r=.inl ((W,((W.length:Int),decide (way≠[]))),(ways,way))
theorem A6D:∀(n i:Nat)(ways:List Wy)(way:Wy),W.length<n+i->i<=W.length->ways.length<=i->way.length<=i->∃r,Ad ipB ((W,((i:Int),decide (way≠[]))),(ways,way))=some r/\A9J W (Fa W n i ways way) r:=by
 intro n
 induction n with
 |zero=>intro i ways way h1 h2;omega
 |succ n ih=>
  intro i ways way h1 h2 h3 h4;unfold Fa;by_cases hi:i=W.length
  ·subst hi;rw[ze8 (za8 _)];refine⟨.inl ((W,((W.length:Int),decide (way≠[]))),(ways,way)),Ak ?_,rfl⟩
   unfold ipB EL;simp only;rw[zq (show ¬(W.length:Int)<(W.length:Int) by omega),cF]
  ·have he:W[i]? =some (W[i]'(by omega)):=za1 (by omega);generalize (W[i]'(by omega))=w at he;obtain⟨r,hc,hE⟩:=A1T hW hs he ways (way:=way) (by omega) (by omega);have hf:=As7 hW hs he ways way;rw[he];simp only;have hgo:ipB ((W,((i:Int),decide (way≠[]))),(ways,way))=bif(r.2.2.2.1 != 0)then some (.inr (.inr ([],(r.2.2.2.1,(r.2.2.2.2,false)))))else some (.inl ((r.1.1,(r.1.2.1,r.1.2.2)),(r.2.1,r.2.2.1))):=by
    unfold ipB EL;simp only;rw[zp (show(i:Int)<(W.length:Int) by omega),cT,hc,obs]
   cases hz:Cj W i ways way w with
   |inl e=>
    obtain⟨c,j⟩:=e;rw[hz]at hf hE;have hE:r.2.2.2=(c,(j:Int))/\c≠0:=hE;rw[hE.1,show(c != 0)=true by simpa[bne]using hE.2,cT]at hgo;exact⟨_,Ak hgo,rfl⟩
   |inr v=>
    obtain⟨j,ways',way'⟩:=v;rw[hz]at hf hE;obtain⟨f1,f2,f3,f4⟩:=hf;have hE:r=((W,((j:Int),decide (way'≠[]))),(ways',(way',(0,0)))):=hE;subst hE;simp only at hgo;rw[show((0:Int) != 0)=false from rfl,cF]at hgo;rw[AP hgo];exact ih j ways' way' (by omega) f2 (by omega) (by omega)
end
def DN(s:Str):List Wy×Int×Int×Bool:=
 if 1<=s.length/\s.length<=400 then(match Fa (Aj 32 s) ((Aj 32 s).length+1) 0 [] []with
  |.inl (c,i)=>([],c,(i:Int),false)
  |.inr (ways,way)=>if way≠[]then([],7,((Aj 32 s).length:Int),false)else(ways,0,0,true))else([],1,0,false)
theorem Pe{c:UInt8}:∀(n:Nat)(s:Str),s.length<=n->(Aj c s).length<=s.length+1:=by
 intro n
 induction n with
 |zero=>
  intro s hs;have:s=[]:=zc0 (by omega);subst this;rw[Ib (by simp)];simp
 |succ n ih=>
  intro s hs;rcases AP6 c s with h|⟨x,r,rfl,h⟩
  ·rw[Ib h];simp
  ·rw[Nf h];rw[zc3,zb8]at hs⊢
   have:=ih r (by omega);rw[zb8];omega
theorem Lc{s:Str}(hs:s.length<4611686018427387904):EV s=some (DN s):=by
 unfold EV DN;by_cases h0:s.length=0
 ·rw[show((s.length:Int)==0)=true by simp[h0],cT,zw (by omega)]
 rw[show((s.length:Int)==0)=false from beq_eq_false_iff_ne.2 (by omega),cF];by_cases h1:400<s.length
 ·rw[zp (by omega),cT,zw (by omega)]
 rw[zq (by omega),cF,AO1 (by omega),obs,zr (by omega)];have hc:=Pe (c:=32) s.length s (za8 _);have hl:∀w∈Aj 32 s,w.length<=1000:=fun w hw=>by have:=Ua s.length s (za8 _) w hw;omega
 obtain⟨r,h2,h3⟩:=A6q (W:=Aj 32 s) (by omega) hl ((Aj 32 s).length+1) 0 [] [] (by omega) (by omega) (by simp) (by simp);have h2':Ad (fun(s:(((List Str)×(Int×Int))×((List Wy)×Wy)))=>Dz s.1 s.2.1 s.2.2) ((Aj 32 s,((0:Int),(0:Int))),(([]:List Wy),([]:Wy)))=some r:=h2;rw[h2',obs];cases hz:Fa (Aj 32 s) ((Aj 32 s).length+1) 0 [] []with
 |inl e=>
  obtain⟨c,i⟩:=e;rw[hz]at h3;have h3:r.1.2=((i:Int),c)/\c≠0:=h3;simp only[h3.1];rw[show(c==0)=false by simpa using h3.2,cF,obs];simp only[za9];rw[show(c != 0)=true by simpa[bne]using h3.2,cT]
 |inr v=>
  obtain⟨ways,way⟩:=v;rw[hz]at h3;have h3:r=((Aj 32 s,(((Aj 32 s).length:Int),0)),(ways,way)):=h3;subst h3;simp only;rw[show((0:Int)==0)=true from rfl,cT];by_cases hw:way=[]
  ·subst hw;rw[show decide (((([]:Wy).length:Nat):Int)>0)=false from rfl,cF,obs,zw (by simp)];rfl
  ·have hp:=zd5.2 hw;rw[zp (by omega),cT,obs,zr hw];rfl
theorem IY{s:Str}(hs:s.length<4294967281):EZ s=some (DN s):=by
 unfold EZ DN;have hin:AV (s.length:Int) 1 400=some (decide (1<=s.length/\s.length<=400)):=by
  unfold AV;by_cases h:(s.length:Int)>=1
  ·rw[zp h,cT];congr 1;rw[decide_eq_decide];omega
  ·rw[zq h,cF];congr 1;symm;rw[zq];omega
 rw[hin,obs];by_cases h:1<=s.length/\s.length<=400
 ·rw[zp h,nT,cF,zr h];unfold Jd;rw[A5s hs,obs];have hc:=Pe (c:=32) s.length s (za8 _);have hl:∀w∈Aj 32 s,w.length<=1000:=fun w hw=>by have:=Ua s.length s (za8 _) w hw;omega
  obtain⟨r,h2,h3⟩:=A6D (W:=Aj 32 s) (by omega) hl ((Aj 32 s).length+1) 0 [] [] (by omega) (by omega) (by simp) (by simp);have h2':Ad (fun(s:(((List Str)×(Int×Bool))×((List Wy)×Wy)))=>EL s.1 s.2.1 s.2.2) ((Aj 32 s,((0:Int),false)),(([]:List Wy),([]:Wy)))=some r:=h2;rw[h2',obs];cases hz:Fa (Aj 32 s) ((Aj 32 s).length+1) 0 [] []with
  |inl e=>
   obtain⟨c,i⟩:=e;rw[hz]at h3;have h3:r=.inr ([],c,(i:Int),false):=h3;subst h3;rfl
  |inr v=>
   obtain⟨ways,way⟩:=v;rw[hz]at h3;have h3:r=.inl ((Aj 32 s,(((Aj 32 s).length:Int),decide (way≠[]))),(ways,way)):=h3;subst h3;simp only[Sum.elim_inl];by_cases hw:way=[]
   ·subst hw;rw[show decide (([]:Wy)≠[])=false from rfl,cF,zw (by simp)]
   ·rw[zp hw,cT,zr hw]
 ·rw[zq h,nF,cT,zw h]
end
section
open Go
theorem A8Z{n:Int}(h1:0<=n)(h2:n<256):zi .u8 n=n:=by rw[IntKind.wrap_u8];omega
theorem Y6{n:Nat}(h:n<10):KX [zi .u8 (zi zj ((48:Int)+(n:Int)))]=[UInt8.ofNat (48+n)]:=by
 rw[Ab (by omega) (by omega),A8Z (by omega) (by omega)];unfold KX;simp only[zb9,List.map_nil]
 congr 2
theorem A0m:∀(f n:Nat),n<f->n<9223372036854775808->H9 f (n:Int)=some (Lib.decDigits n)
 |0,n,h,_=>by omega
 |f+1,n,h,h1=>by
  unfold H9 T3;by_cases hn:n<10
  ·rw[zp (by omega),cT,Y6 hn,Lib.decDigits,dif_pos hn]
  ·have e1:Int.tdiv (n:Int) 10=((n/10:Nat):Int):=by rw[zc5 (by omega)];omega
   have e2:Int.tmod (n:Int) 10=((n%10:Nat):Int):=by rw[zb7 (by omega)];omega
   rw[zq (by omega),cF,e1,Ab (by omega) (by omega),A0m f (n/10) (by omega) (by omega),obs,e2,Y6 (by omega),BE (by
    have:=IF (n:=n/10) (by omega);simp;omega),obs]
   conv=>rhs;rw[Lib.decDigits,dif_neg hn]
theorem A02{n:Nat}(h:n<9223372036854775808):Mi (n:Int)=some (Lib.decDigits n):=by
 unfold Mi;exact A0m _ n (by omega) h
end
section
open Go
theorem L2{n:Int}(h0: -9223372036854775808<n)(h1:n<9223372036854775808):Es n=some (Lib.itoa n):=by
 unfold Es Lib.itoa;by_cases hn:n<0
 ·obtain⟨m,rfl⟩:∃m:Nat,n= -(m:Int):=⟨n.natAbs,by omega⟩;rw[zp hn,cT,zr hn,Ab (by omega) (by omega),show(0:Int)- -(m:Int)=(m:Int) by omega,A02 (by omega),obs,BE (by
   have:=IF (n:=m) (by omega);simp;omega),obs]
  rw[Int.natAbs_neg,zf1];rfl
 ·obtain⟨m,rfl⟩:∃m:Nat,n=(m:Int):=⟨n.toNat,by omega⟩;rw[zq hn,cF,zw hn,A02 (by omega),obs,zc8]
end
section
open Go
end
section
open Go
abbrev Bn:=List (List (Int×Int))
def BM(l:Bn):Bool:=l.all FD&&(decide (1<=l.length)&&decide (l.length<=4))
theorem A91(n:Nat):CN (n:Int) 1 4=(decide (1<=n)&&decide (n<=4)):=by
 unfold CN
 congr 1<;>(apply decide_eq_decide.2;omega)
theorem AO8{l:Bn}(hl:Ly l)(hs:∀w∈l,Ly w):Jv l=some (BM l):=by
 unfold Jv BM;have hl':=hl;unfold Ly at hl';have key:=EM (body:=fun s:Bn×Bn×Int×Int=>FC s.1 s.2.1 s.2.2.1 s.2.2.2) (l:=l) (st:=fun k=>(l,l,(l.length:Int),(k:Int))) (p:=FD) (fin:=.inl l) (bad:=fun k=>.inr false)
  (fun k a hk hp=>by
   have:=Dt hk;unfold FC;simp only[Ye hk,cond_true,Af,hk,za0,Au8 (hs a (za3 hk)),hp,Bool.not_true,cond_false,AA (show k<4611686018427387904 by omega)])
  (fun k a hk hp=>by
   unfold FC;simp only[Ye hk,cond_true,Af,hk,za0,Au8 (hs a (za3 hk)),hp,Bool.not_false])
  (by unfold FC;simp only[AO4,cond_false])
 cases hall:l.all FD with
 |true=>
  have h:=key.1 hall;rw[show((0:Nat):Int)=0 from rfl]at h;simp only[h,za0,Sum.elim_inl,Ro,A91,ze5]
 |false=>
  obtain⟨k,_,h⟩:=key.2 hall;rw[show((0:Nat):Int)=0 from rfl]at h;simp only[h,za0,za9,Bool.false_and]
theorem YA{l:Bn}(h:BM l=true):l.length<=4/\∀w∈l,w.length<=12/\3<=w.length/\∀p∈w,-1000<=p.1/\p.1<=1000/\ -1000<=p.2/\p.2<=1000:=by
 unfold BM at h;rw[za2,za2,za5]at h;refine⟨by simpa using h.2.2,fun w hw=> ?_⟩
 have h1:=h.1 w hw;unfold FD at h1;simp only[za2,decide_eq_true_eq,za5]at h1;exact⟨h1.1.2,h1.1.1,fun p hp=>RG.1 (h1.2 p hp)⟩
end
section
open Go
def ptW(k:Nat)(p:P2):List Str:=[if k=0 then [77]else [76],Lib.itoa p.1,Lib.itoa p.2]
def NE(w:List P2)(k:Nat):List Str:=((List.range k).map fun i=>match w[i]? with|some p=>ptW i p|none=>[]).flatten
def AG9(w:List P2):List Str:=NE w w.length++[[90]]
def Fo(l:Bn)(k:Nat):List Str:=((l.take k).map AG9).flatten
def sp(ws:List Str):Str:=(ws.map (· ++[32])).flatten
theorem TN(a b:List Str):sp (a++b)=sp a++sp b:=by unfold sp;simp
theorem Ax5(a:List Str)(z:Str):Lib.join (a++[z]) [32]=sp a++z:=by
 induction a with
 |nil=>rw[List.nil_append,Lib.join_one];rfl
 |cons x a ih=>
  have e:∀(y:Str)(r:List Str),Lib.join (x::y::r) [32]=x++32::Lib.join (y::r) [32]:=by
   intro y r;rw[Lib.join_cons,Lib.join_cons];simp[Lib.joinTail]
  cases a with
  |nil=>
   rw[List.nil_append]at ih;rw[zd8,List.nil_append,e,ih];simp[sp]
  |cons y r=>
   rw[zd8]at ih;rw[zd8,zd8,e,ih];unfold sp;simp
theorem UC{w:List P2}{k:Nat}{p:P2}(h:w[k]? =some p):NE w (k+1)=NE w k++ptW k p:=by
 unfold NE;rw[List.range_succ,List.map_append,List.flatten_append];simp[h]
theorem MO{l:Bn}{k:Nat}{w:List P2}(h:l[k]? =some w):Fo l (k+1)=Fo l k++AG9 w:=by
 unfold Fo;rw[List.take_add_one,h];simp
theorem PE(w:List P2):∀k,(NE w k).length<=3*k
 |0=>by simp[NE]
 |k+1=>by
  cases h:w[k]? with
  |some p=>
   have:=PE w k;rw[UC h,zc3];simp[ptW];omega
  |none=>
   have:=PE w k;have e:NE w (k+1)=NE w k:=by
    unfold NE;rw[List.range_succ,List.map_append,List.flatten_append];simp[h]
   rw[e];omega
theorem A5w(w:List P2):(AG9 w).length<=3*w.length+1:=by
 have:=PE w w.length;unfold AG9;rw[zc3];simp;omega
theorem UG{l:Bn}(h:∀w∈l,w.length<=12):∀k,(Fo l k).length<=37*k
 |0=>by simp[Fo]
 |k+1=>by
  have:=UG h k;cases hk:l[k]? with
  |some w=>
   have h1:=A5w w;have h2:=h w (za3 hk);rw[MO hk,zc3];omega
  |none=>
   unfold Fo at this⊢
   rw[List.take_add_one,hk];simp at this⊢;omega
def SW(ws:List Str):Prop:=∀x∈ws,x.length<=21
theorem SW.append{a b:List Str}(ha:SW a)(hb:SW b):SW (a++b):=fun x hx=>(zb2.1 hx).elim (ha x) (hb x)
theorem A8M{k:Nat}{p:P2}(h: -1000<=p.1/\p.1<=1000/\ -1000<=p.2/\p.2<=1000):SW (ptW k p):=by
 intro x hx;unfold ptW at hx;rcases zc6.1 hx with rfl|hx
 ·split<;>simp
 rcases zc6.1 hx with rfl|hx
 ·exact Ma (by omega) (by omega)
 cases zd1.1 hx
 exact Ma (by omega) (by omega)
theorem W0{w:List P2}(h:∀p∈w,-1000<=p.1/\p.1<=1000/\ -1000<=p.2/\p.2<=1000):∀k,k<=w.length->SW (NE w k)
 |0,_=>fun x hx=>by simp[NE]at hx
 |k+1,hk=>by
  have he:w[k]? =some w[k]:=za1 (by omega);rw[UC he];exact(W0 h k (by omega)).append (A8M (h _ (List.getElem_mem _)))
theorem A54{w:List P2}(h:∀p∈w,-1000<=p.1/\p.1<=1000/\ -1000<=p.2/\p.2<=1000):SW (AG9 w):=
 (W0 h w.length (za8 _)).append (fun x hx=>by cases zd1.1 hx;simp)
theorem AI1{l:Bn}(h:∀w∈l,∀p∈w,-1000<=p.1/\p.1<=1000/\ -1000<=p.2/\p.2<=1000)(k:Nat):SW (Fo l k):=by
 intro x hx;unfold Fo at hx;obtain⟨ws,hws,hx⟩:=List.mem_flatten.1 hx;obtain⟨w,hw,rfl⟩:=zd2.1 hws;exact A54 (h w (List.mem_of_mem_take hw)) x hx
theorem AX0{ws:List Str}(h:SW ws):(sp ws).length<=22*ws.length:=by
 induction ws with
 |nil=>simp[sp]
 |cons x ws ih=>
  have h1:=ih (fun y hy=>h y (ze6 _ hy));have h2:=h x (List.mem_cons_self ..);unfold sp at h1⊢
  rw[zb9,List.flatten_cons,zc3,zc3,zb8];simp only[zb8,zf4];omega
def TV(l:Bn):Str:=Lib.join (Fo l l.length) [32]
def Z6(l:Bn)(k:Nat):Str:=Lib.join (Fo l k) [32]
theorem A6I{l:Bn}{k:Nat}(hk:k<l.length)(h0:k≠0):Z6 l k++[32]=sp (Fo l k):=by
 obtain⟨j,rfl⟩:∃j,k=j+1:=⟨k-1,by omega⟩;have he:l[j]? =some l[j]:=za1 (by omega);unfold Z6;rw[MO he];unfold AG9;rw[<-List.append_assoc,Ax5,TN (Fo l j++NE l[j] l[j].length),List.append_assoc];rfl
section
variable {l:Bn} (hl:l.length<=4) (hw:∀w∈l,w.length<=12/\3<=w.length/\∀p∈w,-1000<=p.1/\p.1<=1000/\ -1000<=p.2/\p.2<=1000)
include hl hw
theorem A7D{j:Nat}(hj:j<l.length){w:List P2}(hjw:l[j]? =some w)(a b:Int):
  Ad (fun(s:(Str×(Bn×(Int×(Int×(List P2×(Int×Int)))))))=>Fn s.1 s.2.1 s.2.2.1 s.2.2.2.1 s.2.2.2.2.1 s.2.2.2.2.2.1 s.2.2.2.2.2.2) (sp (Fo l j),(l,(a,(b,(w,((w.length:Int),(0:Int)))))))=
   some (sp (Fo l j++NE w w.length),(l,(a,b))):=by
 have hin:=hw w (za3 hjw);have hsw:=AI1 (l:=l) (fun w hw'=>(hw w hw').2.2) j;have hwl:=UG (l:=l) (fun w hw'=>(hw w hw').1) j;obtain⟨_,h1,_⟩:=CK (body:=fun(s:(Str×(Bn×(Int×(Int×(List P2×(Int×Int)))))))=>Fn s.1 s.2.1 s.2.2.1 s.2.2.2.1 s.2.2.2.2.1 s.2.2.2.2.2.1 s.2.2.2.2.2.2)
  (fun k (_:Unit)=>(sp (Fo l j++NE w k),l,a,b,w,(w.length:Int),(k:Int))) (fun _=>(sp (Fo l j++NE w w.length),l,a,b)) (fun _ _=>True) w.length (by
   intro k _ hk _;have he:w[k]? =some w[k]:=za1 hk;generalize w[k]=p at he;have hp:=hin.2.2 p (za3 he);have n1:=Ma (n:=p.1) (by omega) (by omega);have n2:=Ma (n:=p.2) (by omega) (by omega);have hsl:=AX0 (hsw.append (W0 hin.2.2 k (by omega)));have hpl:=PE w k;rw[zc3]at hsl;refine⟨(),?_,trivial⟩
   unfold Fn;simp only;rw[zp (by omega),cT,Af,he,obs,UC he];by_cases hk0:k=0
   ·subst hk0;rw[show(((0:Nat):Int)==0)=true from rfl,cT,BE (by simp;omega),obs,obs];simp only[za9];rw[L2 (by omega) (by omega),obs,BE (by simp;omega),obs,L2 (by omega) (by omega),obs,BE (by simp;omega),obs,BE (by simp;omega),obs,BE (by simp;omega),obs,AA (by omega),
     <-List.append_assoc (Fo l j),TN (Fo l j++NE w _)]
    simp[ptW,sp]
   ·rw[show((k:Int)==0)=false by simp;omega,cF,BE (by simp;omega),obs,obs];simp only[za9];rw[L2 (by omega) (by omega),obs,BE (by simp;omega),obs,L2 (by omega) (by omega),obs,BE (by simp;omega),obs,BE (by simp;omega),obs,BE (by simp;omega),obs,AA (by omega),
     <-List.append_assoc (Fo l j),TN (Fo l j++NE w _)]
    simp[ptW,sp,hk0]) (by
   intro _ _;unfold Fn;simp) 0 () (by omega) trivial
 have e0:NE w 0=[]:=by simp[NE]
 rw[e0,ze2]at h1;exact h1
theorem AW8:JA l=some (TV l):=by
 unfold JA;obtain⟨_,h1,_⟩:=CK (body:=fun(s:(Str×(Bn×(Int×Int))))=>FK s.1 s.2.1 s.2.2.1 s.2.2.2)
  (fun k (_:Unit)=>(Z6 l k,l,(l.length:Int),(k:Int))) (fun _=>TV l) (fun _ _=>True) l.length (by
   intro k _ hk _;have he:l[k]? =some l[k]:=za1 hk;generalize l[k]=w at he;have hin:=hw w (za3 he);have hsw:=AI1 (l:=l) (fun w hw'=>(hw w hw').2.2) k;have hwl:=UG (l:=l) (fun w hw'=>(hw w hw').1) k;have hsl:=AX0 hsw;have hsl2:=AX0 (hsw.append (W0 hin.2.2 w.length (za8 _)));have hpl:=PE w w.length;rw[zc3]at hsl2;refine⟨(),?_,trivial⟩
   unfold FK;simp only;rw[zp (by omega),cT,Af,he,obs];by_cases hk0:k=0
   ·subst hk0;rw[show decide (((0:Nat):Int)>0)=false from rfl,cF];have e0:Z6 l 0=sp (Fo l 0):=by simp[Z6,Fo,sp,Lib.join_nil]
    rw[e0];rw[obs];simp only[za9];rw[A7D hl hw hk he,obs];simp only;rw[BE (by simp;omega),obs,AA (by omega)]
    congr 3
    unfold Z6;rw[MO he];unfold AG9;rw[<-List.append_assoc,Ax5]
   ·have hps:=A6I hk hk0;have hlen:=congrArg List.length hps;rw[zc3]at hlen;rw[zp (by omega),cT,BE (by simp at hlen⊢;omega),obs,hps];rw[obs];simp only[za9];rw[A7D hl hw hk he,obs];simp only;rw[BE (by simp;omega),obs,AA (by omega)]
    congr 3
    unfold Z6;rw[MO he];unfold AG9;rw[<-List.append_assoc,Ax5]) (by
   intro _ _;unfold FK;simp[Z6,TV]) 0 () (by omega) trivial
 have e0:Z6 l 0=[]:=by simp[Z6,Fo,Lib.join_nil]
 rw[e0]at h1;have h1':Ad (fun(s:(Str×(Bn×(Int×Int))))=>FK s.1 s.2.1 s.2.2.1 s.2.2.2) (([]:Str),l,(l.length:Int),(0:Int))=_:=h1;rw[h1',obs]
end
def XP(l:Bn):Str×Bool:=if BM l then(if(TV l).length<=400 then(TV l,true)else([],false))else([],false)
theorem AD6{l:Bn}(hl:Ly l)(hs:∀w∈l,Ly w):ID l=some (XP l):=by
 unfold ID XP;rw[AO8 hl hs,obs];cases hg:BM l with
 |false=>rfl
 |true=>
  obtain⟨h1,h2⟩:=YA hg;rw[nT,cF,AW8 h1 h2,obs,zr rfl];by_cases h:(TV l).length<=400
  ·rw[zq (by omega),cF,zr h]
  ·rw[zp (by omega),cT,zw h]
end
section
open Go
theorem A3r{i:Nat}{ways:List Wy}{way:Wy}{p:Pn}{j:Nat}{ways':List Wy}{way':Wy}(h:ptV GN i ways way p=.inr (j,ways',way')):ways'=ways/\way'=way++[p]/\GN p=true:=by
 unfold ptV at h
 split at h
 ·rename_i hg;cases h
  exact⟨rfl,rfl,hg⟩
 ·cases h
theorem Ms{W:List Str}{i:Nat}{ways:List Wy}{way:Wy}{f:Int->Pn}{j:Nat}{ways':List Wy}{way':Wy}(h:one W i ways way f=.inr (j,ways',way')):ways'=ways/\∃p,way'=way++[p]/\GN p=true:=by
 unfold one at h
 split at h
 ·cases h
 ·obtain⟨a,b,c⟩:=A3r h;exact⟨a,_,b,c⟩
theorem Td{W:List Str}{i:Nat}{ways:List Wy}{way:Wy}{f:Int->Int->Pn}{j:Nat}{ways':List Wy}{way':Wy}(h:two W i ways way f=.inr (j,ways',way')):ways'=ways/\∃p,way'=way++[p]/\GN p=true:=by
 unfold two at h
 split at h
 ·cases h
 ·exact Ms h
structure PInv (ways:List Wy) (way:Wy):Prop where
 len:ways.length<=4
 ok:∀w∈ways,FD w=true
 pts:∀p∈way,Dl p=true
 short:way.length<=12
 four:way≠[]->ways.length<4
theorem A48(p:Pn):GN p=Dl p:=by
 unfold GN Dl CN;rw[Bool.eq_iff_iff];simp
theorem A11{ways:List Wy}{way:Wy}{p:Pn}(h:PInv ways way)(h4:ways.length<4)(h12:way.length<12)(hp:GN p=true):PInv ways (way++[p]):=by
 refine⟨h.len,h.ok,fun q hq=> ?_,by rw[zc3,List.length_singleton];omega,fun _=>h4⟩
 rcases zb2.1 hq with hq|hq
 ·exact h.pts q hq
 ·rw[zd1.1 hq,<-A48];exact hp
theorem A6c{W:List Str}{i:Nat}{w:Str}{ways:List Wy}{way:Wy}{j:Nat}{ways':List Wy}{way':Wy}(h:PInv ways way)(hc:Cj W i ways way w=.inr (j,ways',way')):PInv ways' way':=by
 have key:∀(x:CV),(∀j ways' way',x=.inr (j,ways',way')->ways'=ways/\∃p,way'=way++[p]/\GN p=true)->ways.length<4->way.length<12->x=.inr (j,ways',way')->PInv ways' way':=by
  intro x hx h4 h12 he;obtain⟨a,p,b,c⟩:=hx _ _ _ he;rw[a,b];exact A11 h h4 h12 c
 have hlen:=h.short;unfold Cj at hc
 split at hc
 ·split at hc
  ·rename_i hway
   split at hc
   ·cases hc
   ·rename_i h4;have:=h.len;exact key _ (fun _ _ _=>Td) (by omega) (by rw[hway];simp) hc
  ·cases hc
 ·split at hc
  ·split at hc
   ·cases hc
   ·rename_i hne;have h4:=h.four hne
    split at hc
    ·split at hc
     ·cases hc
     ·rename_i h3;cases hc
      refine⟨by rw[zc3,List.length_singleton];omega,fun v hv=> ?_,fun p hp=>(by cases hp),by decide,fun h=>absurd rfl h⟩
      rcases zb2.1 hv with hv|hv
      ·exact h.ok v hv
      ·rw[zd1.1 hv];exact F0.2 ⟨⟨by omega,h.short⟩,h.pts⟩
    ·split at hc
     ·cases hc
     ·rename_i h12;have h12:way.length<12:=by omega
      split at hc
      ·exact key _ (fun _ _ _=>Td) h4 h12 hc
      ·split at hc
       ·exact key _ (fun _ _ _=>Td) h4 h12 hc
       ·split at hc
        ·exact key _ (fun _ _ _=>Ms) h4 h12 hc
        ·split at hc
         ·exact key _ (fun _ _ _=>Ms) h4 h12 hc
         ·split at hc
          ·exact key _ (fun _ _ _=>Ms) h4 h12 hc
          ·exact key _ (fun _ _ _=>Ms) h4 h12 hc
  ·cases hc
theorem Ae3{W:List Str}:∀(n i:Nat)(ways:List Wy)(way:Wy),PInv ways way->∀ways' way',Fa W n i ways way=.inr (ways',way')->PInv ways' way'
 |0,i,ways,way,h,ways',way',he=>by
  rw[Fa]at he;cases he
  exact h
 |n+1,i,ways,way,h,ways',way',he=>by
  rw[Fa]at he
  split at he
  ·cases he;exact h
  ·rename_i w hw;cases hc:Cj W i ways way w with
   |inl e=>rw[hc]at he;cases he
   |inr v=>
    obtain⟨j,a,b⟩:=v;rw[hc]at he;exact Ae3 n j a b (A6c h hc) _ _ he
theorem Ay8{W:List Str}{i:Nat}{w:Str}{ways:List Wy}{way:Wy}{j:Nat}{ways':List Wy}{way':Wy}(hc:Cj W i ways way w=.inr (j,ways',way')):way'≠[]\/1<=ways'.length:=by
 have k2:∀f:Int->Int->Pn,two W (i+1) ways way f=.inr (j,ways',way')->way'≠[]\/1<=ways'.length:=fun f h=>by
  obtain⟨_,p,b,_⟩:=Td h
  left;rw[b];simp
 have k1:∀f:Int->Pn,one W (i+1) ways way f=.inr (j,ways',way')->way'≠[]\/1<=ways'.length:=fun f h=>by
  obtain⟨_,p,b,_⟩:=Ms h
  left;rw[b];simp
 unfold Cj at hc
 repeat' split at hc
 all_goals first
  |exact k2 _ hc
  |exact k1 _ hc
  |(cases hc;right;simp)
  |cases hc
theorem YZ{W:List Str}:∀(n i:Nat)(ways:List Wy)(way:Wy),(way≠[]\/1<=ways.length)->∀ways' way',Fa W n i ways way=.inr (ways',way')->way'≠[]\/1<=ways'.length
 |0,i,ways,way,h,ways',way',he=>by
  rw[Fa]at he;cases he
  exact h
 |n+1,i,ways,way,h,ways',way',he=>by
  rw[Fa]at he
  split at he
  ·cases he;exact h
  ·rename_i w hw;cases hc:Cj W i ways way w with
   |inl e=>rw[hc]at he;cases he
   |inr v=>
    obtain⟨j,a,b⟩:=v;rw[hc]at he;exact YZ n j a b (Ay8 hc) _ _ he
theorem A1q{s:Str}{l:List Wy}{c at_:Int}(h:DN s=(l,c,at_,true)):BM l=true/\c=0/\at_=0:=by
 unfold DN at h
 split at h
 ·split at h
  ·cases h
  ·rename_i ways way hp
   split at h
   ·cases h
   ·rename_i hw;have hw:way=[]:=Classical.byContradiction fun h=>hw h
    have inv:=Ae3 _ _ _ _ (⟨by simp,by simp,by simp,by simp,fun h=>absurd rfl h⟩:PInv [] []) _ _ hp;have h1:1<=ways.length:=by
     have hne:=A4J 32 s;obtain⟨x,r,hx⟩:∃x r,Aj 32 s=x::r:=List.exists_cons_of_ne_nil hne;rw[Fa,hx]at hp;simp only[List.getElem?_cons_zero]at hp;cases hc:Cj (x::r) 0 [] [] x with
     |inl e=>rw[hc]at hp;cases hp
     |inr v=>
      obtain⟨j,a,b⟩:=v;rw[hc]at hp;rcases YZ _ _ _ _ (Ay8 hc) _ _ hp with h|h
      ·exact absurd hw h
      ·exact h
    cases h
    refine⟨?_,rfl,rfl⟩
    unfold BM;rw[za2,za2,decide_eq_true_eq,decide_eq_true_eq];exact⟨za5.2 inv.ok,h1,inv.len⟩
 ·cases h
theorem A3L{W:List Str}{i:Nat}{w:Str}{ways:List Wy}{way:Wy}{c:Int}{j:Nat}(hc:Cj W i ways way w=.inl (c,j)):c≠0:=by
 have kp:∀(a:Nat)(p:Pn),ptV GN a ways way p=.inl (c,j)->c≠0:=fun a p h=>by
  unfold ptV at h
  split at h<;>cases h
  omega
 have k1:∀(a:Nat)(f:Int->Pn),one W a ways way f=.inl (c,j)->c≠0:=fun a f h=>by
  unfold one at h
  split at h
  ·cases h;omega
  ·exact kp _ _ h
 have k2:∀(a:Nat)(f:Int->Int->Pn),two W a ways way f=.inl (c,j)->c≠0:=fun a f h=>by
  unfold two at h
  split at h
  ·cases h;omega
  ·exact k1 _ _ h
 unfold Cj at hc
 repeat' split at hc
 all_goals first
  |exact k2 _ _ hc
  |exact k1 _ _ hc
  |(cases hc;omega)
  |cases hc
theorem XN{W:List Str}:∀(n i:Nat)(ways:List Wy)(way:Wy)(c:Int)(j:Nat),Fa W n i ways way=.inl (c,j)->c≠0
 |0,i,ways,way,c,j,he=>by rw[Fa]at he;cases he
 |n+1,i,ways,way,c,j,he=>by
  rw[Fa]at he
  split at he
  ·cases he
  ·rename_i w hw;cases hc:Cj W i ways way w with
   |inl e=>rw[hc]at he;cases he;exact A3L hc
   |inr v=>
    obtain⟨j',a,b⟩:=v;rw[hc]at he;exact XN n j' a b c j he
theorem A5C{s:Str}{l:List Wy}{c at_:Int}(h:DN s=(l,c,at_,false)):c≠0/\l=[]:=by
 unfold DN at h
 split at h
 ·split at h
  ·rename_i c' i hp;cases h
   exact⟨XN _ _ _ _ _ _ hp,rfl⟩
  ·split at h<;>cases h
   exact⟨by omega,rfl⟩
 ·cases h;exact⟨by omega,rfl⟩
end
section
open Go
end
section
open Go
def mvW(d:P2)(w:List P2):List P2:=w.map fun p=>(p.1+d.1,p.2+d.2)
def A7t(d:P2)(w:List P2):Prop:=FD w=true/\Dl d=true/\(mvW d w).all Dl=true
instance (d:P2) (w:List P2):Decidable (A7t d w):=by unfold A7t;infer_instance
section
variable {l:Bn} {d:P2} (hl:l.length<=1000) (hs:∀w∈l,Ly w)
include hl hs
end
theorem Iq(s:Str):(∃l,DN s=(l,0,0,true)/\BM l=true)\/∃c a,DN s=([],c,a,false)/\c≠0:=by
 have hv:∃w c a ok,DN s=(w,c,a,ok):=⟨_,_,_,_,rfl⟩;obtain⟨w,c,a,ok,e⟩:=hv;cases ok with
 |true=>
  obtain⟨h1,h2,h3⟩:=A1q e;exact .inl ⟨w,by rw[e,h2,h3],h1⟩
 |false=>
  obtain⟨h1,h2⟩:=A5C e;exact .inr ⟨c,a,by rw[e,h2],h1⟩
theorem PS{l:Bn}(h:BM l=true):1<=l.length/\l.length<=4:=by
 unfold BM at h;simp only[za2,decide_eq_true_eq]at h;exact h.2
end
section
open Go
def B:Nat->Int
 |0=>1
 |n+1=>65536*B n
theorem GM:∀n,0<B n
 |0=>by decide
 |n+1=>by have:=GM n;simp only[B];omega
theorem R2:∀m n,B (m+n)=B m*B n
 |0,n=>by simp[B]
 |m+1,n=>by rw[show m+1+n=(m+n)+1 by omega];simp only[B];rw[R2 m n,Int.mul_assoc]
theorem KH{m n:Nat}(h:m<=n):B m<=B n:=by
 induction h with
 |refl=>exact Int.le_refl _
 | @step n h ih=>have:=GM n;simp only[B];omega
def val:List Int->Int
 |[]=>0
 |x::l=>x+65536*val l
def LB(l:List Int):Prop:=∀x∈l,0<=x/\x<65536
theorem LB.nil:LB []:=fun _ h=>absurd h (zf3)
theorem LB.head{x:Int}{l:List Int}(h:LB (x::l)):0<=x/\x<65536:=h x (List.mem_cons_self ..)
theorem LB.tail{x:Int}{l:List Int}(h:LB (x::l)):LB l:=fun y hy=>h y (ze6 _ hy)
theorem LB.cons{x:Int}{l:List Int}(hx:0<=x/\x<65536)(h:LB l):LB (x::l):=fun y hy=>by
 rcases zc6.1 hy with rfl|hy
 ·exact hx
 ·exact h y hy
theorem LB.append{l m:List Int}(h:LB l)(h':LB m):LB (l++m):=fun y hy=>(zb2.1 hy).elim (h y) (h' y)
theorem LB.take{l:List Int}(h:LB l)(n:Nat):LB (l.take n):=fun y hy=>h y (List.mem_of_mem_take hy)
theorem LB.drop{l:List Int}(h:LB l)(n:Nat):LB (l.drop n):=fun y hy=>h y (List.mem_of_mem_drop hy)
theorem LB.get{l:List Int}(h:LB l){k:Nat}{x:Int}(hk:l[k]? =some x):0<=x/\x<65536:=h x (za3 hk)
theorem LB.set{l:List Int}(h:LB l){k:Nat}{x:Int}(hx:0<=x/\x<65536):LB (l.set k x):=fun y hy=>by
 rcases List.mem_or_eq_of_mem_set hy with hy|rfl
 ·exact h y hy
 ·exact hx
theorem LB.zeros(n:Nat):LB (List.replicate n 0):=fun y hy=>by have:=List.eq_of_mem_replicate hy;omega
theorem AU:∀{l:List Int},LB l->0<=val l
 |[],_=>Int.le_refl _
 |x::l,h=>by have:=h.head;have:=AU h.tail;simp only[val];omega
theorem OD:∀{l:List Int},LB l->val l<B l.length
 |[],_=>by decide
 |x::l,h=>by have:=h.head;have:=OD h.tail;simp only[val,zb8,B];omega
theorem RL:∀(l m:List Int),val (l++m)=val l+B l.length*val m
 |[],m=>by simp[val,B]
 |x::l,m=>by
  simp only[zd8,val,zb8,B,RL l m];rw[ze3,Int.mul_assoc];omega
theorem FV:∀n,val (List.replicate n 0)=0
 |0=>rfl
 |n+1=>by simp only[List.replicate_succ,val,FV n];omega
theorem MA(l:List Int)(x:Int):val (l++[x])=val l+B l.length*x:=by rw[RL];simp[val]
theorem UB(l:List Int)(n:Nat)(h:n<=l.length):val l=val (l.take n)+B n*val (l.drop n):=by
 have:=RL (l.take n) (l.drop n);rw[List.take_append_drop,zf2,Nat.min_eq_left h]at this;exact this
theorem Gn:∀{l:List Int}{k:Nat}{x y:Int},l[k]? =some x->val (l.set k y)=val l+B k*(y-x)
 |[],k,x,y,h=>by simp at h
 |a::l,0,x,y,h=>by
  simp at h;subst h;simp only[List.set_cons_zero,val,B];omega
 |a::l,k+1,x,y,h=>by
  simp only[List.getElem?_cons_succ]at h;simp only[List.set_cons_succ,val,B,Gn (y:=y) h];rw[ze3,Int.mul_assoc];omega
def NB(l:List Int):Prop:=∀x,l.getLast?=some x->x≠0
theorem NB.nil:NB []:=fun x h=>by simp at h
theorem NB.tail{x:Int}{l:List Int}(h:NB (x::l)):NB l:=fun y hy=>by
 cases l with
 |nil=>simp at hy
 |cons a t=>exact h y (by rw[List.getLast?_cons_cons];exact hy)
theorem At2:∀{l:List Int},LB l->NB l->l≠[]->B (l.length-1)<=val l
 |[],_,_,h=>absurd rfl h
 |[x],h,hn,_=>by
  have h1:=h.head;have h2:=hn x rfl;simp only[val,zb8,zf4,B];simp[B];omega
 |x::y::l,h,hn,_=>by
  have h1:=h.head;have h2:=At2 h.tail hn.tail (by simp);simp only[zb8,Nat.add_sub_cancel]at h2⊢
  rw[val];simp only[B];omega
theorem AL7{l:List Int}(h:LB l)(hn:NB l)(h0:val l=0):l=[]:=by
 cases l with
 |nil=>rfl
 |cons x l=>
  have h1:=At2 h hn (by simp);have h2:=GM ((x::l).length-1);omega
theorem A0D:∀{l m:List Int},LB l->NB l->LB m->NB m->val l=val m->l=m
 |[],m,_,_,hm,nm,h=>by
  have:val m=0:=by rw[<-h];rfl
  exact(AL7 hm nm this).symm
 |x::l,[],hl,nl,_,_,h=>AL7 hl nl (by rw[h];rfl)
 |x::l,y::m,hl,nl,hm,nm,h=>by
  have h1:=hl.head;have h2:=hm.head;simp only[val]at h;have hx:x=y:=by omega
  have hv:val l=val m:=by omega
  rw[hx,A0D hl.tail nl.tail hm.tail nm.tail hv]
def lim(n:Nat):List Int:=if h:n=0 then []else((n%65536:Nat):Int)::lim (n/65536)
termination_by n
decreasing_by omega
theorem Cu:lim 0=[]:=by unfold lim;simp
theorem AH(n:Nat):LB (lim n):=by
 induction n using Nat.strongRecOn with
 |_ n ih=>
  unfold lim
  split
  ·exact LB.nil
  ·exact LB.cons (by omega) (ih (n/65536) (by omega))
theorem Ar(n:Nat):val (lim n)=n:=by
 induction n using Nat.strongRecOn with
 |_ n ih=>
  unfold lim
  split
  ·rename_i h;rw[h];rfl
  ·simp only[val,ih (n/65536) (by omega)];omega
theorem Jp{n:Nat}:lim n=[]↔n=0:=by
 constructor
 ·intro h;have:=Ar n;rw[h]at this;simp only[val]at this;omega
 ·rintro rfl;exact Cu
theorem Uz(n:Nat):NB (lim n):=by
 induction n using Nat.strongRecOn with
 |_ n ih=>
  unfold lim
  split
  ·exact NB.nil
  ·rename_i hn;intro x hx;by_cases h0:n/65536=0
   ·rw[h0,Cu]at hx;simp at hx;omega
   ·have hne:lim (n/65536)≠[]:=fun h=>h0 (Jp.1 h)
    cases hl:lim (n/65536)with
    |nil=>exact absurd hl hne
    |cons a t=>
     rw[hl,List.getLast?_cons_cons]at hx;exact ih (n/65536) (by omega) x (by rw[hl];exact hx)
theorem A31{l:List Int}(h:LB l)(hn:NB l):l=lim (val l).toNat:=A0D h hn (AH _) (Uz _) (by rw[Ar];have:=AU h;omega)
theorem An{n k:Nat}:(lim n).length<=k↔(n:Int)<B k:=by
 constructor
 ·intro h;have h1:=OD (AH n);rw[Ar]at h1;have:=KH h;omega
 ·intro h;rcases ze4 k (lim n).length with hk|hk
  ·exfalso
   have hne:lim n≠[]:=by intro h0;rw[h0]at hk;simp at hk
   have h1:=At2 (AH n) (Uz n) hne;rw[Ar]at h1;have:=KH (show k<=(lim n).length-1 by omega);omega
  ·exact hk
def Fq:List Int->List Int
 |[]=>[]
 |x::l=>match Fq l with|[]=>if x=0 then []else [x]|m=>x::m
theorem Xy:∀{l:List Int},LB l->LB (Fq l)/\NB (Fq l)/\val (Fq l)=val l
 |[],_=>⟨LB.nil,NB.nil,rfl⟩
 |x::l,h=>by
  obtain⟨h1,h2,h3⟩:=Xy h.tail;simp only[Fq];cases hs:Fq l with
  |nil=>
   rw[hs]at h3;simp only[val]at h3;simp only
   split
   ·rename_i hx;subst hx;exact⟨LB.nil,NB.nil,by simp only[val];omega⟩
   ·rename_i hx;exact⟨LB.cons h.head LB.nil,fun y hy=>by simp at hy;subst hy;exact hx,by simp only[val];omega⟩
  |cons a t=>
   rw[hs]at h1 h2 h3;simp only;exact⟨LB.cons h.head h1,fun y hy=>h2 y (by rw[List.getLast?_cons_cons]at hy;exact hy),by rw[val,h3];rfl⟩
theorem CB{l:List Int}(h:LB l):Fq l=lim (val l).toNat:=by
 obtain⟨h1,h2,h3⟩:=Xy h;rw[A31 h1 h2,h3]
theorem Jg:∀(l:List Int),Fq (l++[0])=Fq l
 |[]=>rfl
 |x::l=>by simp only[zd8,Fq,Jg l]
theorem PH:∀{l:List Int},NB l->Fq l=l
 |[],_=>rfl
 |x::l,h=>by
  simp only[Fq,PH h.tail];cases l with
  |nil=>simp only;rw[zw (h x rfl)]
  |cons a t=>rfl
theorem TK:∀(l:List Int),(Fq l).length<=l.length
 |[]=>za8 _
 |x::l=>by
  have:=TK l;simp only[Fq]
  split
  ·split<;>simp
  ·rename_i m hm;simp only[zb8]at*;omega
end
section
open Go
def Ax(l:List Int):Prop:=l.length<=100000000
theorem A0s{l:List Int}(h:l≠[]):∃m x,l=m++[x]:=⟨l.dropLast,l.getLast h,(List.dropLast_concat_getLast h).symm⟩
theorem A0H{m:List Int}{x:Int}(h:x≠0):NB (m++[x]):=fun y hy=>by
 rw[List.getLast?_append]at hy;simp at hy;subst hy;exact h
theorem A7z{n:Nat}(h:n<=200000000):Al3 n 8 1=true:=by unfold Al3;rw[zp (by unfold Ae;omega),zp (by unfold Ae;omega)];rfl
theorem Hv{l:List Int}(hb:Ax l):CT l=some (Fq l):=by
 have key:∀(n:Nat)(l:List Int),l.length=n->n<=100000000->Ad (fun(s:(List Int))=>K9 s) l=some (Fq l):=by
  intro n
  induction n with
  |zero=>
   intro l hl _;have:l=[]:=zc0 hl;subst this;exact Ak rfl
  |succ n ih=>
   intro l hl hn;obtain⟨m,x,rfl⟩:=A0s (l:=l) (by intro h;subst h;simp at hl);have hm:m.length=n:=by simpa using hl
   have hlen:(((m++[x]).length:Nat):Int)=(n:Int)+1:=by simp[hm]
   have hg:AD (m++[x]) (n:Int)=some x:=by rw[Af,<-hm];simp
   have hstep:K9 (m++[x])=if x=0 then some (Sum.inl m)else some (Sum.inr (m++[x])):=by
    unfold K9;rw[hlen,Ab (by omega) (by omega),show(n:Int)+1-1=(n:Int) by omega,hg,zp (by omega)];simp only[cond_true,za0];by_cases hx:x=0
    ·rw[zr hx,beq_iff_eq.2 hx];have:FT 0 (n:Int) (m++[x]).length=some (0,n):=by unfold FT;simp[hm];omega
     rw[this];simp[<-hm]
    ·rw[zw hx,beq_eq_false_iff_ne.2 hx];rfl
   by_cases hx:x=0
   ·rw[zr hx]at hstep;rw[AP hstep,ih m hm (by omega),hx,Jg]
   ·rw[zw hx]at hstep;rw[Ak hstep,PH (A0H hx)]
 unfold CT;have h:=TK l;unfold Ax at hb;rw[key _ l rfl hb];simp only[za0,A7z (show(Fq l).length<=200000000 by omega),cond_true]
theorem Al2{l:List Int}(hb:Ax l):Jt l=some (Fq l):=by
 unfold Ax at hb;have key:∀(n:Nat),n<=l.length->Fq (l.take n)=Fq l->∃k:Nat,k<=l.length/\l.take k=Fq l/\Ad (fun(s:((List Int)×Int))=>Qb s.1 s.2) (l,(n:Int))=some (l,(k:Int)):=by
  intro n
  induction n with
  |zero=>
   intro _ h;exact⟨0,by omega,by simpa[Fq]using h,Ak rfl⟩
  |succ n ih=>
   intro hn h;have hlt:n<l.length:=by omega
   have hg:AD l (n:Int)=some l[n]:=by rw[Af,za1 hlt]
   have ht:l.take (n+1)=l.take n++[l[n]]:=by rw[List.take_add_one,za1 hlt];rfl
   have hstep:Qb l ((n+1:Nat):Int)=if l[n]=0 then some (Sum.inl (l,(n:Int)))else some (Sum.inr (l,((n+1:Nat):Int))):=by
    unfold Qb;rw[Ab (by omega) (by omega),show((n+1:Nat):Int)-1=(n:Int) by omega,hg,zp (by omega)];simp only[cond_true,za0];by_cases hx:l[n]=0
    ·rw[zr hx,beq_iff_eq.2 hx];rfl
    ·rw[zw hx,beq_eq_false_iff_ne.2 hx];rfl
   by_cases hx:l[n]=0
   ·rw[zr hx]at hstep;obtain⟨k,h1,h2,h3⟩:=ih (by omega) (by rw[<-h,ht,hx,Jg]);exact⟨k,h1,h2,by rw[AP hstep];exact h3⟩
   ·rw[zw hx]at hstep;refine⟨n+1,hn,?_,Ak hstep⟩
    rw[<-h,ht,PH (A0H hx)]
 obtain⟨k,h1,h2,h3⟩:=key l.length (za8 _) (by rw[List.take_length]);unfold Jt;rw[h3];have:FT 0 (k:Int) l.length=some (0,k):=by unfold FT;simp[h1]
 simp only[za0,this,zf5,h2]
theorem Ac1{l:List Int}(hb:Ax l):B0 l=some l:=by
 unfold B0 A3E;cases l with
 |nil=>rfl
 |cons a t=>
  unfold Ax at hb;simp only[Cf,neL,za0,A7z (show(a::t).length<=200000000 by omega),cond_true]
theorem Ax7{l:List Int}(h:Ax l):Ax (Fq l):=by have:=TK l;unfold Ax at*;omega
theorem O5(l:List Int):decide (((l.length:Nat):Int)>0)= !l.isEmpty:=by cases l<;>simp<;>omega
theorem ME(n:Nat):(!(lim n).isEmpty)=decide (n≠0):=by
 cases h:lim n with
 |nil=>rw[Jp.1 h];rfl
 |cons a t=>simp;intro h0;rw[h0,Cu]at h;cases h
theorem IA{l:List Int}(h:LB l)(hb:Ax l)(neg:Bool):Bm neg l=some (lim (val l).toNat,neg&&decide ((val l).toNat≠0)):=by
 unfold Bm;simp only[Al2 hb,za0,Ac1 (Ax7 hb),O5];rw[CB h,ME];cases neg<;>rfl
theorem Gk{l:List Int}(h:LB l)(hb:Ax l)(neg:Bool):BA neg l=some (lim (val l).toNat,neg&&decide ((val l).toNat≠0)):=by
 unfold BA;simp only[Hv hb,za0,O5];rw[CB h,ME];cases neg<;>rfl
def big(z:Int):Bool×List Int:=(decide (z<0),lim z.natAbs)
theorem A0Z{x y:Int}(h:big x=big y):x=y:=by
 unfold big at h;have h1:=congrArg Prod.fst h;have h2:=congrArg Prod.snd h;simp only at h1 h2;have h3:x.natAbs=y.natAbs:=by
  have:=congrArg val h2;rw[Ar,Ar]at this;omega
 by_cases hx:x<0<;>by_cases hy:y<0<;>simp[hx,hy]at h1<;>omega
def GH(b:Bool×List Int):Bool:=(b.2.all fun x=>decide (0<=x)&&decide (x<=65535))&&(match b.2.getLast? with|none=> !b.1|some x=>decide (b.2.length<=40)&&(x != 0))
theorem Ih{b:Bool×List Int}:GH b=true↔∃z:Int,(z.natAbs:Int)<B 40/\b=big z:=by
 obtain⟨neg,l⟩:=b;unfold GH;simp only[za2,za5,decide_eq_true_eq];constructor
 ·rintro⟨h1,h2⟩;have hl:LB l:=fun x hx=>by have:=h1 x hx;omega
  cases hg:l.getLast? with
  |none=>
   rw[hg]at h2;have:l=[]:=List.getLast?_eq_none_iff.1 hg;subst this;have hn:neg=false:=by simpa using h2
   subst hn;exact⟨0,by decide,by unfold big;simp[Cu]⟩
  |some x=>
   rw[hg]at h2;simp only[za2,decide_eq_true_eq,bne_iff_ne]at h2;have hn:NB l:=fun y hy=>by rw[hg]at hy;cases hy;exact h2.2
   have hv:=A31 hl hn;have h0:(val l).toNat≠0:=by
    intro h0;rw[h0,Cu]at hv;rw[hv]at hg;simp at hg
   have hlt:((val l).toNat:Int)<B 40:=An.1 (by rw[<-hv];exact h2.1);refine⟨if neg then-((val l).toNat:Int)else((val l).toNat:Int),?_,?_⟩
   ·cases neg<;>simp<;>omega
   ·unfold big;cases neg
    ·simp only[zc1,if_false];rw[zq (by omega),zf1,<-hv]
    ·simp only[if_true];rw[zp (by omega),Int.natAbs_neg,zf1,<-hv]
 ·rintro⟨z,hz,h⟩;unfold big at h;have hn:neg=decide (z<0):=congrArg Prod.fst h;have hl:l=lim z.natAbs:=congrArg Prod.snd h;subst hl;refine⟨fun x hx=>by have:=AH _ x hx;omega,?_⟩
  cases hg:(lim z.natAbs).getLast? with
  |none=>
   have:lim z.natAbs=[]:=List.getLast?_eq_none_iff.1 hg;have:=Jp.1 this;rw[hn];simp;omega
  |some x=>
   simp only[za2,decide_eq_true_eq,bne_iff_ne];exact⟨An.2 hz,Uz _ x hg⟩
theorem J3{z:Int}(h:(z.natAbs:Int)<B 40):GH (big z)=true:=Ih.2 ⟨z,h,rfl⟩
theorem Af2(a b c:Int):AV a b c=some (decide (b<=a)&&decide (a<=c)):=by
 unfold AV;by_cases h:a>=b<;>simp[h]
theorem A0E(a b c:Int):Dy a b c=some (decide (b<=a)&&decide (a<=c)):=by
 unfold Dy;by_cases h:a>=b<;>simp[h]
theorem HS{k:Nat}{α:Type}{l:List α}{a:α}(h:l[k]? =some a):decide ((k:Int)<(l.length:Int))=true:=by have:=Dt h;simpa using this
theorem P7{α:Type}(l:List α):decide ((l.length:Int)<(l.length:Int))=false:=by simp
theorem Aq5{l:List Int}(hb:Ax l):AL l=some (!(l.all fun x=>decide (0<=x)&&decide (x<=65535))):=by
 unfold AL C4;unfold Ax at hb;have key:=EM (body:=fun(s:((List Int)×(Int×Int)))=>Bc s.1 s.2.1 s.2.2) (l:=l) (st:=fun k=>(l,(l.length:Int),(k:Int))) (p:=fun x=>decide (0<=x)&&decide (x<=65535)) (fin:=.inl ()) (bad:=fun k=>.inr (k:Int))
  (fun k a hk hp=>by
   have:=Dt hk;unfold Bc II;simp only[HS hk,cond_true,Af,hk,za0,Af2,hp,Bool.not_true,cond_false,AA (show k<4611686018427387904 by omega)])
  (fun k a hk hp=>by
   unfold Bc II;simp only[HS hk,cond_true,Af,hk,za0,Af2,hp,Bool.not_false])
  (by unfold Bc;simp only[P7,cond_false])
 cases hall:l.all fun x=>decide (0<=x)&&decide (x<=65535)with
 |true=>
  have h:=key.1 hall;rw[show((0:Nat):Int)=0 from rfl]at h;simp only[h,za0,Sum.elim_inl];rfl
 |false=>
  obtain⟨k,_,h⟩:=key.2 hall;rw[show((0:Nat):Int)=0 from rfl]at h;simp only[h,za0,za9];have:decide ((k:Int)>=0)=true:=by simp
  rw[this];rfl
theorem VB{l:List Int}{x:Int}(h:l.getLast?=some x):l.length≠0/\AD l ((l.length:Int)-1)=some x:=by
 have hne:l≠[]:=by intro h0;subst h0;simp at h
 obtain⟨m,y,rfl⟩:=A0s hne;rw[List.getLast?_append]at h;simp at h;subst h;refine⟨by simp,?_⟩
 have:(((m++[y]).length:Nat):Int)-1=(m.length:Int):=by simp
 rw[this,Af];simp
theorem Ug{b:Bool×List Int}(hb:Ax b.2):I1 b=some (GH b):=by
 obtain⟨neg,l⟩:=b;unfold I1 GH;have hb':=hb;unfold Ax at hb';simp only at hb hb'⊢
 rw[Ab (by omega) (by omega),Aq5 hb];cases hg:l.getLast? with
 |none=>
  have:l=[]:=List.getLast?_eq_none_iff.1 hg;subst this;cases neg<;>rfl
 |some x=>
  obtain⟨h0,h1⟩:=VB hg;have e0:(((l.length:Nat):Int)==0)=false:=beq_eq_false_iff_ne.2 (by omega);have e1:decide (((l.length:Nat):Int)>0)=true:=zp (by omega);by_cases h40:l.length<=40
  ·have e2:decide (((l.length:Nat):Int)>40)=false:=zq (by omega);simp only[e2,e0,e1,cond_false,cond_true,h1,za0,Bool.not_not,zp h40,ze5];by_cases hx:x=0
   ·subst hx;simp
   ·rw[beq_eq_false_iff_ne.2 hx];simp[hx]
  ·have e2:decide (((l.length:Nat):Int)>40)=true:=zp (by omega);simp only[e2,cond_true,zq h40,Bool.false_and,Bool.and_false]
theorem UE{b:Bool×List Int}(hb:Ax b.2):G5 b=some (GH b):=by
 obtain⟨neg,l⟩:=b;unfold G5 GH;have hb':=hb;unfold Ax at hb';simp only at hb hb'⊢
 have key:=EM (body:=fun(s:((Bool×(List Int))×((List Int)×(Int×Int))))=>Ge s.1 s.2.1 s.2.2.1 s.2.2.2) (l:=l) (st:=fun k=>((neg,l),(l,((l.length:Int),(k:Int))))) (p:=fun x=>decide (0<=x)&&decide (x<=65535)) (fin:=.inl (neg,l)) (bad:=fun k=>.inr false)
  (fun k a hk hp=>by
   have:=Dt hk;unfold Ge;simp only[HS hk,cond_true,Af,hk,za0,A0E,hp,Bool.not_true,cond_false,AA (show k<4611686018427387904 by omega)])
  (fun k a hk hp=>by
   unfold Ge;simp only[HS hk,cond_true,Af,hk,za0,A0E,hp,Bool.not_false])
  (by unfold Ge;simp only[P7,cond_false])
 rw[show((0:Nat):Int)=0 from rfl]at key;cases hall:l.all fun x=>decide (0<=x)&&decide (x<=65535)with
 |false=>obtain⟨k,_,h⟩:=key.2 hall;rw[h];rfl
 |true=>
  rw[key.1 hall];simp only[za0,Sum.elim_inl,ze5];rw[Ab (by omega) (by omega)];cases hg:l.getLast? with
  |none=>
   have:l=[]:=List.getLast?_eq_none_iff.1 hg;subst this;rfl
  |some x=>
   obtain⟨h0,h1⟩:=VB hg;have e0:(((l.length:Nat):Int)==0)=false:=beq_eq_false_iff_ne.2 (by omega);simp only[e0,cond_false,h1,za0];by_cases h40:l.length<=40
   ·rw[zp (show((l.length:Nat):Int)<=40 by omega),zp h40];rfl
   ·rw[zq (show ¬((l.length:Nat):Int)<=40 by omega),zq h40];rfl
theorem A3f{l:List (Bool×List Int)}(hl:l.length<=1000)(hb:∀b∈l,Ax b.2):KN l=some (l.all GH):=by
 unfold KN BY Cs;have key:=EM (body:=fun(s:((List (Bool×(List Int)))×(Int×Int)))=>AZ s.1 s.2.1 s.2.2) (l:=l) (st:=fun k=>(l,(l.length:Int),(k:Int))) (p:=GH) (fin:=.inl ()) (bad:=fun k=>.inr (k:Int))
  (fun k a hk hp=>by
   have:=Dt hk;unfold AZ JD;simp only[HS hk,cond_true,Af,hk,za0,Ug (hb a (za3 hk)),hp,Bool.not_true,cond_false,AA (show k<4611686018427387904 by omega)])
  (fun k a hk hp=>by
   unfold AZ JD;simp only[HS hk,cond_true,Af,hk,za0,Ug (hb a (za3 hk)),hp,Bool.not_false])
  (by unfold AZ;simp only[P7,cond_false])
 rw[show((0:Nat):Int)=0 from rfl]at key;cases hall:l.all GH with
 |true=>rw[key.1 hall];rfl
 |false=>
  obtain⟨k,_,h⟩:=key.2 hall;rw[h];simp only[za0,za9];have:decide ((k:Int)>=0)=true:=by simp
  rw[this];rfl
end
section
open Go
def Dh(a b:Int):Int:=if a<b then-1 else if b<a then 1 else 0
theorem Et{a b:Int}(h:a<b):Dh a b= -1:=by unfold Dh;rw[zr h]
theorem Gr{a b:Int}(h:b<a):Dh a b=1:=by unfold Dh;rw[zw (by omega),zr h]
theorem P6(a:Int):Dh a a=0:=by unfold Dh;simp
theorem Cd(a b:Int):(Dh a b= -1/\a<b)\/(Dh a b=1/\b<a)\/(Dh a b=0/\a=b):=by unfold Dh;split<;>(try split)<;>omega
theorem T1(a b:Int):CS a b=some (Dh a b):=by
 unfold CS Gm Dh;by_cases h1:a<b<;>by_cases h2:b<a<;>simp[h1,h2]
theorem AL4{k:Nat}{d:Int}(h:d<= -1):B k*d<= -B k:=by
 have:=zb0 h (ze9 (GM k));omega
theorem A03{l m:List Int}(hl:LB l)(hm:LB m){k:Nat}{x y:Int}(hx:l[k]? =some x)(hy:m[k]? =some y)(hd:l.drop (k+1)=m.drop (k+1)):(x<y->val l<val m)/\(y<x->val m<val l):=by
 have kl:=Dt hx;have km:=Dt hy;have e1:=UB l k (by omega);have e2:=UB m k (by omega);have d1:l.drop k=x::l.drop (k+1):=by rw[zb1 kl];congr 1;rw[za1 kl]at hx;exact zv hx
 have d2:m.drop k=y::m.drop (k+1):=by rw[zb1 km];congr 1;rw[za1 km]at hy;exact zv hy
 rw[d1]at e1;rw[d2,<-hd]at e2;simp only[val]at e1 e2;have t1:=AU (hl.take k);have t2:=AU (hm.take k);have t3:=OD (hl.take k);have t4:=OD (hm.take k);rw[zf2,Nat.min_eq_left (by omega)]at t3 t4;rw[ze3]at e1 e2;constructor
 ·intro h;have:=AL4 (k:=k) (show x-y<= -1 by omega);rw[Int.mul_sub]at this;omega
 ·intro h;have:=AL4 (k:=k) (show y-x<= -1 by omega);rw[Int.mul_sub]at this;omega
theorem WY{a b:Nat}:((lim a).length<(lim b).length->a<b):=by
 intro h;rcases ze4 a b with h1|h1
 ·exact h1
 ·exfalso
  have h2:=(An (n:=a) (k:=(lim a).length)).1 (za8 _);have:=(An (n:=b) (k:=(lim a).length)).2 (by omega);omega
section
variable {l m:List Int} (hl:LB l) (hm:LB m) (hlen:l.length=m.length) (hb:Ax l)
include hl hm hlen hb
theorem AP5:(val l=val m->Ad (fun(s:((List Int)×((List Int)×Int)))=>Bf s.1 s.2.1 s.2.2) (l,(m,(l.length:Int)-1))=some (.inl ()))/\
  (val l≠val m->Ad (fun(s:((List Int)×((List Int)×Int)))=>Bf s.1 s.2.1 s.2.2) (l,(m,(l.length:Int)-1))=some (.inr (Dh (val l) (val m)))):=by
 unfold Ax at hb;have key:∀(n:Nat),n<=l.length->l.drop n=m.drop n->(l=m->Ad (fun(s:((List Int)×((List Int)×Int)))=>Bf s.1 s.2.1 s.2.2) (l,(m,(n:Int)-1))=some (.inl ()))/\(l≠m->Ad (fun(s:((List Int)×((List Int)×Int)))=>Bf s.1 s.2.1 s.2.2) (l,(m,(n:Int)-1))=some (.inr (Dh (val l) (val m)))/\val l≠val m):=by
  intro n
  induction n with
  |zero=>
   intro _ h;simp only[zf5]at h;refine⟨fun _=>Ak rfl,fun hn=>absurd h hn⟩
  |succ n ih=>
   intro hn h;have k1:n<l.length:=by omega
   have k2:n<m.length:=by omega
   have hx:l[n]? =some l[n]:=za1 k1;have hy:m[n]? =some m[n]:=za1 k2;have hs:((n+1:Nat):Int)-1=(n:Int):=by omega
   rw[hs];by_cases he:l[n]=m[n]
   ·have hd:l.drop n=m.drop n:=by rw[zb1 k1,zb1 k2,he,h]
    have hstep:Bf l m (n:Int)=some (.inl (l,(m,(n:Int)-1))):=by
     unfold Bf;rw[zp (show(n:Int)>=0 by omega),Af,Af,hx,hy,Ab (by omega) (by omega)];simp only[cond_true,za0,he,bne_self_eq_false,cond_false]
    obtain⟨i1,i2⟩:=ih (by omega) hd;exact⟨fun hh=>by rw[AP hstep];exact i1 hh,fun hh=>by rw[AP hstep];exact i2 hh⟩
   ·obtain⟨c1,c2⟩:=A03 hl hm hx hy h;have hne:l≠m:=fun hh=>he (by subst hh;rfl)
    have hc:Dh l[n] m[n]=Dh (val l) (val m):=by
     rcases Int.lt_or_gt_of_ne he with h1|h1
     ·rw[Et h1,Et (c1 h1)]
     ·rw[Gr h1,Gr (c2 h1)]
    have hstep:Bf l m (n:Int)=some (.inr (.inr (Dh (val l) (val m)))):=by
     unfold Bf;rw[zp (show(n:Int)>=0 by omega),Af,Af,hx,hy];have hb:(l[n] != m[n])=true:=by simpa using he
     simp only[cond_true,za0,hb,T1,hc]
    refine⟨fun hh=>absurd hh hne,fun _=>⟨Ak hstep,?_⟩⟩
    rcases Int.lt_or_gt_of_ne he with h1|h1
    ·have:=c1 h1;omega
    ·have:=c2 h1;omega
 obtain⟨h1,h2⟩:=key l.length (za8 _) (by rw[List.drop_length,hlen,List.drop_length]);constructor
 ·intro hv;by_cases he:l=m
  ·exact h1 he
  ·exact absurd hv (h2 he).2
 ·intro hv;exact(h2 fun he=>hv (by rw[he])).1
theorem AY2:(val l=val m->Ad (fun(s:((List Int)×((List Int)×Int)))=>DG s.1 s.2.1 s.2.2) (l,(m,(l.length:Int)-1))=some (.inl ()))/\
  (val l≠val m->Ad (fun(s:((List Int)×((List Int)×Int)))=>DG s.1 s.2.1 s.2.2) (l,(m,(l.length:Int)-1))=some (.inr (Dh (val l) (val m)))):=by
 unfold Ax at hb;have key:∀(n:Nat),n<=l.length->l.drop n=m.drop n->(l=m->Ad (fun(s:((List Int)×((List Int)×Int)))=>DG s.1 s.2.1 s.2.2) (l,(m,(n:Int)-1))=some (.inl ()))/\(l≠m->Ad (fun(s:((List Int)×((List Int)×Int)))=>DG s.1 s.2.1 s.2.2) (l,(m,(n:Int)-1))=some (.inr (Dh (val l) (val m)))/\val l≠val m):=by
  intro n
  induction n with
  |zero=>
   intro _ h;simp only[zf5]at h;refine⟨fun _=>Ak rfl,fun hn=>absurd h hn⟩
  |succ n ih=>
   intro hn h;have k1:n<l.length:=by omega
   have k2:n<m.length:=by omega
   have hx:l[n]? =some l[n]:=za1 k1;have hy:m[n]? =some m[n]:=za1 k2;have hs:((n+1:Nat):Int)-1=(n:Int):=by omega
   rw[hs];by_cases he:l[n]=m[n]
   ·have hd:l.drop n=m.drop n:=by rw[zb1 k1,zb1 k2,he,h]
    have hstep:DG l m (n:Int)=some (.inl (l,(m,(n:Int)-1))):=by
     unfold DG;rw[zp (show(n:Int)>=0 by omega),Af,Af,hx,hy,Ab (by omega) (by omega)];simp only[cond_true,za0,he];rw[zq (Int.lt_irrefl _)];rfl
    obtain⟨i1,i2⟩:=ih (by omega) hd;exact⟨fun hh=>by rw[AP hstep];exact i1 hh,fun hh=>by rw[AP hstep];exact i2 hh⟩
   ·obtain⟨c1,c2⟩:=A03 hl hm hx hy h;have hne:l≠m:=fun hh=>he (by subst hh;rfl)
    have hstep:DG l m (n:Int)=some (.inr (.inr (Dh (val l) (val m)))):=by
     unfold DG;rw[zp (show(n:Int)>=0 by omega),Af,Af,hx,hy];simp only[cond_true,za0];rcases Int.lt_or_gt_of_ne he with h1|h1
     ·rw[zp h1,Et (c1 h1)];rfl
     ·rw[zq (by omega),zp h1,Gr (c2 h1)];rfl
    refine⟨fun hh=>absurd hh hne,fun _=>⟨Ak hstep,?_⟩⟩
    rcases Int.lt_or_gt_of_ne he with h1|h1
    ·have:=c1 h1;omega
    ·have:=c2 h1;omega
 obtain⟨h1,h2⟩:=key l.length (za8 _) (by rw[List.drop_length,hlen,List.drop_length]);constructor
 ·intro hv;by_cases he:l=m
  ·exact h1 he
  ·exact absurd hv (h2 he).2
 ·intro hv;exact(h2 fun he=>hv (by rw[he])).1
end
theorem Hk{a b:Nat}(ha:Ax (lim a))(hb:Ax (lim b)):B3 (lim a) (lim b)=some (Dh a b):=by
 unfold B3;have ha':=ha;have hb':=hb;unfold Ax at ha' hb';by_cases h:(lim a).length=(lim b).length
 ·have e:((((lim a).length:Nat):Int) != (((lim b).length:Nat):Int))=false:=by simp[h]
  rw[e,Ab (by omega) (by omega)];simp only[cond_false];obtain⟨h1,h2⟩:=AP5 (AH a) (AH b) h ha;rw[Ar,Ar]at h1 h2;by_cases hv:(a:Int)=b
  ·rw[h1 hv,hv,P6];rfl
  ·rw[h2 hv];rfl
 ·have e:((((lim a).length:Nat):Int) != (((lim b).length:Nat):Int))=true:=by simp;omega
  rw[e];simp only[cond_true,T1,za0];rcases Nat.lt_or_gt_of_ne h with h1|h1
  ·have:=WY h1;rw[Et (by omega),Et (by omega)]
  ·have:=WY h1;rw[Gr (by omega),Gr (by omega)]
theorem Qh{a b:Nat}(ha:Ax (lim a))(hb:Ax (lim b)):CA (lim a) (lim b)=some (Dh a b):=by
 unfold CA;have ha':=ha;have hb':=hb;unfold Ax at ha' hb';by_cases h:(lim a).length=(lim b).length
 ·have e:((((lim a).length:Nat):Int) != (((lim b).length:Nat):Int))=false:=by simp[h]
  rw[e,Ab (by omega) (by omega)];simp only[cond_false];obtain⟨h1,h2⟩:=AY2 (AH a) (AH b) h ha;rw[Ar,Ar]at h1 h2;by_cases hv:(a:Int)=b
  ·rw[h1 hv,hv,P6];rfl
  ·rw[h2 hv];rfl
 ·have e:((((lim a).length:Nat):Int) != (((lim b).length:Nat):Int))=true:=by simp;omega
  rw[e];simp only[cond_true];rcases Nat.lt_or_gt_of_ne h with h1|h1
  ·have:=WY h1;rw[zp (by omega),Et (by omega)];rfl
  ·have:=WY h1;rw[zq (by omega),Gr (by omega)];rfl
def dg(l:List Int)(k:Nat):Int:=l.getD k 0
theorem GA{l:List Int}{k:Nat}{x:Int}(h:l[k]? =some x):dg l k=x:=by unfold dg;rw[zb4,h];rfl
theorem Jh{l:List Int}{k:Nat}(h:l.length<=k):dg l k=0:=by unfold dg;rw[zb4,ze8 h];rfl
theorem Bb{l:List Int}(h:LB l)(k:Nat):0<=dg l k/\dg l k<65536:=by
 rcases ze4 k l.length with hk|hk
 ·rw[GA (za1 hk)];exact h _ (List.getElem_mem _)
 ·rw[Jh hk];omega
theorem A3(l:List Int)(k:Nat):val (l.take (k+1))=val (l.take k)+B k*dg l k:=by
 rcases ze4 k l.length with hk|hk
 ·have he:=za1 hk;rw[List.take_add_one,he,GA he,Option.toList_some,MA,zf2,Nat.min_eq_left (by omega)]
 ·rw[Jh hk,zc4 (by omega),zc4 hk];omega
theorem LZ{l:List Int}(k:Nat):DX l (k:Int)=some (dg l k):=by
 unfold DX;rcases ze4 k l.length with hk|hk
 ·rw[zp (by omega),Af,za1 hk,GA (za1 hk)];rfl
 ·rw[zq (by omega),Jh hk];rfl
theorem AK0{l:List Int}{x:Int}(h:l.length<=100000000):CZ 8 1 l [x]=some (l++[x]):=D2 (by simp[Ae];omega) (by simp[Ae];omega)
theorem Aq6{a b:List Int}(ha:LB a)(hb:LB b)(na:a.length<=10000000)(nb:b.length<=10000000):
  ∃r,Hl a b=some r/\LB r/\val r=val a+val b/\r.length<=max a.length b.length+1/\(r.length<=max a.length b.length\/B (max a.length b.length)<=val a+val b):=by
 unfold Hl;obtain⟨r,h1,h2⟩:=Gi (f:=fun(s:((List Int)×((List Int)×((List Int)×(Int×Int)))))=>Ea s.1 s.2.1 s.2.2.1 s.2.2.2.1 s.2.2.2.2)
  (I:=fun s=>∃(k:Nat)(out:List Int)(c:Int),s=(out,(a,(b,(c,(k:Int)))))/\out.length=k/\k<=max a.length b.length+1/\LB out/\(c=0\/c=1)/\(k=max a.length b.length+1->c=0/\B (max a.length b.length)<=val a+val b)/\val out+B k*c=val (a.take k)+val (b.take k))
  (R:=fun r=>LB r/\val r=val a+val b/\r.length<=max a.length b.length+1/\(r.length<=max a.length b.length\/B (max a.length b.length)<=val a+val b)) (fun s=>max a.length b.length+2-s.1.length) (by
   rintro s ⟨k,out,c,rfl,h1,h2,h3,h4,h4',h5⟩;simp only;have da:=Bb ha k;have db:=Bb hb k;have go:k<max a.length b.length\/c=1->∃c',Ea out a b c (k:Int)=some (.inl (out++[(dg a k+dg b k+c)%65536],(a,(b,(c',((k+1:Nat):Int))))))/\c'=(dg a k+dg b k+c)/65536:=by
    intro hgo;refine⟨_,?_,rfl⟩
    have hkk:k<=max a.length b.length:=by rcases hgo with h|h<;>omega
    unfold Ea;have hcond:(bif decide ((k:Int)<((a.length:Nat):Int))then some (Sum.inr (α:=(List Int×List Int×List Int×Int×Int)⊕List Int) (out,(a,(b,(c,(k:Int))))))else bif decide ((k:Int)<((b.length:Nat):Int))then some (Sum.inr (out,(a,(b,(c,(k:Int))))))else bif decide (c>0)then some (Sum.inr (out,(a,(b,(c,(k:Int))))))else some (Sum.inl (Sum.inr out)))=some (Sum.inr (out,(a,(b,(c,(k:Int)))))):=by
     by_cases c1:(k:Int)<(a.length:Int)
     ·rw[zp c1];rfl
     ·by_cases c2:(k:Int)<(b.length:Int)
      ·rw[zq c1,zp c2];rfl
      ·have:c>0:=by rcases hgo with h|h<;>omega
       rw[zq c1,zq c2,zp this];rfl
    rw[hcond];simp only[za0,za9,LZ];rw[Ab (n:=dg a k+dg b k) (by omega) (by omega),Ab (n:=dg a k+dg b k+c) (by omega) (by omega),zb7 (by omega),zc5 (by omega),Ab (by omega) (by omega),AK0 (by omega),AA (by omega)];rfl
   by_cases hgo:k<max a.length b.length\/c=1
   ·obtain⟨c',e1,e2⟩:=go hgo
    clear go
    have hkk:k<=max a.length b.length:=by
     rcases hgo with h|h
     ·omega
     ·rcases ze4 (max a.length b.length) k with h6|h6
      ·have:=h4' (by omega);omega
      ·exact h6
    refine .inl ⟨_,e1,⟨k+1,_,c',rfl,by simp[h1],by omega,h3.append (LB.cons (by omega) LB.nil),by omega,?_,?_⟩,by simp;omega⟩
    ·intro hk;have:k=max a.length b.length:=by omega
     rw[Jh (by omega),Jh (by omega)]at e2;refine⟨by omega,?_⟩
     have hc1:c=1:=by omega
     rw[hc1,zc4 (by omega),zc4 (by omega),this]at h5;have:=AU h3;omega
    ·rw[MA,h1,A3,A3];have:B (k+1)*c'=B k*(65536*c'):=by simp only[B];rw[Int.mul_comm 65536 (B k),Int.mul_assoc]
     rw[this];have hq:(dg a k+dg b k+c)%65536+65536*c'=dg a k+dg b k+c:=by omega
     have:B k*((dg a k+dg b k+c)%65536)+B k*(65536*c')=B k*dg a k+B k*dg b k+B k*c:=by rw[<-ze3,hq,ze3,ze3]
     omega
   ·clear go
    have hc:c=0:=by omega
    have hk:max a.length b.length<=k:=by omega
    subst hc;refine .inr ⟨out,?_,h3,?_,by omega,?_⟩
    ·unfold Ea;rw[zq (by omega),zq (by omega)];rfl
    ·rw[zc4 (by omega),zc4 (by omega)]at h5;omega
    ·rcases ze4 (max a.length b.length) k with h6|h6
     ·exact .inr (h4' (by omega)).2
     ·left;omega) ([],(a,(b,(0,0)))) ⟨0,[],0,rfl,rfl,by omega,LB.nil,.inl rfl,by omega,by simp[val,B]⟩
 exact⟨r,by rw[h1];rfl,h2⟩
theorem AO3{a b:List Int}(ha:LB a)(hb:LB b)(na:a.length<=10000000)(nb:b.length<=10000000):
  ∃r,Jx a b=some r/\LB r/\val r=val a+val b/\r.length<=max a.length b.length+1:=by
 unfold Jx;have hM:A5l [((a.length:Nat):Int),((b.length:Nat):Int)]=((max a.length b.length:Nat):Int):=by simp only[A5l,List.foldl];split<;>omega
 obtain⟨r,h1,h2⟩:=Gi (f:=fun(s:((List Int)×((List Int)×((List Int)×(Int×Int)))))=>FA s.1 s.2.1 s.2.2.1 s.2.2.2.1 s.2.2.2.2)
  (I:=fun s=>∃(k:Nat)(out:List Int)(c:Int),s=(out,(a,(b,(c,(k:Int)))))/\out.length=k/\k<=max a.length b.length+1/\LB out/\(c=0\/c=1)/\(k=max a.length b.length+1->c=0)/\val out+B k*c=val (a.take k)+val (b.take k))
  (R:=fun r=>LB r/\val r=val a+val b/\r.length<=max a.length b.length+1) (fun s=>max a.length b.length+2-s.1.length) (by
   rintro s ⟨k,out,c,rfl,h1,h2,h3,h4,h4',h5⟩;simp only;have da:=Bb ha k;have db:=Bb hb k;have go:k<max a.length b.length\/c=1->∃c',FA out a b c (k:Int)=some (.inl (out++[(dg a k+dg b k+c)%65536],(a,(b,(c',((k+1:Nat):Int))))))/\c'=(dg a k+dg b k+c)/65536:=by
    intro hgo;refine⟨_,?_,rfl⟩
    have hkk:k<=max a.length b.length:=by rcases hgo with h|h<;>omega
    unfold FA;rw[hM];have hcond:(bif decide ((k:Int)<((max a.length b.length:Nat):Int))then some (Sum.inr (α:=(List Int×List Int×List Int×Int×Int)⊕List Int) (out,(a,(b,(c,(k:Int))))))else bif decide (c>0)then some (Sum.inr (out,(a,(b,(c,(k:Int))))))else some (Sum.inl (Sum.inr out)))=some (Sum.inr (out,(a,(b,(c,(k:Int)))))):=by
     by_cases c1:(k:Int)<((max a.length b.length:Nat):Int)
     ·rw[zp c1];rfl
     ·have:c>0:=by rcases hgo with h|h<;>omega
      rw[zq c1,zp this];rfl
    rw[hcond];simp only[za0,za9];have s1:(bif decide ((k:Int)<((a.length:Nat):Int))then(AD a (k:Int)).bind fun x3=>some (Sum.inr (α:=(List Int×List Int×List Int×Int×Int)⊕List Int) (out,(a,(b,(zi zj (c+x3),(k:Int))))))else some (Sum.inr (out,(a,(b,(c,(k:Int)))))))=some (Sum.inr (out,(a,(b,(c+dg a k,(k:Int)))))):=by
     rcases ze4 k a.length with hk|hk
     ·rw[zp (by omega),Af,za1 hk,<-GA (za1 hk)];simp only[cond_true,za0];rw[Ab (by omega) (by omega)]
     ·rw[zq (by omega),Jh hk];simp
    rw[s1];simp only[za0,za9];have s2:(bif decide ((k:Int)<((b.length:Nat):Int))then(AD b (k:Int)).bind fun x3=>some (Sum.inr (α:=(List Int×List Int×List Int×Int×Int)⊕List Int) (out,(a,(b,(zi zj (c+dg a k+x3),(k:Int))))))else some (Sum.inr (out,(a,(b,(c+dg a k,(k:Int)))))))=some (Sum.inr (out,(a,(b,(dg a k+dg b k+c,(k:Int)))))):=by
     rcases ze4 k b.length with hk|hk
     ·rw[zp (by omega),Af,za1 hk,<-GA (za1 hk)];simp only[cond_true,za0];rw[Ab (by omega) (by omega),show c+dg a k+dg b k=dg a k+dg b k+c by omega]
     ·rw[zq (by omega),Jh hk,show dg a k+0+c=c+dg a k by omega];rfl
    rw[s2];simp only[za0,za9];rw[zb7 (by omega),zc5 (by omega),Ab (by omega) (by omega),AK0 (by omega),AA (by omega)];rfl
   by_cases hgo:k<max a.length b.length\/c=1
   ·obtain⟨c',e1,e2⟩:=go hgo
    clear go
    have hkk:k<=max a.length b.length:=by
     rcases hgo with h|h
     ·omega
     ·rcases ze4 (max a.length b.length) k with h6|h6
      ·have:=h4' (by omega);omega
      ·exact h6
    refine .inl ⟨_,e1,⟨k+1,_,c',rfl,by simp[h1],by omega,h3.append (LB.cons (by omega) LB.nil),by omega,?_,?_⟩,by simp;omega⟩
    ·intro hk;have:k=max a.length b.length:=by omega
     rw[Jh (by omega),Jh (by omega)]at e2;omega
    ·rw[MA,h1,A3,A3];have:B (k+1)*c'=B k*(65536*c'):=by simp only[B];rw[Int.mul_comm 65536 (B k),Int.mul_assoc]
     rw[this];have hq:(dg a k+dg b k+c)%65536+65536*c'=dg a k+dg b k+c:=by omega
     have:B k*((dg a k+dg b k+c)%65536)+B k*(65536*c')=B k*dg a k+B k*dg b k+B k*c:=by rw[<-ze3,hq,ze3,ze3]
     omega
   ·clear go
    have hc:c=0:=by omega
    have hk:max a.length b.length<=k:=by omega
    subst hc;refine .inr ⟨out,?_,h3,?_,by omega⟩
    ·unfold FA;rw[hM,zq (by omega)];rfl
    ·rw[zc4 (by omega),zc4 (by omega)]at h5;omega) ([],(a,(b,(0,0)))) ⟨0,[],0,rfl,rfl,by omega,LB.nil,.inl rfl,by omega,by simp[val,B]⟩
 exact⟨r,by rw[h1];rfl,h2⟩
end
section
open Go
theorem Wm{v:Int}(h: -65536<=v/\v<65536):0<=(if v<0 then v+65536 else v)/\(if v<0 then v+65536 else v)<65536/\(if v<0 then v+65536 else v)-65536*(if v<0 then 1 else 0)=v/\((if v<0 then 1 else 0:Int)=0\/(if v<0 then 1 else 0:Int)=1):=by
 split<;>omega
theorem Yi{k:Nat}{A Bv out d br br' v x y:Int}(h1:out-B k*br=A-Bv)(h2:d-65536*br'=v)(h3:v=x-y-br):out+B k*d-B (k+1)*br'=A+B k*x-(Bv+B k*y):=by
 have e1:B (k+1)*br'=B k*(65536*br'):=by simp only[B];rw[Int.mul_comm 65536 (B k),Int.mul_assoc]
 have e2:B k*d-B k*(65536*br')=B k*x-B k*y-B k*br:=by rw[<-Int.mul_sub,h2,h3,Int.mul_sub,Int.mul_sub]
 rw[e1];omega
theorem R9{a b:List Int}(ha:LB a)(hb:LB b)(hlen:b.length<=a.length)(na:a.length<=10000000)(hle:val b<=val a):
  FP a b=some (lim (val a-val b).toNat):=by
 unfold FP;obtain⟨r,h1,h2⟩:=Gi (f:=fun(s:((List Int)×((List Int)×((List Int)×(Int×(Int×Int))))))=>FR s.1 s.2.1 s.2.2.1 s.2.2.2.1 s.2.2.2.2.1 s.2.2.2.2.2)
  (I:=fun s=>∃(k:Nat)(out:List Int)(c:Int),s=(out,(a,(b,(c,((a.length:Int),(k:Int))))))/\out.length=k/\k<=a.length/\LB out/\(c=0\/c=1)/\val out-B k*c=val (a.take k)-val (b.take k))
  (R:=fun r=>LB r/\val r=val a-val b/\r.length=a.length) (fun s=>a.length+1-s.1.length) (by
   rintro s ⟨k,out,c,rfl,h1,h2,h3,h4,h5⟩;simp only;by_cases hk:k<a.length
   ·have da:=Bb ha k;have db:=Bb hb k;have hg:=za1 hk;have hx:a[k]=dg a k:=(GA hg).symm;have hv:=Wm (v:=dg a k-dg b k-c) (by omega);refine .inl ⟨(out++[if dg a k-dg b k-c<0 then dg a k-dg b k-c+65536 else dg a k-dg b k-c],(a,(b,((if dg a k-dg b k-c<0 then 1 else 0),((a.length:Int),((k+1:Nat):Int)))))),?_,⟨k+1,_,_,rfl,by simp[h1],by omega,h3.append (LB.cons (by omega) LB.nil),hv.2.2.2,?_⟩,by simp;omega⟩
    ·unfold FR;rw[zp (by omega),Af,hg];simp only[cond_true,za0,LZ,hx];rw[Ab (n:=dg a k-dg b k) (by omega) (by omega),Ab (n:=dg a k-dg b k-c) (by omega) (by omega),Ab (n:=dg a k-dg b k-c+65536) (by omega) (by omega),AA (by omega)];by_cases hneg:dg a k-dg b k-c<0
     ·rw[zp hneg,zr hneg,zr hneg];simp only[cond_true];rw[AK0 (by omega)];rfl
     ·rw[zq hneg,zw hneg,zw hneg];simp only[cond_false];rw[AK0 (by omega)];rfl
    ·rw[MA,h1,A3,A3];exact Yi h5 hv.2.2.1 rfl
   ·have hk':k=a.length:=by omega
    refine .inr ⟨out,?_,h3,?_,by omega⟩
    ·unfold FR;rw[zq (by omega)];rfl
    ·rw[zc4 (by omega),zc4 (by omega)]at h5;have b1:=OD h3;have b2:=AU h3;rw[h1]at b1;rcases h4 with h4|h4
     ·subst h4;omega
     ·subst h4;omega) ([],(a,(b,(0,((a.length:Int),0))))) ⟨0,[],0,rfl,rfl,by omega,LB.nil,.inl rfl,by simp[val,B]⟩
 rw[h1];simp only[za0];rw[Hv (by unfold Ax;omega)];simp only[za0];rw[CB h2.1,h2.2.1]
theorem Zn{a b:List Int}(ha:LB a)(hb:LB b)(hlen:b.length<=a.length)(na:a.length<=10000000)(hle:val b<=val a):
  Hq a b=some (lim (val a-val b).toNat):=by
 unfold Hq;rw[Ac1 (by unfold Ax;omega)];simp only[za0];obtain⟨r,h1,h2⟩:=Gi (f:=fun(s:((List Int)×((List Int)×(Int×(Int×Int)))))=>Hm s.1 s.2.1 s.2.2.1 s.2.2.2.1 s.2.2.2.2)
  (I:=fun s=>∃(k:Nat)(out:List Int)(c:Int),s=(out,(b,(c,((a.length:Int),(k:Int)))))/\out.length=a.length/\k<=a.length/\LB (out.take k)/\out.drop k=a.drop k/\(c=0\/c=1)/\val (out.take k)-B k*c=val (a.take k)-val (b.take k))
  (R:=fun r=>LB r/\val r=val a-val b/\r.length=a.length) (fun s=>(a.length+1-s.2.2.2.2).toNat) (by
   rintro s ⟨k,out,c,rfl,h1,h2,h3,h3',h4,h5⟩;simp only;by_cases hk:k<a.length
   ·have da:=Bb ha k;have db:=Bb hb k;have hg:=za1 hk;have hx:a[k]=dg a k:=(GA hg).symm;have hko:k<out.length:=by omega
    have hox:out[k]? =some (dg a k):=by
     have e1:out.drop k=out[k]::out.drop (k+1):=zb1 hko;have e2:a.drop k=a[k]::a.drop (k+1):=zb1 hk;rw[za1 hko];rw[e1,e2]at h3';rw[(List.cons.inj h3').1,hx]
    have hv:=Wm (v:=dg a k-dg b k-c) (by omega);have hset:∀y:Int,(out.set k y)[k]? =some y:=fun y=>by rw[List.getElem?_set_self hko]
    have hdg:dg (out.set k (if dg a k-dg b k-c<0 then dg a k-dg b k-c+65536 else dg a k-dg b k-c)) k=(if dg a k-dg b k-c<0 then dg a k-dg b k-c+65536 else dg a k-dg b k-c):=GA (hset _);have htk:(out.set k (if dg a k-dg b k-c<0 then dg a k-dg b k-c+65536 else dg a k-dg b k-c)).take k=out.take k:=List.take_set_of_le (za8 _);refine .inl ⟨(out.set k (if dg a k-dg b k-c<0 then dg a k-dg b k-c+65536 else dg a k-dg b k-c),(b,((if dg a k-dg b k-c<0 then 1 else 0),((a.length:Int),((k+1:Nat):Int))))),?_,⟨k+1,_,_,rfl,by simp[h1],by omega,?_,?_,hv.2.2.2,?_⟩,by simp;omega⟩
    ·unfold Hm AY;have i1:A2 (k:Int) out.length=some k:=AW hko;have i2:∀y:Int,A2 (k:Int) (out.set k y).length=some k:=fun y=>by rw[List.length_set];exact i1
     rw[zp (by omega)];simp only[cond_true,i1,za0,hox,i2,hset,Af];have hw1:=AA (show k<4611686018427387904 by omega);rw[Ab (n:=dg a k-c) (by omega) (by omega)];have s1:(bif decide ((k:Int)<((b.length:Nat):Int))then(b[k]?).bind fun x6=>some (Sum.inr (α:=(List Int×List Int×Int×Int×Int)⊕List Int) ((out.set k (dg a k-c)).set k (zi zj (dg a k-c-x6)),(b,((k:Int),((a.length:Int),(k:Int))))))else some (Sum.inr (out.set k (dg a k-c),(b,((k:Int),((a.length:Int),(k:Int)))))))=some (Sum.inr (out.set k (dg a k-dg b k-c),(b,((k:Int),((a.length:Int),(k:Int)))))):=by
      rcases ze4 k b.length with hkb|hkb
      ·rw[zp (by omega),za1 hkb,<-GA (za1 hkb)];simp only[cond_true,za0,List.set_set];rw[Ab (by omega) (by omega),show dg a k-c-dg b k=dg a k-dg b k-c by omega]
      ·rw[zq (by omega),Jh hkb,show dg a k-0-c=dg a k-c by omega];rfl
     rw[s1];simp only[za0,za9,i2,hset,List.set_set,hw1];by_cases hneg:dg a k-dg b k-c<0
     ·rw[zp hneg,zr hneg,zr hneg,Ab (by omega) (by omega)];rfl
     ·rw[zq hneg,zw hneg,zw hneg];rfl
    ·rw[List.take_add_one,htk,hset];exact h3.append (LB.cons (by omega) LB.nil)
    ·rw[List.drop_set_of_lt (by omega)];have:out.drop (k+1)=(out.drop k).drop 1:=by rw[List.drop_drop]
     rw[this,h3',List.drop_drop]
    ·rw[A3 (out.set k _),A3 a,A3 b,htk,hdg];exact Yi h5 hv.2.2.1 rfl
   ·have hk':k=a.length:=by omega
    refine .inr ⟨out,?_,?_,?_,h1⟩
    ·unfold Hm;rw[zq (by omega)];rfl
    ·rw[zc4 (by omega)]at h3;exact h3
    ·rw[zc4 (by omega)]at h3 h5;rw[zc4 (by omega),zc4 (by omega)]at h5;have b1:=OD h3;have b2:=AU h3;rw[h1,<-hk']at b1;rcases h4 with h4|h4
     ·subst h4;omega
     ·subst h4;omega) (a,(b,(0,((a.length:Int),0)))) ⟨0,a,0,rfl,rfl,by omega,by rw[List.take_zero];exact LB.nil,rfl,.inl rfl,by simp[val,B]⟩
 rw[h1];simp only[za0];rw[Al2 (by unfold Ax;omega)];simp only[za0];rw[CB h2.1,h2.2.1]
end
section
open Go
theorem G9{n k:Nat}(h:(n:Int)<B k)(hk:k<=1000000):(lim n).length<=1000000:=ze7 (An.2 h) hk
theorem Ac8{x y:Int}{k:Nat}(hk:k<=1000000)(hx:(x.natAbs:Int)<B k)(hy:(y.natAbs:Int)<B k):Jb (big x) (big y)=some (big (x+y)):=by
 have lx:=G9 hx hk;have ly:=G9 hy hk;unfold Jb big;simp only;by_cases hs:decide (x<0)=decide (y<0)
 ·rw[hs,beq_self_eq_true];obtain⟨r,e1,e2,e3,e4⟩:=AO3 (AH x.natAbs) (AH y.natAbs) (by omega) (by omega);rw[Ar,Ar]at e3;simp only[cond_true,e1,za0];rw[IA e2 (by unfold Ax;omega)];simp only[za0];have hv:(val r).toNat=(x+y).natAbs:=by
   by_cases h1:x<0
   ·have:y<0:=by simpa[h1]using hs
    omega
   ·have:¬y<0:=by simpa[h1]using hs
    omega
  rw[hv]
  congr 2
  by_cases h2:y<0
  ·have h1:x<0:=by simpa[h2]using hs
   rw[zp h2,zp (show x+y<0 by omega),zp (show(x+y).natAbs≠0 by omega)];rfl
  ·have h1:¬x<0:=by simpa[h2]using hs
   rw[zq h2,zq (show ¬x+y<0 by omega)];rfl
 ·have hb:(decide (x<0)==decide (y<0))=false:=by simpa using hs
  rw[hb];simp only[cond_false];rw[Hk (by unfold Ax;omega) (by unfold Ax;omega)];simp only[za0];have hxy:(x<0/\¬y<0)\/(¬x<0/\y<0):=by
   by_cases h1:x<0<;>by_cases h2:y<0<;>simp[h1,h2]at hs⊢
  rcases ze4 x.natAbs y.natAbs with hlt|hge
  ·rw[Et (by omega),zq (by omega)];simp only[cond_false];have hl:(lim x.natAbs).length<=(lim y.natAbs).length:=An.2 (by have:=An.1 (za8 (lim y.natAbs).length);omega);rw[Zn (AH _) (AH _) hl (by omega) (by rw[Ar,Ar];omega)];simp only[za0,Ar];have e:((y.natAbs:Int)-(x.natAbs:Int)).toNat=(x+y).natAbs:=by omega
   rw[e,IA (AH _) (by
    have:(lim (x+y).natAbs).length<=(lim y.natAbs).length:=An.2 (by have:=An.1 (za8 (lim y.natAbs).length);omega);unfold Ax;omega)]
   simp only[za0,Ar,zc8]
   congr 2
   by_cases h2:y<0
   ·rw[zp h2,zp (show x+y<0 by omega),zp (show(x+y).natAbs≠0 by omega)];rfl
   ·rw[zq h2,zq (show ¬x+y<0 by omega)];rfl
  ·have hc:Dh (x.natAbs:Int) (y.natAbs:Int)>=0:=by unfold Dh;rw[zw (by omega)];split<;>omega
   rw[zp hc];simp only[cond_true];have hl:(lim y.natAbs).length<=(lim x.natAbs).length:=An.2 (by have:=An.1 (za8 (lim x.natAbs).length);omega);rw[Zn (AH _) (AH _) hl (by omega) (by rw[Ar,Ar];omega)];simp only[za0,Ar];have e:((x.natAbs:Int)-(y.natAbs:Int)).toNat=(x+y).natAbs:=by omega
   rw[e,IA (AH _) (by
    have:(lim (x+y).natAbs).length<=(lim x.natAbs).length:=An.2 (by have:=An.1 (za8 (lim x.natAbs).length);omega);unfold Ax;omega)]
   simp only[za0,Ar,zc8]
   congr 2
   by_cases h2:x<0
   ·rw[zp h2];by_cases h3:x+y<0
    ·rw[zp h3,zp (show(x+y).natAbs≠0 by omega)];rfl
    ·rw[zq h3,zq (show ¬(x+y).natAbs≠0 by omega)];rfl
   ·rw[zq h2,zq (show ¬x+y<0 by omega)];rfl
theorem Ra{o x y c:Int}(ho:0<=o/\o<65536)(hx:0<=x/\x<65536)(hy:0<=y/\y<65536)(hc:0<=c/\c<65536):
  (0<=x*y/\x*y<=4294836225)/\0<=(o+x*y+c)/65536/\(o+x*y+c)/65536<65536/\0<=(o+x*y+c)%65536/\(o+x*y+c)%65536<65536/\(o+x*y+c)%65536+65536*((o+x*y+c)/65536)=o+x*y+c:=by
 have h1:0<=x*y:=zf6 hx.1 hy.1;have h2:x*y<=65535*65535:=Int.le_trans (zb0 (show y<=65535 by omega) hx.1) (za7 (show x<=65535 by omega) (by omega));omega
theorem AI2{out:List Int}{p:Nat}{o d c c' t V:Int}(ho:out[p]? =some o)(hd:d+65536*c'=o+t+c)(hV:val out+B p*c=V):val (out.set p d)+B (p+1)*c'=V+B p*t:=by
 rw[Gn ho];have e1:B (p+1)*c'=B p*(65536*c'):=by simp only[B];rw[Int.mul_comm 65536 (B p),Int.mul_assoc]
 have e2:B p*d+B p*(65536*c')=B p*o+B p*t+B p*c:=by rw[<-ze3,hd,ze3,ze3]
 rw[e1,Int.mul_sub];omega
theorem Am{l:List Int}{k:Nat}(h:k<l.length):l[k]? =some (dg l k):=by rw[za1 h,GA (za1 h)]
theorem Ch{l:List Int}{k j:Nat}{x:Int}(h:k≠j):dg (l.set k x) j=dg l j:=by
 unfold dg;rw[zb4,zb4,List.getElem?_set_ne h]
structure Row (out0 out:List Int) (i k:Nat) (c x:Int) (b:List Int):Prop where
 len:out.length=out0.length
 lb:LB out
 hi:∀j,i+k<=j->dg out j=dg out0 j
 c0:0<=c
 c1:c<65536
 v:val out+B (i+k)*c=val out0+B i*(x*val (b.take k))
theorem Row.start{out0:List Int}(h:LB out0)(i:Nat)(x:Int)(b:List Int):Row out0 out0 i 0 0 x b:=⟨rfl,h,fun _ _=>rfl,by omega,by omega,by simp[val]⟩
theorem Row.next{out0 out:List Int}{i k:Nat}{c x:Int}{b:List Int}(h:Row out0 out i k c x b)(hb:LB b)(hx:0<=x/\x<65536)(hk:i+k<out.length):
  Row out0 (out.set (i+k) ((dg out (i+k)+x*dg b k+c)%65536)) i (k+1) ((dg out (i+k)+x*dg b k+c)/65536) x b:=by
 have hs:=Ra (Bb h.lb (i+k)) hx (Bb hb k) ⟨h.c0,h.c1⟩;refine⟨by rw[List.length_set];exact h.len,h.lb.set ⟨hs.2.2.2.1,hs.2.2.2.2.1⟩,fun j hj=>by rw[Ch (by omega)];exact h.hi j (by omega),hs.2.1,hs.2.2.1,?_⟩
 have:=AI2 (Am hk) hs.2.2.2.2.2 h.v;rw[show i+(k+1)=i+k+1 by omega,this,A3,ze3,ze3];have:B (i+k)*(x*dg b k)=B i*(x*(B k*dg b k)):=by rw[R2];grind
 omega
theorem A16{a0 a1 a2:Bool×List Int}{out0:List Int}{i:Nat}{x:Int}(hx:0<=x/\x<65536)(h0:LB out0)(hb:LB a1.2)(hlen:i+a1.2.length<=out0.length)(ho:out0.length<=10000000)(s7:List Int)(s8 s9:Int):
  ∃out c,Ad (fun(s:((Bool×(List Int))×((Bool×(List Int))×((Bool×(List Int))×((List Int)×(Int×(Int×(Int×((List Int)×(Int×(Int×((List Int)×(Int×Int)))))))))))))=>Gh s.1 s.2.1 s.2.2.1 s.2.2.2.1 s.2.2.2.2.1 s.2.2.2.2.2.1 s.2.2.2.2.2.2.1 s.2.2.2.2.2.2.2.1 s.2.2.2.2.2.2.2.2.1 s.2.2.2.2.2.2.2.2.2.1 s.2.2.2.2.2.2.2.2.2.2.1 s.2.2.2.2.2.2.2.2.2.2.2.1 s.2.2.2.2.2.2.2.2.2.2.2.2) ((a0.1,a0.2),((a1.1,a1.2),((a2.1,a2.2),(out0,((i:Int),(x,((0:Int),(s7,(s8,(s9,(a1.2,((((List.length a1.2):Nat):Int),(0:Int)))))))))))))=
   some ((a0.1,a0.2),((a1.1,a1.2),((a2.1,a2.2),(out,((i:Int),(c,(s7,(s8,s9))))))))/\Row out0 out i a1.2.length c x a1.2:=by
 obtain⟨⟨out,c⟩,h1,h2⟩:=CK (body:=fun(s:((Bool×(List Int))×((Bool×(List Int))×((Bool×(List Int))×((List Int)×(Int×(Int×(Int×((List Int)×(Int×(Int×((List Int)×(Int×Int)))))))))))))=>Gh s.1 s.2.1 s.2.2.1 s.2.2.2.1 s.2.2.2.2.1 s.2.2.2.2.2.1 s.2.2.2.2.2.2.1 s.2.2.2.2.2.2.2.1 s.2.2.2.2.2.2.2.2.1 s.2.2.2.2.2.2.2.2.2.1 s.2.2.2.2.2.2.2.2.2.2.1 s.2.2.2.2.2.2.2.2.2.2.2.1 s.2.2.2.2.2.2.2.2.2.2.2.2)
  (st:=fun k (b:List Int×Int)=>((a0.1,a0.2),((a1.1,a1.2),((a2.1,a2.2),(b.1,((i:Int),(x,(b.2,(s7,(s8,(s9,(a1.2,((((List.length a1.2):Nat):Int),(k:Int))))))))))))))
  (fin:=fun b=>((a0.1,a0.2),((a1.1,a1.2),((a2.1,a2.2),(b.1,((i:Int),(b.2,(s7,(s8,s9)))))))))
  (I:=fun k b=>Row out0 b.1 i k b.2 x a1.2) (e:=a1.2.length)
  (by
   rintro k ⟨out,c⟩ hk hI;simp only at hI;have hl:=hI.len;have hp:i+k<out.length:=by omega
   have hs:=Ra (Bb hI.lb (i+k)) hx (Bb hb k) ⟨hI.c0,hI.c1⟩;have dl:=Bb hI.lb (i+k);have c0:=hI.c0;have c1:=hI.c1;refine⟨(_,_),?_,hI.next hb hx hp⟩
   unfold Gh AY
   dsimp only
   have i1:A2 ((i:Int)+(k:Int)) out.length=some (i+k):=by rw[show(i:Int)+(k:Int)=((i+k:Nat):Int) by omega];exact AW hp
   rw[zp (by omega),Ab (n:=(i:Int)+(k:Int)) (by omega) (by omega)];simp only[cond_true,Af,Am hk,za0,i1,Am hp];rw[Ab (n:=x*dg a1.2 k) (by omega) (by omega),Ab (n:=dg out (i+k)+x*dg a1.2 k) (by omega) (by omega),Ab (n:=c+(dg out (i+k)+x*dg a1.2 k)) (by omega) (by omega),show c+(dg out (i+k)+x*dg a1.2 k)=dg out (i+k)+x*dg a1.2 k+c by omega,
    zb7 (by omega),zc5 (by omega),Ab (n:=(dg out (i+k)+x*dg a1.2 k+c)/65536) (by omega) (by omega),AA (by omega)])
  (by
   rintro⟨out,c⟩ _;unfold Gh
   dsimp only
   rw[zq (by omega)];rfl) 0 (out0,0) (by omega) (Row.start h0 i x _)
 exact⟨out,c,h1,h2⟩
theorem Ee{x y:Int}{k:Nat}(hk:k<=100000)(hx:(x.natAbs:Int)<B k)(hy:(y.natAbs:Int)<B k):∃r,BK (big x) (big y)=some r/\(r.2,r.1)=big (x*y):=by
 have lx:=ze7 (An.2 hx) hk;have ly:=ze7 (An.2 hy) hk;unfold BK;generalize ha:lim x.natAbs=a at lx;generalize hb':lim y.natAbs=b at ly;have la:LB a:=ha▸AH _;have lb:LB b:=hb'▸AH _;have e1:(big x).2=a:=ha;have e2:(big y).2=b:=hb';rw[e1,e2,Ab (by omega) (by omega),show((a.length:Nat):Int)+((b.length:Nat):Int)=((a.length+b.length:Nat):Int) by omega,IR (by unfold Ae;omega) (by unfold Ae;omega)];simp only[za0]
 obtain⟨out,h1,h2⟩:=CK (body:=fun(s:((Bool×(List Int))×((Bool×(List Int))×((Bool×(List Int))×((List Int)×((List Int)×(Int×Int)))))))=>Iy s.1 s.2.1 s.2.2.1 s.2.2.2.1 s.2.2.2.2.1 s.2.2.2.2.2.1 s.2.2.2.2.2.2)
  (st:=fun i (o:List Int)=>(((big x).1,a),(((big y).1,b),((false,([]:List Int)),(o,(a,(((a.length:Nat):Int),(i:Int))))))))
  (fin:=fun o=>(((big x).1,a),(((big y).1,b),((false,([]:List Int)),o))))
  (I:=fun i o=>o.length=a.length+b.length/\LB o/\(∀j,i+b.length<=j->dg o j=0)/\val o=val (a.take i)*val b) (e:=a.length)
  (by
   rintro i o hi ⟨h1,h2,h3,h4⟩;have hd:=Bb la i;obtain⟨o1,c,q1,q2⟩:=A16 (a0:=((big x).1,a)) (a1:=((big y).1,b)) (a2:=(false,[])) hd h2 lb (show i+b.length<=o.length by omega) (show o.length<=10000000 by omega) a ((a.length:Nat):Int) (i:Int);simp only at q1 q2;have hl1:=q2.len;have hp:i+b.length<o1.length:=by omega
   have hz:dg o1 (i+b.length)=0:=by rw[q2.hi _ (za8 _),h3 _ (by omega)]
   have c0:=q2.c0;have c1:=q2.c1;refine⟨o1.set (i+b.length) c,?_,by rw[List.length_set];omega,q2.lb.set ⟨c0,c1⟩,fun j hj=> ?_,?_⟩
   ·unfold Iy AY
    dsimp only
    rw[zp (by omega),Af,Am hi];simp only[cond_true,za0];rw[q1];simp only[za0];have i1:A2 ((i:Int)+((b.length:Nat):Int)) o1.length=some (i+b.length):=by rw[show(i:Int)+((b.length:Nat):Int)=((i+b.length:Nat):Int) by omega];exact AW hp
    rw[Ab (n:=(i:Int)+((b.length:Nat):Int)) (by omega) (by omega),i1];simp only[za0,Am hp,hz];rw[Ab (n:=0+c) (by omega) (by omega),AA (by omega),Int.zero_add]
   ·rw[Ch (by omega),q2.hi j (by omega),h3 j (by omega)]
   ·rw[Gn (Am hp),hz,Int.sub_zero];have hv:=q2.v;rw[List.take_length]at hv;rw[A3,Int.add_mul,<-h4];have:B i*dg a i*val b=B i*(dg a i*val b):=Int.mul_assoc ..
    omega)
  (by
   rintro o _;unfold Iy
   dsimp only
   rw[zq (by omega)];rfl) 0 (List.replicate (a.length+b.length) 0) (by omega) ⟨by simp,LB.zeros _,fun j _=>by
    unfold dg;rw[zb4,List.getElem?_replicate];split<;>rfl,by rw[FV];simp[val]⟩
 rw[show((0:Nat):Int)=0 from rfl]at h1;rw[h1];obtain⟨g1,g2,g3,g4⟩:=h2;rw[List.take_length]at g4;simp only[za0];rw[IA g2 (by unfold Ax;omega)];simp only[za0];refine⟨_,rfl,?_⟩
 have hv:(val out).toNat=(x*y).natAbs:=by rw[g4,<-ha,<-hb',Ar,Ar,Int.natAbs_mul];omega
 rw[hv];unfold big
 congr 1
 by_cases hx0:x=0
 ·subst hx0;simp
 ·by_cases hy0:y=0
  ·subst hy0;simp
  ·have hne:(x*y).natAbs≠0:=by
    rw[Int.natAbs_mul];intro h;rcases Nat.mul_eq_zero.1 h with h|h<;>omega
   rw[zp hne];by_cases h1:x<0
   ·by_cases h2:y<0
    ·have:=Int.mul_pos_of_neg_of_neg h1 h2;rw[zp h1,zp h2,zq (by omega)];rfl
    ·have:=Int.mul_neg_of_neg_of_pos h1 (show 0<y by omega);rw[zp h1,zq h2,zp (by omega)];rfl
   ·by_cases h2:y<0
    ·have:=Int.mul_neg_of_pos_of_neg (show 0<x by omega) h2;rw[zq h1,zp h2,zp (by omega)];rfl
    ·have:=Int.mul_pos (show 0<x by omega) (show 0<y by omega);rw[zq h1,zq h2,zq (by omega)];rfl
end
section
open Go
theorem A1s{out0 b:List Int}{i:Nat}{x:Int}(hx:0<=x/\x<65536)(h0:LB out0)(hb:LB b)(hlen:i+b.length<out0.length)(hz:∀j,i+b.length<=j->dg out0 j=0)(ho:out0.length<=10000000)(s6:List Int)(s7 s8:Int):
  ∃out,Ad (fun(s:((List Int)×((List Int)×(Int×(Int×(Int×(Int×((List Int)×(Int×Int)))))))))=>D4 s.1 s.2.1 s.2.2.1 s.2.2.2.1 s.2.2.2.2.1 s.2.2.2.2.2.1 s.2.2.2.2.2.2.1 s.2.2.2.2.2.2.2.1 s.2.2.2.2.2.2.2.2) (out0,(b,((i:Int),(x,((0:Int),((0:Int),(s6,(s7,s8))))))))=some (out,(b,(s6,(s7,s8))))/\
   out.length=out0.length/\LB out/\(∀j,i+1+b.length<=j->dg out j=0)/\val out=val out0+B i*(x*val b):=by
 obtain⟨r,h1,out,rfl,h2⟩:=Gi (f:=fun(s:((List Int)×((List Int)×(Int×(Int×(Int×(Int×((List Int)×(Int×Int)))))))))=>D4 s.1 s.2.1 s.2.2.1 s.2.2.2.1 s.2.2.2.2.1 s.2.2.2.2.2.1 s.2.2.2.2.2.2.1 s.2.2.2.2.2.2.2.1 s.2.2.2.2.2.2.2.2)
  (I:=fun s=>∃(k:Nat)(out:List Int)(c:Int),s=(out,(b,((i:Int),(x,(c,((k:Int),(s6,(s7,s8))))))))/\k<=b.length+1/\Row out0 out i k c x b/\(k=b.length+1->c=0))
  (R:=fun r=>∃out,r=(out,(b,(s6,(s7,s8))))/\out.length=out0.length/\LB out/\(∀j,i+1+b.length<=j->dg out j=0)/\val out=val out0+B i*(x*val b)) (fun s=>(b.length+2-s.2.2.2.2.2.1).toNat) (by
   rintro s ⟨k,out,c,rfl,hk,hR,hc⟩;simp only;have hl:=hR.len;have c0:=hR.c0;have c1:=hR.c1;by_cases hgo:k<b.length\/c>0
   ·have hkb:k<=b.length:=by
     rcases hgo with h|h
     ·omega
     ·rcases ze4 b.length k with h6|h6
      ·have:=hc (by omega);omega
      ·exact h6
    have hp:i+k<out.length:=by omega
    have hs:=Ra (Bb hR.lb (i+k)) hx (Bb hb k) ⟨c0,c1⟩;have dl:=Bb hR.lb (i+k);refine .inl ⟨(out.set (i+k) ((dg out (i+k)+x*dg b k+c)%65536),(b,((i:Int),(x,((dg out (i+k)+x*dg b k+c)/65536,(((k+1:Nat):Int),(s6,(s7,s8)))))))),?_,⟨k+1,_,_,rfl,by omega,hR.next hb hx hp,fun he=> ?_⟩,by simp only;omega⟩
    ·unfold D4 AY;have hcond:(bif decide ((k:Int)<((b.length:Nat):Int))then some (Sum.inr (α:=(List Int×List Int×Int×Int×Int×Int×List Int×Int×Int)⊕(List Int×List Int×List Int×Int×Int)) (out,(b,((i:Int),(x,(c,((k:Int),(s6,(s7,s8)))))))))else bif decide (c>0)then some (Sum.inr (out,(b,((i:Int),(x,(c,((k:Int),(s6,(s7,s8)))))))))else some (Sum.inl (Sum.inr (out,(b,(s6,(s7,s8)))))))=some (Sum.inr (out,(b,((i:Int),(x,(c,((k:Int),(s6,(s7,s8))))))))):=by
      by_cases g1:(k:Int)<(b.length:Int)
      ·rw[zp g1];rfl
      ·have:c>0:=by rcases hgo with h|h<;>omega
       rw[zq g1,zp this];rfl
     rw[hcond];have i1:A2 ((i:Int)+(k:Int)) out.length=some (i+k):=by rw[show(i:Int)+(k:Int)=((i+k:Nat):Int) by omega];exact AW hp
     simp only[za0,za9];rw[Ab (n:=(i:Int)+(k:Int)) (by omega) (by omega),i1];simp only[za0,Am hp,LZ];rw[Ab (n:=x*dg b k) (by omega) (by omega),Ab (n:=dg out (i+k)+x*dg b k) (by omega) (by omega),Ab (n:=dg out (i+k)+x*dg b k+c) (by omega) (by omega),
      zb7 (by omega),zc5 (by omega),Ab (n:=(dg out (i+k)+x*dg b k+c)/65536) (by omega) (by omega),AA (by omega)]
    ·have hkb':k=b.length:=by omega
     have z1:dg b k=0:=Jh (by omega);have z2:dg out (i+k)=0:=by rw[hR.hi _ (za8 _),hz _ (by omega)]
     rw[z1,z2,Int.mul_zero];omega
   ·have hkb:b.length<=k:=by omega
    have hcz:c=0:=by omega
    subst hcz;refine .inr ⟨_,?_,out,rfl,hl,hR.lb,fun j hj=> ?_,?_⟩
    ·unfold D4;rw[zq (by omega),zq (by omega)];rfl
    ·rw[hR.hi j (by omega),hz j (by omega)]
    ·have:=hR.v;rw[zc4 hkb]at this;omega) (out0,(b,((i:Int),(x,((0:Int),((0:Int),(s6,(s7,s8)))))))) ⟨0,out0,0,rfl,by omega,Row.start h0 i x b,by omega⟩
 exact⟨out,h1,h2⟩
theorem Ao5{a b:List Int}(ha:LB a)(hb:LB b)(na:a.length<=100000)(nb:b.length<=100000):Hc a b=some (lim (val a*val b).toNat):=by
 unfold Hc;rw[Ab (n:=((a.length:Nat):Int)+((b.length:Nat):Int)) (by omega) (by omega),Ab (by omega) (by omega),show((a.length:Nat):Int)+((b.length:Nat):Int)+1=((a.length+b.length+1:Nat):Int) by omega,IR (by unfold Ae;omega) (by unfold Ae;omega)];simp only[za0];obtain⟨out,h1,h2⟩:=CK (body:=fun(s:((List Int)×((List Int)×((List Int)×(Int×Int)))))=>FS s.1 s.2.1 s.2.2.1 s.2.2.2.1 s.2.2.2.2)
  (st:=fun i (o:List Int)=>(o,(b,(a,(((a.length:Nat):Int),(i:Int)))))) (fin:=fun o=>o)
  (I:=fun i o=>o.length=a.length+b.length+1/\LB o/\(∀j,i+b.length<=j->dg o j=0)/\val o=val (a.take i)*val b) (e:=a.length)
  (by
   rintro i o hi ⟨h1,h2,h3,h4⟩;have hd:=Bb ha i;obtain⟨o1,q1,q2,q3,q4,q5⟩:=A1s hd h2 hb (show i+b.length<o.length by omega) h3 (by omega) a ((a.length:Nat):Int) (i:Int);refine⟨o1,?_,by omega,q3,q4,?_⟩
   ·unfold FS
    dsimp only
    rw[zp (by omega),Af,Am hi];simp only[cond_true,za0];rw[q1];simp only[za0];rw[AA (by omega)]
   ·rw[q5,h4,A3,Int.add_mul];have:B i*dg a i*val b=B i*(dg a i*val b):=Int.mul_assoc ..
    omega)
  (by
   rintro o _;unfold FS
   dsimp only
   rw[zq (by omega)];rfl) 0 (List.replicate (a.length+b.length+1) 0) (by omega) ⟨by simp,LB.zeros _,fun j _=>by
    unfold dg;rw[zb4,List.getElem?_replicate];split<;>rfl,by rw[FV];simp[val]⟩
 rw[show((0:Nat):Int)=0 from rfl]at h1;rw[h1];obtain⟨g1,g2,g3,g4⟩:=h2;rw[List.take_length]at g4;simp only[za0];rw[Hv (by unfold Ax;omega)];simp only[za0];rw[CB g2,g4]
theorem A4D{x y:Int}(h:(x*y).natAbs≠0):(!(decide (x<0)==decide (y<0)))=decide (x*y<0):=by
 have hx:x≠0:=by rintro rfl;simp at h
 have hy:y≠0:=by rintro rfl;simp at h
 by_cases h1:x<0
 ·by_cases h2:y<0
  ·have:=Int.mul_pos_of_neg_of_neg h1 h2;rw[zp h1,zp h2,zq (by omega)];rfl
  ·have:=Int.mul_neg_of_neg_of_pos h1 (show 0<y by omega);rw[zp h1,zq h2,zp (by omega)];rfl
 ·by_cases h2:y<0
  ·have:=Int.mul_neg_of_pos_of_neg (show 0<x by omega) h2;rw[zq h1,zp h2,zp (by omega)];rfl
  ·have:=Int.mul_pos (show 0<x by omega) (show 0<y by omega);rw[zq h1,zq h2,zq (by omega)];rfl
theorem Z8(x y:Int):((!(decide (x<0)==decide (y<0)))&&decide ((x*y).natAbs≠0),lim (x*y).natAbs)=big (x*y):=by
 unfold big
 congr 1
 by_cases h:(x*y).natAbs≠0
 ·rw[A4D h,zp h,Bool.and_true]
 ·rw[zq h,Bool.and_false,zq (by omega)]
theorem JK{x y:Int}{k:Nat}(hk:k<=100000)(hx:(x.natAbs:Int)<B k)(hy:(y.natAbs:Int)<B k):DB (big x) (big y)=some (big (x*y)):=by
 have lx:=ze7 (An.2 hx) hk;have ly:=ze7 (An.2 hy) hk;unfold DB;rw[show(big x).2=lim x.natAbs from rfl,show(big y).2=lim y.natAbs from rfl,Ao5 (AH _) (AH _) lx ly];have e:(val (lim x.natAbs)*val (lim y.natAbs)).toNat=(x*y).natAbs:=by rw[Ar,Ar,Int.natAbs_mul];omega
 have hl:(lim (x*y).natAbs).length<=k+k:=by
  rw[An,Int.natAbs_mul,R2];have h1:=GM k;have:((x.natAbs*y.natAbs:Nat):Int)=(x.natAbs:Int)*(y.natAbs:Int):=by simp
  rw[this];exact Int.lt_of_le_of_lt (za7 (ze9 hx) (by omega)) (Int.mul_lt_mul_of_pos_left hy h1)
 simp only[za0];rw[e,Gk (AH _) (by unfold Ax;omega)];simp only[za0,Ar,zc8];rw[<-Z8];rfl
end
section
open Go
theorem Ci(l:List Int)(h:Nat):val l=val (l.take h)+B h*val (l.drop h):=by
 rcases Nat.le_or_ge h l.length with hc|hc
 ·exact UB l h hc
 ·rw[zc4 hc,zd7 hc];simp[val]
theorem A9R{x y:Nat}{p q:Nat}(h1:(x:Int)<B p)(h2:(y:Int)<B q):((x*y:Nat):Int)<B (p+q):=by
 rw[R2,show((x*y:Nat):Int)=(x:Int)*(y:Int) by simp];exact Int.lt_of_le_of_lt (za7 (ze9 h1) (by omega)) (Int.mul_lt_mul_of_pos_left h2 (GM p))
end
section
open Go
theorem Zc{n:Nat}(h:n≠0):lim n=((n%65536:Nat):Int)::lim (n/65536):=by
 conv=>lhs;unfold lim
 rw[dif_neg h]
theorem SZ(s:Bool×List Int)(neg:Bool):∀(f:Nat)(n:Nat)(acc:List Int),n<=f->n<18446744073709551616->acc.length+(lim n).length<=10000->
  Ad (fun(s:((Bool×(List Int))×((List Int)×(Bool×Int))))=>Lb s.1 s.2.1 s.2.2.1 s.2.2.2) (s,(acc,(neg,(n:Int))))=some (s,(acc++lim n,neg)):=by
 intro f
 induction f with
 |zero=>
  intro n acc hn _ _;have:n=0:=by omega
  subst this;rw[Cu,ze2];exact Ak rfl
 |succ f ih=>
  intro n acc hn h64 h2;by_cases h0:n=0
  ·subst h0;rw[Cu,ze2];exact Ak rfl
  ·rw[Zc h0]at h2⊢
   simp only[zb8]at h2;have hstep:Lb s acc neg (n:Int)=some (.inl (s,(acc++[((n%65536:Nat):Int)],(neg,((n/65536:Nat):Int))))):=by
    unfold Lb;rw[zp (by omega),zb7 (by omega),zc5 (by omega),Ab (by omega) (by omega),Yc (by omega) (by omega)];simp only[cond_true];rw[AK0 (by omega)];simp only[za0];rw[show(n:Int)%65536=((n%65536:Nat):Int) by omega,show(n:Int)/65536=((n/65536:Nat):Int) by omega]
   have:=ih (n/65536) (acc++[((n%65536:Nat):Int)]) (by omega) (by omega) (by simp;omega);rw[AP hstep,this,List.append_assoc];rfl
theorem AH2{n:Nat}(h:n<18446744073709551616):(lim n).length<=4:=An.2 (by have:B 4=18446744073709551616:=rfl;omega)
theorem WV{n:Int}(h1: -9223372036854775808<=n)(h2:n<=9223372036854775807):Ec n=some (big n):=by
 unfold Ec;have hl:=AH2 (n:=n.natAbs) (by omega);by_cases h:n<0
 ·have e:zi zk (0-zi zk n)=(n.natAbs:Int):=by rw[IntKind.wrap_u64,IntKind.wrap_u64];omega
  rw[zp h];simp only[cond_true,za0,za9];rw[e,SZ (false,[]) true n.natAbs n.natAbs [] (za8 _) (by omega) (by simp;omega)];unfold big;rw[zp h];rfl
 ·have e:zi zk n=(n.natAbs:Int):=by rw[IntKind.wrap_u64];omega
  rw[zq h];simp only[cond_false,za0,za9];rw[e,SZ (false,[]) false n.natAbs n.natAbs [] (za8 _) (by omega) (by simp;omega)];unfold big;rw[zq h];rfl
theorem Av1(s:Bool×List Int)(m:Int):∀(f:Nat)(n:Int)(acc:List Int),n.natAbs<=f-> -9223372036854775808<=n->n<=9223372036854775807->acc.length+(lim n.natAbs).length<=10000->
  Ad (fun(s:((Bool×(List Int))×((List Int)×(Int×Int))))=>Lm s.1 s.2.1 s.2.2.1 s.2.2.2) (s,(acc,(m,n)))=some (s,(acc++lim n.natAbs,m)):=by
 intro f
 induction f with
 |zero=>
  intro n acc hn _ _ _;have:n=0:=by omega
  subst this;rw[show(0:Int).natAbs=0 from rfl,Cu,ze2];exact Ak rfl
 |succ f ih=>
  intro n acc hn h1 h2 h3;by_cases h0:n=0
  ·subst h0;rw[show(0:Int).natAbs=0 from rfl,Cu,ze2];exact Ak rfl
  ·rw[Zc (show n.natAbs≠0 by omega)]at h3⊢
   simp only[zb8]at h3;have hq:(Int.tdiv n 65536).natAbs=n.natAbs/65536:=by rw[Int.natAbs_tdiv];rfl
   have hq1: -9223372036854775808<=Int.tdiv n 65536/\Int.tdiv n 65536<=9223372036854775807:=by omega
   have hr:((Int.tmod n 65536).natAbs:Int)=((n.natAbs%65536:Nat):Int):=by rw[Int.natAbs_tmod];rfl
   have hstep:Lm s acc m n=some (.inl (s,(acc++[((n.natAbs%65536:Nat):Int)],(m,Int.tdiv n 65536)))):=by
    unfold Lm;have:(n != 0)=true:=by simpa using h0
    rw[this,Ab (n:=Int.tdiv n 65536) (by omega) (by omega)];simp only[cond_true];by_cases hneg:Int.tmod n 65536<0
    ·rw[zp hneg,Ab (by omega) (by omega)];simp only[cond_true];rw[AK0 (by omega),show(0:Int)-Int.tmod n 65536=((n.natAbs%65536:Nat):Int) by omega];rfl
    ·rw[zq hneg];simp only[cond_false];rw[AK0 (by omega),show Int.tmod n 65536=((n.natAbs%65536:Nat):Int) by omega];rfl
   have:=ih (Int.tdiv n 65536) (acc++[((n.natAbs%65536:Nat):Int)]) (by omega) hq1.1 hq1.2 (by rw[hq];simp;omega);rw[AP hstep,this,List.append_assoc,hq];rfl
theorem Nr{n:Int}(h1: -9223372036854775808<=n)(h2:n<=9223372036854775807):DC n=some (big n):=by
 unfold DC;have hl:=AH2 (n:=n.natAbs) (by omega);rw[Av1 (false,[]) n n.natAbs n [] (za8 _) h1 h2 (by simp;omega)];simp only[za0,List.nil_append];rw[Gk (AH _) (by unfold Ax;omega)];simp only[za0,Ar,zc8];unfold big;by_cases h:n<0
 ·rw[zp h,zp (show n.natAbs≠0 by omega)];rfl
 ·rw[zq h];rfl
theorem Ao3(z:Int):BT (big z)=some (Dh z 0):=by
 unfold BT big;by_cases h0:z=0
 ·subst h0;rw[show(0:Int).natAbs=0 from rfl,Cu];rfl
 ·have:((((lim z.natAbs).length:Nat):Int)==0)=false:=beq_eq_false_iff_ne.2 (by
   intro h;have h2:lim z.natAbs=[]:=zc0 (by omega);have:=Jp.1 h2;omega)
  rw[this];by_cases h:z<0
  ·rw[zp h,Et h];rfl
  ·rw[zq h,Gr (by omega)];rfl
theorem TD{x y:Int}{k:Nat}(hk:k<=1000000)(hx:(x.natAbs:Int)<B k)(hy:(y.natAbs:Int)<B k):Fz (big x) (big y)=some (Dh x y):=by
 have lx:=G9 hx hk;have ly:=G9 hy hk;unfold Fz;have e1:BT ((big x).1,(big x).2)=some (Dh x 0):=Ao3 x;have e2:BT ((big y).1,(big y).2)=some (Dh y 0):=Ao3 y;simp only[e1,e2,za0,T1];have e3:B3 (big x).2 (big y).2=some (Dh (x.natAbs:Int) (y.natAbs:Int)):=Hk (by unfold Ax;omega) (by unfold Ax;omega);rw[e3];have cx:=Cd x 0;have cy:=Cd y 0;have c3:=Cd (x.natAbs:Int) (y.natAbs:Int);have cxy:=Cd x y;have cs:=Cd (Dh x 0) (Dh y 0);by_cases h:Dh x 0=Dh y 0
 ·rw[h,bne_self_eq_false];simp only[cond_false,za0];rcases cy with⟨cy,_⟩|⟨cy,_⟩|⟨cy,_⟩<;>rw[cy]at h⊢ <;>rcases c3 with⟨c3,_⟩|⟨c3,_⟩|⟨c3,_⟩<;>rw[c3]<;>rw[Ab (by omega) (by omega)]<;>congr 1<;>omega
 ·have hb:(Dh x 0 != Dh y 0)=true:=by simpa using h
  rw[hb];simp only[cond_true]
  congr 1
  omega
end
section
open Go
theorem T4{a q r by_:Int}(h:q*by_+r=a)(h0:0<=r)(h1:r<by_):q=a/by_/\r=a%by_:=by
 have:a=r+by_*q:=by rw[<-h,Int.mul_comm];omega
 subst this;constructor
 ·rw[Int.add_mul_ediv_left _ _ (by omega),Int.ediv_eq_zero_of_lt h0 h1];omega
 ·rw[Int.add_mul_emod_self_left,Int.emod_eq_of_lt h0 h1]
theorem Wx{a:List Int}{d:Int}(ha:LB a)(hd:1<=d/\d<=65536)(na:a.length<=10000000):
  ∃q r,Ad (fun(s:((List Int)×((List Int)×(Int×(Int×Int)))))=>Fk s.1 s.2.1 s.2.2.1 s.2.2.2.1 s.2.2.2.2) (List.replicate a.length 0,(a,(d,(0,(a.length:Int)-1))))=some (q,r)/\LB q/\q.length=a.length/\0<=r/\r<d/\val q*d+r=val a:=by
 obtain⟨⟨q,r⟩,h1,h2⟩:=JY (body:=fun(s:((List Int)×((List Int)×(Int×(Int×Int)))))=>Fk s.1 s.2.1 s.2.2.1 s.2.2.2.1 s.2.2.2.2)
  (st:=fun n (b:List Int×Int)=>(b.1,(a,(d,(b.2,(n:Int)-1))))) (fin:=fun b=>b)
  (I:=fun n b=>n<=a.length/\LB b.1/\b.1.length=a.length/\(∀j,j<n->dg b.1 j=0)/\0<=b.2/\b.2<d/\val b.1*d+B n*b.2=B n*val (a.drop n))
  (by
   rintro n ⟨q,r⟩ ⟨h1,h2,h3,h4,h5,h6,h7⟩;simp only at h2 h3 h4 h5 h6 h7;have hn:n<a.length:=by omega
   have hg:=za1 hn;have dx:=Bb ha n;have hx:a[n]=dg a n:=(GA hg).symm;have hq:q[n]? =some 0:=by rw[Am (by omega),h4 n (by omega)]
   have ht0:0<=r*65536+dg a n:=by omega
   have hdd:=Int.emod_add_mul_ediv (r*65536+dg a n) d;have m0:=Int.emod_nonneg (r*65536+dg a n) (show d≠0 by omega);have m1:=Int.emod_lt_of_pos (r*65536+dg a n) (show 0<d by omega);have q0:=Int.ediv_nonneg ht0 (show 0<=d by omega);have q1:(r*65536+dg a n)/d<65536:=by
    refine Int.ediv_lt_of_lt_mul (by omega) ?_
    have:r*65536+dg a n<d*65536:=by omega
    rw[Int.mul_comm 65536 d];exact this
   refine⟨(q.set n ((r*65536+dg a n)/d),(r*65536+dg a n)%d),?_,by omega,h2.set ⟨q0,q1⟩,by simp[h3],fun j hj=>by simp only;rw[Ch (by omega)];exact h4 j (by omega),m0,m1,?_⟩
   ·unfold Fk AY
    dsimp only
    have hz:(d==0)=false:=beq_eq_false_iff_ne.2 (by omega);have hs:((n+1:Nat):Int)-1=(n:Int):=by omega
    have i1:A2 (n:Int) q.length=some n:=AW (by omega);rw[hs,zp (by omega),Af,hg];simp only[cond_true,za0,hz,cond_false,i1,hq,hx];rw[Ab (n:=r*65536) (by omega) (by omega),Ab (n:=r*65536+dg a n) (by omega) (by omega),zc5 ht0,zb7 ht0,Ab (n:=(r*65536+dg a n)/d) (by omega) (by omega),Ab (n:=(n:Int)-1) (by omega) (by omega)]
   ·simp only;rw[Gn hq,zb1 hn,hx];simp only[val,Int.sub_zero];have e1:B (n+1)*r=B n*(r*65536):=by simp only[B];grind
    have e2:B (n+1)*val (a.drop (n+1))=B n*(65536*val (a.drop (n+1))):=by simp only[B];grind
    rw[e1,e2]at h7;have e3:B n*((r*65536+dg a n)/d)*d+B n*((r*65536+dg a n)%d)=B n*(r*65536)+B n*dg a n:=by
     rw[Int.mul_assoc,<-ze3,<-ze3]
     congr 1
     rw[Int.mul_comm _ d];omega
    rw[Int.add_mul,ze3];omega)
  (by
   rintro⟨q,r⟩ _;unfold Fk;rfl) a.length (List.replicate a.length 0,0) ⟨za8 _,LB.zeros _,by simp,fun j _=>by
    unfold dg;rw[zb4,List.getElem?_replicate];split<;>rfl,by omega,by simp only;omega,by simp[FV,val]⟩
 obtain⟨g1,g2,g3,g4,g5,g6,g7⟩:=h2;simp only[B,Int.one_mul,zf5]at g7;exact⟨q,r,h1,g2,g3,g5,g6,g7⟩
theorem Xu{a:List Int}{d:Int}(ha:LB a)(hd:1<=d/\d<=65536)(na:a.length<=10000000):
  ∃q r,Ad (fun(s:((List Int)×((List Int)×(Int×(Int×Int)))))=>Gb s.1 s.2.1 s.2.2.1 s.2.2.2.1 s.2.2.2.2) (List.replicate a.length 0,(a,(d,(0,(a.length:Int)-1))))=some (q,r)/\LB q/\q.length=a.length/\0<=r/\r<d/\val q*d+r=val a:=by
 obtain⟨⟨q,r⟩,h1,h2⟩:=JY (body:=fun(s:((List Int)×((List Int)×(Int×(Int×Int)))))=>Gb s.1 s.2.1 s.2.2.1 s.2.2.2.1 s.2.2.2.2)
  (st:=fun n (b:List Int×Int)=>(b.1,(a,(d,(b.2,(n:Int)-1))))) (fin:=fun b=>b)
  (I:=fun n b=>n<=a.length/\LB b.1/\b.1.length=a.length/\(∀j,j<n->dg b.1 j=0)/\0<=b.2/\b.2<d/\val b.1*d+B n*b.2=B n*val (a.drop n))
  (by
   rintro n ⟨q,r⟩ ⟨h1,h2,h3,h4,h5,h6,h7⟩;simp only at h2 h3 h4 h5 h6 h7;have hn:n<a.length:=by omega
   have hg:=za1 hn;have dx:=Bb ha n;have hx:a[n]=dg a n:=(GA hg).symm;have hq:q[n]? =some 0:=by rw[Am (by omega),h4 n (by omega)]
   have ht0:0<=r*65536+dg a n:=by omega
   have hdd:=Int.emod_add_mul_ediv (r*65536+dg a n) d;have m0:=Int.emod_nonneg (r*65536+dg a n) (show d≠0 by omega);have m1:=Int.emod_lt_of_pos (r*65536+dg a n) (show 0<d by omega);have q0:=Int.ediv_nonneg ht0 (show 0<=d by omega);have q1:(r*65536+dg a n)/d<65536:=by
    refine Int.ediv_lt_of_lt_mul (by omega) ?_
    have:r*65536+dg a n<d*65536:=by omega
    rw[Int.mul_comm 65536 d];exact this
   refine⟨(q.set n ((r*65536+dg a n)/d),(r*65536+dg a n)%d),?_,by omega,h2.set ⟨q0,q1⟩,by simp[h3],fun j hj=>by simp only;rw[Ch (by omega)];exact h4 j (by omega),m0,m1,?_⟩
   ·unfold Gb AY
    dsimp only
    have hz:(d==0)=false:=beq_eq_false_iff_ne.2 (by omega);have hs:((n+1:Nat):Int)-1=(n:Int):=by omega
    have i1:A2 (n:Int) q.length=some n:=AW (by omega);rw[hs,zp (by omega),Af,hg];simp only[cond_true,za0,hz,cond_false,i1,hq,hx];rw[Ab (n:=r*65536) (by omega) (by omega),Ab (n:=r*65536+dg a n) (by omega) (by omega),zc5 ht0,zb7 ht0,Ab (n:=(r*65536+dg a n)/d) (by omega) (by omega),Ab (n:=(n:Int)-1) (by omega) (by omega)]
   ·simp only;rw[Gn hq,zb1 hn,hx];simp only[val,Int.sub_zero];have e1:B (n+1)*r=B n*(r*65536):=by simp only[B];grind
    have e2:B (n+1)*val (a.drop (n+1))=B n*(65536*val (a.drop (n+1))):=by simp only[B];grind
    rw[e1,e2]at h7;have e3:B n*((r*65536+dg a n)/d)*d+B n*((r*65536+dg a n)%d)=B n*(r*65536)+B n*dg a n:=by
     rw[Int.mul_assoc,<-ze3,<-ze3]
     congr 1
     rw[Int.mul_comm _ d];omega
    rw[Int.add_mul,ze3];omega)
  (by
   rintro⟨q,r⟩ _;unfold Gb;rfl) a.length (List.replicate a.length 0,0) ⟨za8 _,LB.zeros _,by simp,fun j _=>by
    unfold dg;rw[zb4,List.getElem?_replicate];split<;>rfl,by omega,by simp only;omega,by simp[FV,val]⟩
 obtain⟨g1,g2,g3,g4,g5,g6,g7⟩:=h2;simp only[B,Int.one_mul,zf5]at g7;exact⟨q,r,h1,g2,g3,g5,g6,g7⟩
theorem Xc{n:Nat}{d:Int}(hd:1<=d/\d<=65536)(hn:(lim n).length<=10000000):HJ (lim n) d=some (lim (n/d.toNat),((n%d.toNat:Nat):Int)):=by
 obtain⟨q,r,h1,h2,h3,h4,h5,h6⟩:=Wx (AH n) hd hn;rw[Ar]at h6;unfold HJ;rw[IR (by unfold Ae;omega) (by unfold Ae;omega),Ab (by omega) (by omega)];simp only[za0,h1];rw[Al2 (by unfold Ax;omega)];simp only[za0];rw[CB h2];obtain⟨e1,e2⟩:=T4 h6 h4 h5;have hdn:d=(d.toNat:Int):=by omega
 have hv:=AU h2;have q1:(val q).toNat=n/d.toNat:=by
  have:val q=((n/d.toNat:Nat):Int):=by rw[e1,hdn];simp
  omega
 have q2:r=((n%d.toNat:Nat):Int):=by rw[e2,hdn];simp
 rw[q1,q2]
theorem A1l{n:Nat}{d:Int}(hd:1<=d/\d<=65535)(hn:(lim n).length<=10000000):K7 (lim n) d=some (lim (n/d.toNat),lim (n%d.toNat)):=by
 obtain⟨q,r,h1,h2,h3,h4,h5,h6⟩:=Xu (AH n) (show 1<=d/\d<=65536 by omega) hn;rw[Ar]at h6;unfold K7;rw[IR (by unfold Ae;omega) (by unfold Ae;omega),Ab (by omega) (by omega)];simp only[za0,h1];rw[Hv (by unfold Ax;omega)];simp only[za0];rw[Hv (by unfold Ax;simp)];simp only[za0];rw[CB h2,CB (LB.cons (by omega) LB.nil)];obtain⟨e1,e2⟩:=T4 h6 h4 h5;have hdn:d=(d.toNat:Int):=by omega
 have hv:=AU h2;have q1:(val q).toNat=n/d.toNat:=by
  have:val q=((n/d.toNat:Nat):Int):=by rw[e1,hdn];simp
  omega
 have q2:(val [r]).toNat=n%d.toNat:=by
  have:r=((n%d.toNat:Nat):Int):=by rw[e2,hdn];simp
  simp only[val];omega
 rw[q1,q2]
end
section
open Go
section
variable {P v1 v2 vr top u2 ur q r v U:Int} (hP:0<P) (hv1:1<=v1) (hv1':v1<65536) (hv2:0<=v2/\v2<65536) (hvr:0<=vr/\vr<P) (hu2:0<=u2/\u2<65536) (hur:0<=ur/\ur<P)
 (hv:v=(v1*65536+v2)*P+vr) (hU:U=(top*65536+u2)*P+ur) (hq:q*v1+r=top) (hq0:0<=q)
include hP hv1 hv2 hvr hu2 hur hv hU hq hq0
theorem Yr(h:q*v2>r*65536+u2):U<q*v:=by
 have h1:q*(v1*65536+v2)=(q*v1)*65536+q*v2:=by grind
 have h2:top*65536+u2+1<=q*(v1*65536+v2):=by omega
 have h3:=za7 h2 (ze9 hP);have h4:0<=q*vr:=zf6 hq0 hvr.1;have h5:q*v=q*(v1*65536+v2)*P+q*vr:=by rw[hv];grind
 rw[Int.add_mul]at h3;omega
theorem Af6(hq1:q<65536)(h:q*v2<=r*65536+u2):q*v<U+v:=by
 have h1:q*(v1*65536+v2)=(q*v1)*65536+q*v2:=by grind
 have h2:q*(v1*65536+v2)<=top*65536+u2:=by omega
 have h3:=za7 h2 (ze9 hP);have h4:q*vr<=65535*P:=Int.le_trans (zb0 (ze9 hvr.2) hq0) (za7 (by omega) (ze9 hP));have h5:q*v=q*(v1*65536+v2)*P+q*vr:=by rw[hv];grind
 have h6:65536*P<=(v1*65536+v2)*P:=za7 (by omega) (ze9 hP);omega
theorem YP(hq1:q<65536)(h:65536<=r):q*v<=U:=by
 have h1:q*(v1*65536+v2)=(q*v1)*65536+q*v2:=by grind
 have h7:q*v2<=q*65535:=zb0 (by omega) hq0;have h2:q*(v1*65536+v2)+65536<=top*65536+u2:=by omega
 have h3:=za7 h2 (ze9 hP);have h4:q*vr<=65535*P:=Int.le_trans (zb0 (ze9 hvr.2) hq0) (za7 (by omega) (ze9 hP));have h5:q*v=q*(v1*65536+v2)*P+q*vr:=by rw[hv];grind
 rw[Int.add_mul]at h3;omega
end
theorem AH1{P' v1 vt top ut v U Q:Int}(hP:0<P')(hv1:1<=v1)(hvt:0<=vt)(hut:ut<P')(hv:v=v1*P'+vt)(hU:U=top*P'+ut)(hQ:Q*v<=U)(hQ0:0<=Q):Q<=top/v1:=by
 rw[Int.le_ediv_iff_mul_le (by omega)];by_cases h:Q*v1<=top
 ·exact h
 ·exfalso
  have h1:top+1<=Q*v1:=by omega
  have h2:=za7 h1 (ze9 hP);have h3:0<=Q*vt:=zf6 hQ0 hvt;have h4:Q*v=Q*v1*P'+Q*vt:=by rw[hv];grind
  rw[Int.add_mul]at h2;omega
end
end Go.Proofs.YtiijheppiboglaaGreatDoor.Ev
