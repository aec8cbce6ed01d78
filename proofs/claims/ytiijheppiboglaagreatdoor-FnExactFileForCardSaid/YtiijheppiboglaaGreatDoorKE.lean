/- What the theorem of this claim leans on, part 5. -/
import Derived.Test.YtiijheppiboglaaGreatDoorKD
import Derived.Test.YtiijheppiboglaaGreatDoorProg
import Derived.KernelRfl
import Derived.Lib.ItoaNum
import Derived.Lib.ItoaLen
import Derived.Lib.AtoiAll
import Derived.Lib.Split
import Derived.Lib.SplitLaws
import Derived.Lib.IndexMore
import Derived.Lib.Join
set_option maxHeartbeats 2000000
open Option renaming bind_some → za0, map_eq_some_iff → zb5, map_some → zd2, getD_some → zf5
open List renaming getElem?_eq_getElem → za1, getElem?_eq_some_iff → za3, mem_of_getElem? → za4, all_eq_true → za5, drop_eq_getElem_cons → zb0, mem_flatMap → zb1, eq_nil_of_length_eq_zero → zb2, flatMap_cons → zb4, mem_append → zb6, getD_eq_getElem?_getD → zb7, map_cons → zb8, length_cons → zb9, getElem?_take → zc0, take_of_length_le → zc4, mem_cons → zc7, all_cons → zc8, drop_eq_nil_of_le → zc9, getElem?_map → zd0, length_pos_iff → zd1, getElem?_drop → zd3, length_append → zd4, mem_map → zd5, length_map → zd7, getElem?_append_left → ze3, getElem?_append → ze6, getElem?_replicate → ze7, append_nil → ze8, drop_zero → zf0, mem_singleton → zf2, length_nil → zf3
open Bool renaming and_eq_true → za2, false_eq_true → zc3, true_and → ze1, not_eq_true' → zf4, false_and → zf8, not_true → zg0
open Nat renaming eq_of_beq_eq_true → za6, le_refl → za7, lt_or_ge → zd6, mul_le_mul_right → zd8, lt_of_lt_of_le → zd9, zero_add → ze4, le_trans → ze5, add_mul → zf6
open Sum renaming elim_inr → za8
open Int renaming mul_le_mul_of_nonneg_right → za9, mul_le_mul_of_nonneg_left → zb3, toNat_natCast → zc2, tdiv_eq_ediv_of_nonneg → zc5, tmod_eq_emod_of_nonneg → zc6, mul_add → ze0, le_of_lt → ze2, natAbs_natCast → ze9, mul_nonneg → zf1, natCast_mul → zf7, mul_comm → zf9, mul_assoc → zg1
open Array renaming getD_eq_getD_getElem? → zc1
open Go.IntKind renaming wrap → zi, i64 → zj, u64 → zk
open Option.some renaming inj → zv, injEq → zx
noncomputable section
set_option linter.unusedVariables false
set_option linter.unusedSimpArgs false
set_option linter.unusedSectionVars false
namespace Go.Proofs.YtiijheppiboglaaGreatDoor.Ev
section
open Go
set_option maxRecDepth 100000
def CU (s0 s1 s2:List Int) (s3 s4 s5:Int):Option ((List Int)×(List Int)×(List Int)×Int×Int×Int⊕(List Int)×(List Int)×Int×Int):=bif decide (s5>=0)then(A1 (zi zj (s5+s3)) (List.length s0)).bind fun x0=>(AX s0 x0).bind fun x1=>(A1 (zi zj ((zi zj (s5+s3))-1)) (List.length s0)).bind fun x2=>(AX s0 x2).bind fun x3=>(A1 (zi zj (s3-1)) (List.length s1)).bind fun x4=>(AX s1 x4).bind fun x5=>bif(x5==0)then none else(A1 (zi zj (s3-1)) (List.length s1)).bind fun x6=>(AX s1 x6).bind fun x7=>bif(x7==0)then none else(Ad (fun(s:((List Int)×(List Int)×(List Int)×Int×Int×Int×Int×Int))=>CY s.1 s.2.1 s.2.2.1 s.2.2.2.1 s.2.2.2.2.1 s.2.2.2.2.2.1 s.2.2.2.2.2.2.1 s.2.2.2.2.2.2.2) (s0,s1,s2,s3,s4,s5,(zi zj (Int.tdiv (zi zj ((zi zj (x1*65536))+x3)) x5)),(Int.tmod (zi zj ((zi zj (x1*65536))+x3)) x7))).bind fun x8=>(Ad (fun(s:((List Int)×(List Int)×(List Int)×Int×Int×Int×Int×Int×Int×Int))=>EG s.1 s.2.1 s.2.2.1 s.2.2.2.1 s.2.2.2.2.1 s.2.2.2.2.2.1 s.2.2.2.2.2.2.1 s.2.2.2.2.2.2.2.1 s.2.2.2.2.2.2.2.2.1 s.2.2.2.2.2.2.2.2.2) (x8.1,x8.2.1,x8.2.2.1,x8.2.2.2.1,x8.2.2.2.2.1,x8.2.2.2.2.2.1,x8.2.2.2.2.2.2,(0:Int),x8.2.2.2.1,(0:Int))).bind fun x9=>(A1 (zi zj (x9.2.2.2.2.2.1+x9.2.2.2.1)) (List.length x9.1)).bind fun x10=>(AX x9.1 x10).bind fun x11=>(A1 (zi zj (x9.2.2.2.2.2.1+x9.2.2.2.1)) (List.length x9.1)).bind fun x12=>(AX x9.1 x12).bind fun x13=>(A1 (zi zj (x9.2.2.2.2.2.1+x9.2.2.2.1)) (List.length (List.set x9.1 x12 (zi zj (x11-x9.2.2.2.2.2.2.2))))).bind fun x14=>(AX (List.set x9.1 x12 (zi zj (x11-x9.2.2.2.2.2.2.2))) x14).bind fun x15=>bif decide (x15<0)then(Ad (fun(s:((List Int)×(List Int)×(List Int)×Int×Int×Int×Int×Int×Int×Int))=>EE s.1 s.2.1 s.2.2.1 s.2.2.2.1 s.2.2.2.2.1 s.2.2.2.2.2.1 s.2.2.2.2.2.2.1 s.2.2.2.2.2.2.2.1 s.2.2.2.2.2.2.2.2.1 s.2.2.2.2.2.2.2.2.2) ((List.set x9.1 x12 (zi zj (x11-x9.2.2.2.2.2.2.2))),x9.2.1,x9.2.2.1,x9.2.2.2.1,x9.2.2.2.2.1,x9.2.2.2.2.2.1,(zi zj (x9.2.2.2.2.2.2.1-1)),(0:Int),x9.2.2.2.1,(0:Int))).bind fun x16=>(A1 (zi zj (x16.2.2.2.2.2.1+x16.2.2.2.1)) (List.length x16.1)).bind fun x17=>(AX x16.1 x17).bind fun x18=>(A1 (zi zj (x16.2.2.2.2.2.1+x16.2.2.2.1)) (List.length x16.1)).bind fun x19=>(AX x16.1 x19).bind fun x20=>(A1 x16.2.2.2.2.2.1 (List.length x16.2.2.1)).bind fun x21=>(AX x16.2.2.1 x21).bind fun x22=>some (Sum.inl ((List.set x16.1 x19 (zi zj (x18+x16.2.2.2.2.2.2.2))),x16.2.1,(List.set x16.2.2.1 x21 x16.2.2.2.2.2.2.1),x16.2.2.2.1,x16.2.2.2.2.1,(zi zj (x16.2.2.2.2.2.1-1))))else(A1 x9.2.2.2.2.2.1 (List.length x9.2.2.1)).bind fun x23=>(AX x9.2.2.1 x23).bind fun x24=>some (Sum.inl ((List.set x9.1 x12 (zi zj (x11-x9.2.2.2.2.2.2.2))),x9.2.1,(List.set x9.2.2.1 x23 x9.2.2.2.2.2.2.1),x9.2.2.2.1,x9.2.2.2.2.1,(zi zj (x9.2.2.2.2.2.1-1))))else some (Sum.inr (s0,s2,s3,s4))
def Gl (a0 a1:List Int):Option (List Int×List Int):=(BO a0 a1).bind fun x0=>bif decide (x0<0)then some (([]:List Int),a0)else bif((a1.length:Int)==1)then(AI a1 0).bind fun x1=>(Gv a0 x1).bind fun x2=>(Iy ([x2.2]:List Int)).bind fun x3=>some (x2.1,x3)else(AI a1 (zi zj ((a1.length:Int)-1))).bind fun x4=>bif((zi zj (x4+1))==0)then none else(Bg false a0).bind fun x5=>(DE (zi zj (Int.tdiv 65536 (zi zj (x4+1))))).bind fun x6=>(Bx (x5.2,x5.1) (x6.1,x6.2)).bind fun x7=>(C3 8 1 x7.1 ([0]:List Int)).bind fun x8=>(Bg false a1).bind fun x9=>(DE (zi zj (Int.tdiv 65536 (zi zj (x4+1))))).bind fun x10=>(Bx (x9.2,x9.1) (x10.1,x10.2)).bind fun x11=>(Ad (fun(s:Tq12)=>Np s.1 s.2.1 s.2.2.1 s.2.2.2.1 s.2.2.2.2) (x8,x11.1,a0,(a1.length:Int),(zi zj (Int.tdiv 65536 (zi zj (x4+1)))))).bind fun x12=>(OM (zi zj ((x12.1.length:Int)-x12.2.2.1)) 8 1).bind fun x13=>(Ad (fun(s:((List Int)×(List Int)×(List Int)×Int×Int×Int))=>CU s.1 s.2.1 s.2.2.1 s.2.2.2.1 s.2.2.2.2.1 s.2.2.2.2.2) (x12.1,x12.2.1,(List.replicate x13 (0:Int)),x12.2.2.1,x12.2.2.2,(zi zj ((zi zj ((x12.1.length:Int)-x12.2.2.1))-1)))).bind fun x14=>(Kr (0:Int) x14.2.2.1 (List.length x14.1)).bind fun x15=>(Iy (List.drop x15.1 (List.take (x15.1+(x15.2-x15.1)) x14.1))).bind fun x16=>(Gv x16 x14.2.2.2).bind fun x17=>(Iy x14.2.1).bind fun x18=>some (x18,x17.1)
def Rt:OKE:=fq QW (fun x=>Gl x.1 x.2) [E5,Aa6,UT,Eb,KF,HO] Tryz.func245
def HD (s0:Tq5) (s1 s2:List Int):Option (Tq5×(List Int)×(List Int)⊕Tq5×(List Int)):=bif decide ((s2.length:Int)>0)then(Gl s1 s2).bind fun x0=>some (Sum.inl ((s0.1,s0.2),s2,x0.2))else some (Sum.inr ((s0.1,s0.2),s1))
def HV (a0 a1:Tq5):Option Tq11:=(Ad (fun(s:(Tq5×(List Int)×(List Int)))=>HD s.1 s.2.1 s.2.2) ((false,([]:List Int)),a0.2,a1.2)).bind fun x0=>(Bg false x0.2).bind fun x1=>some (x1.2,x1.1)
def T4:OKE:=fq Tk (fun x=>HV x.1 x.2) [Rt,Eb] Tryz.func190
def ED (a0 a1:Tq5):Option Int:=(BG (a0.1,a0.2)).bind fun x0=>(BG (a1.1,a1.2)).bind fun x1=>bif(x0 != x1)then(BG (a0.1,a0.2)).bind fun x2=>(BG (a1.1,a1.2)).bind fun x3=>(Cv x2 x3).bind fun x4=>some x4 else(BG (a0.1,a0.2)).bind fun x5=>(BO a0.2 a1.2).bind fun x6=>some (zi zj (x5*x6))
def Na:OKE:=fq MK (fun x=>ED x.1 x.2) [L3,Kg,E5] Tryz.func236
def J0 (a0:Tq2):Option Bool:=(Jp ([(a0.1,a0.2.1),(a0.2.2.1,a0.2.2.2)]:List Tq5)).bind fun x0=>bif x0 then(BG (a0.2.2.1,a0.2.2.2)).bind fun x1=>bif decide (x1>0)then(HV (a0.1,a0.2.1) (a0.2.2.1,a0.2.2.2)).bind fun x2=>(DE 1).bind fun x3=>(ED (x2.1,x2.2) (x3.1,x3.2)).bind fun x4=>some (x4==0)else some false else some false
def Ap1:OKE:=fq TK (fun x=>J0 x) [AB5,L3,T4,KF,Na] Tryz.func182
def Hw (s0:List Tq1) (s1 s2:Int):Option ((List Tq1)×Int×Int⊕(Unit⊕Bool)):=bif decide (s2<s1)then(AI s0 s2).bind fun x0=>(J0 (x0.1.1,x0.1.2,x0.2.1,x0.2.2)).bind fun x1=>bif(!x1)then some (Sum.inr (Sum.inr false))else some (Sum.inl (s0,s1,(zi zj (s2+1))))else some (Sum.inr (Sum.inl ()))
def F8 (a0:List Tq1):Option Bool:=(Ad (fun(s:((List Tq1)×Int×Int))=>Hw s.1 s.2.1 s.2.2) (a0,(a0.length:Int),(0:Int))).bind fun x0=>Sum.elim (fun x1=>some true) (fun x2=>some x2) x0
def As4:OKE:=fq Un (fun x=>F8 x) [Ap1] Tryz.func124
def B5 (a0:Tq2) (a1:Int):Option Bool:=bif decide ((a0.2.1.length:Int)<=a1)then some (decide ((a0.2.2.2.length:Int)<=a1))else some false
def My:OKE:=fq ME (fun x=>B5 x.1 x.2) [] Tryz.func144
def FU (a0:Tq3) (a1:Int):Option Bool:=(F8 ([((a0.1,a0.2.1),a0.2.2.1,a0.2.2.2.1),((a0.2.2.2.2.1,a0.2.2.2.2.2.1),a0.2.2.2.2.2.2.1,a0.2.2.2.2.2.2.2)]:List Tq1)).bind fun x0=>bif x0 then(B5 (a0.1,a0.2.1,a0.2.2.1,a0.2.2.2.1) a1).bind fun x1=>bif x1 then(B5 (a0.2.2.2.2.1,a0.2.2.2.2.2.1,a0.2.2.2.2.2.2.1,a0.2.2.2.2.2.2.2) a1).bind fun x2=>some x2 else some false else some false
def YA:OKE:=fq Y6 (fun x=>FU x.1 x.2) [As4,My] Tryz.func225
def Gt (a0:Tq3):Option Bool:=(FU (a0.1,a0.2.1,a0.2.2.1,a0.2.2.2.1,a0.2.2.2.2.1,a0.2.2.2.2.2.1,a0.2.2.2.2.2.2.1,a0.2.2.2.2.2.2.2) 8).bind fun x0=>some (!x0)
def WA:OKE:=fq M6 (fun x=>Gt x) [YA] Tryz.func224
def Aw (s0:List Tq0) (s1 s2:Int):Option ((List Tq0)×Int×Int⊕(Unit⊕Int)):=bif decide (s2<s1)then(AI s0 s2).bind fun x0=>(Gt (x0.1.1.1,x0.1.1.2,x0.1.2.1,x0.1.2.2,x0.2.1.1,x0.2.1.2,x0.2.2.1,x0.2.2.2)).bind fun x1=>bif x1 then some (Sum.inr (Sum.inr s2))else some (Sum.inl (s0,s1,(zi zj (s2+1))))else some (Sum.inr (Sum.inl ()))
def B8 (a0:List Tq0):Option Int:=(Ad (fun(s:((List Tq0)×Int×Int))=>Aw s.1 s.2.1 s.2.2) (a0,(a0.length:Int),(0:Int))).bind fun x0=>Sum.elim (fun x1=>some (-(1:Int))) (fun x2=>some x2) x0
def GT:OKE:=fq Dw (fun x=>B8 x) [WA] Tryz.func267
def Ba (a0:List Tq0):Option Bool:=(B8 a0).bind fun x0=>some (decide (x0>=0))
def FN:OKE:=fq C4 (fun x=>Ba x) [GT] Tryz.func223
def DX (a0:List Tq0):Option Bool:=bif decide ((a0.length:Int)<=40)then(Ba a0).bind fun x0=>some (!x0)else some false
def IG:OKE:=fq Qt (fun x=>DX x) [FN] Tryz.func174
def Gp (a0 a1:Tq2):Option Int:=(Bx (a0.1,a0.2.1) (a1.2.2.1,a1.2.2.2)).bind fun x0=>(Bx (a1.1,a1.2.1) (a0.2.2.1,a0.2.2.2)).bind fun x1=>(ED (x0.2,x0.1) (x1.2,x1.1)).bind fun x2=>some x2
def Wh:OKE:=fq NL (fun x=>Gp x.1 x.2) [HO,Na] Tryz.func264
def Dj (a0 a1:Tq2):Option Bool:=(Gp (a0.1,a0.2.1,a0.2.2.1,a0.2.2.2) (a1.1,a1.2.1,a1.2.2.1,a1.2.2.2)).bind fun x0=>some (decide (x0<0))
def LH:OKE:=fq P1 (fun x=>Dj x.1 x.2) [Wh] Tryz.func220
def BK (a0:Tq3) (a1:Bool):Option Tq6:=bif a1 then some (a0.2.2.2.2.1,a0.2.2.2.2.2.1,a0.2.2.2.2.2.2.1,a0.2.2.2.2.2.2.2)else some (a0.1,a0.2.1,a0.2.2.1,a0.2.2.2.1)
def I9:OKE:=fq Je (fun x=>BK x.1 x.2) [] Tryz.func309
def Ht (a0 a1:Bool) (a2:Tq2) (a3:Tq3):Option (Bool×Bool×Tq6×Bool):=bif a0 then(BK (a3.1,a3.2.1,a3.2.2.1,a3.2.2.2.1,a3.2.2.2.2.1,a3.2.2.2.2.2.1,a3.2.2.2.2.2.2.1,a3.2.2.2.2.2.2.2) a1).bind fun x0=>(Dj (x0.1,x0.2.1,x0.2.2.1,x0.2.2.2) (a2.1,a2.2.1,a2.2.2.1,a2.2.2.2)).bind fun x1=>some (a0,a1,(a2.1,a2.2.1,a2.2.2.1,a2.2.2.2),(!x1))else(BK (a3.1,a3.2.1,a3.2.2.1,a3.2.2.2.1,a3.2.2.2.2.1,a3.2.2.2.2.2.1,a3.2.2.2.2.2.2.1,a3.2.2.2.2.2.2.2) a1).bind fun x2=>(Dj (a2.1,a2.2.1,a2.2.2.1,a2.2.2.2) (x2.1,x2.2.1,x2.2.2.1,x2.2.2.2)).bind fun x3=>some (a0,a1,(a2.1,a2.2.1,a2.2.2.1,a2.2.2.2),(!x3))
def AC2:OKE:=fq Xl (fun x=>Ht x.1 x.2.1 x.2.2.1 x.2.2.2) [I9,LH] Tryz.func308
def F4 (a0:Tq5):Option Tq11:=(Bg (!a0.1) a0.2).bind fun x0=>some (x0.2,x0.1)
def M0:OKE:=fq Tg (fun x=>F4 x) [Eb] Tryz.func191
def J8 (a0:Tq2):Option Tq6:=(F4 (a0.1,a0.2.1)).bind fun x0=>(Bg false a0.2.2.2).bind fun x1=>some (x0.1,x0.2,x1.2,x1.1)
def Ao1:OKE:=fq Ua (fun x=>J8 x) [M0,Eb] Tryz.func197
def EW (s0 s1 s2:List Int) (s3 s4:Int):Option Tq18:=(bif decide (s4<(A2a ([(s1.length:Int),(s2.length:Int)]:List Int)))then some (Sum.inr (s0,s1,s2,s3,s4))else bif decide (s3>0)then some (Sum.inr (s0,s1,s2,s3,s4))else some (Sum.inl (Sum.inr s0))).bind fun x0=>Sum.elim (fun x1=>some x1) (fun x2=>(bif decide (x2.2.2.2.2<(x2.2.1.length:Int))then(AI x2.2.1 x2.2.2.2.2).bind fun x3=>some (Sum.inr (x2.1,x2.2.1,x2.2.2.1,(zi zj (x2.2.2.2.1+x3)),x2.2.2.2.2))else some (Sum.inr (x2.1,x2.2.1,x2.2.2.1,x2.2.2.2.1,x2.2.2.2.2))).bind fun x4=>Sum.elim (fun x5=>some x5) (fun x6=>(bif decide (x6.2.2.2.2<(x6.2.2.1.length:Int))then(AI x6.2.2.1 x6.2.2.2.2).bind fun x7=>some (Sum.inr (x6.1,x6.2.1,x6.2.2.1,(zi zj (x6.2.2.2.1+x7)),x6.2.2.2.2))else some (Sum.inr (x6.1,x6.2.1,x6.2.2.1,x6.2.2.2.1,x6.2.2.2.2))).bind fun x8=>Sum.elim (fun x9=>some x9) (fun x10=>(C3 8 1 x10.1 ([(Int.tmod x10.2.2.2.1 65536)]:List Int)).bind fun x11=>some (Sum.inl (x11,x10.2.1,x10.2.2.1,(zi zj (Int.tdiv x10.2.2.2.1 65536)),(zi zj (x10.2.2.2.2+1))))) x8) x4) x0
def ID (a0 a1:List Int):Option (List Int):=(Ad (fun(s:Tq12)=>EW s.1 s.2.1 s.2.2.1 s.2.2.2.1 s.2.2.2.2) (([]:List Int),a0,a1,(0:Int),(0:Int))).bind fun x0=>some x0
def Ab8:OKE:=fq Rl (fun x=>ID x.1 x.2) [] Tryz.func194
def GJ (s0 s1:List Int) (s2 s3 s4:Int):Option Tq19:=bif decide (s4<s3)then(A1 s4 (List.length s0)).bind fun x0=>(AX s0 x0).bind fun x1=>(A1 s4 (List.length s0)).bind fun x2=>(AX s0 x2).bind fun x3=>(bif decide (s4<(s1.length:Int))then(A1 s4 (List.length (List.set s0 x2 (zi zj (x1-s2))))).bind fun x4=>(AX (List.set s0 x2 (zi zj (x1-s2))) x4).bind fun x5=>(AI s1 s4).bind fun x6=>(A1 s4 (List.length (List.set s0 x2 (zi zj (x1-s2))))).bind fun x7=>(AX (List.set s0 x2 (zi zj (x1-s2))) x7).bind fun x8=>some (Sum.inr ((List.set (List.set s0 x2 (zi zj (x1-s2))) x7 (zi zj (x5-x6))),s1,s4,s3,s4))else some (Sum.inr ((List.set s0 x2 (zi zj (x1-s2))),s1,s4,s3,s4))).bind fun x9=>Sum.elim (fun x10=>some x10) (fun x11=>(A1 x11.2.2.1 (List.length x11.1)).bind fun x12=>(AX x11.1 x12).bind fun x13=>bif decide (x13<0)then(A1 x11.2.2.1 (List.length x11.1)).bind fun x14=>(AX x11.1 x14).bind fun x15=>(A1 x11.2.2.1 (List.length x11.1)).bind fun x16=>(AX x11.1 x16).bind fun x17=>some (Sum.inl ((List.set x11.1 x16 (zi zj (x15+65536))),x11.2.1,(1:Int),x11.2.2.2.1,(zi zj (x11.2.2.2.2+1))))else some (Sum.inl (x11.1,x11.2.1,(0:Int),x11.2.2.2.1,(zi zj (x11.2.2.2.2+1))))) x9 else some (Sum.inr s0)
def GD (a0 a1:List Int):Option (List Int):=(BM a0).bind fun x0=>(Ad (fun(s:Tq14)=>GJ s.1 s.2.1 s.2.2.1 s.2.2.2.1 s.2.2.2.2) (x0,a1,(0:Int),(x0.length:Int),(0:Int))).bind fun x1=>(Iy x1).bind fun x2=>some x2
def Ae3:OKE:=fq Qm (fun x=>GD x.1 x.2) [FR,UT] Tryz.func196
def H1 (a0 a1:Tq5):Option Tq11:=bif(a0.1==a1.1)then(ID a0.2 a1.2).bind fun x0=>(Bg a0.1 x0).bind fun x1=>some (x1.2,x1.1)else(BO a0.2 a1.2).bind fun x2=>bif decide (x2>=0)then(GD a0.2 a1.2).bind fun x3=>(Bg a0.1 x3).bind fun x4=>some (x4.2,x4.1)else(GD a1.2 a0.2).bind fun x5=>(Bg a1.1 x5).bind fun x6=>some (x6.2,x6.1)
def Ug:OKE:=fq Td (fun x=>H1 x.1 x.2) [Ab8,Eb,E5,Ae3] Tryz.func140
def F9 (a0 a1:Tq5):Option Tq20:=(Gl a0.2 a1.2).bind fun x0=>(Bg (!(a0.1==a1.1)) x0.1).bind fun x1=>(Bg a0.1 x0.2).bind fun x2=>some ((x1.2,x1.1),x2.2,x2.1)
def S4:OKE:=fq Uo (fun x=>F9 x.1 x.2) [Rt,Eb] Tryz.func192
def IT (a0 a1:Tq5):Option Tq6:=(HV (a0.1,a0.2) (a1.1,a1.2)).bind fun x0=>(bif a1.1 then(F4 (x0.1,x0.2)).bind fun x1=>some (Sum.inr ((a0.1,a0.2),(a1.1,a1.2),(false,([]:List Int),false,([]:List Int)),x1.1,x1.2))else some (Sum.inr ((a0.1,a0.2),(a1.1,a1.2),(false,([]:List Int),false,([]:List Int)),x0.1,x0.2))).bind fun x2=>Sum.elim (fun x3=>some x3) (fun x4=>(F9 (x4.1.1,x4.1.2) (x4.2.2.2.1,x4.2.2.2.2)).bind fun x5=>(F9 (x4.2.1.1,x4.2.1.2) (x4.2.2.2.1,x4.2.2.2.2)).bind fun x6=>some (x5.1.1,x5.1.2,x6.1.1,x6.1.2)) x2
def SE:OKE:=fq X3 (fun x=>IT x.1 x.2) [T4,M0,S4] Tryz.func138
def CM (a0 a1:Tq2):Option Tq6:=(Bx (a0.1,a0.2.1) (a1.2.2.1,a1.2.2.2)).bind fun x0=>(Bx (a1.1,a1.2.1) (a0.2.2.1,a0.2.2.2)).bind fun x1=>(H1 (x0.2,x0.1) (x1.2,x1.1)).bind fun x2=>(Bx (a0.2.2.1,a0.2.2.2) (a1.2.2.1,a1.2.2.2)).bind fun x3=>(IT (x2.1,x2.2) (x3.2,x3.1)).bind fun x4=>some (x4.1,x4.2.1,x4.2.2.1,x4.2.2.2)
def Ia:OKE:=fq Uk (fun x=>CM x.1 x.2) [HO,Ug,SE] Tryz.func74
def EC (a0 a1:Tq2):Option Tq6:=(J8 (a1.1,a1.2.1,a1.2.2.1,a1.2.2.2)).bind fun x0=>(CM (a0.1,a0.2.1,a0.2.2.1,a0.2.2.2) (x0.1,x0.2.1,x0.2.2.1,x0.2.2.2)).bind fun x1=>some (x1.1,x1.2.1,x1.2.2.1,x1.2.2.2)
def NX:OKE:=fq T5 (fun x=>EC x.1 x.2) [Ao1,Ia] Tryz.func142
def FX (a0 a1:Tq2):Option Tq6:=(Bx (a0.1,a0.2.1) (a1.2.2.1,a1.2.2.2)).bind fun x0=>(Bx (a0.2.2.1,a0.2.2.2) (a1.1,a1.2.1)).bind fun x1=>(IT (x0.2,x0.1) (x1.2,x1.1)).bind fun x2=>some (x2.1,x2.2.1,x2.2.2.1,x2.2.2.2)
def Tw:OKE:=fq Uq (fun x=>FX x.1 x.2) [HO,SE] Tryz.func198
def Ct (a0 a1:Tq2):Option Tq6:=(Bx (a0.1,a0.2.1) (a1.1,a1.2.1)).bind fun x0=>(Bx (a0.2.2.1,a0.2.2.2) (a1.2.2.1,a1.2.2.2)).bind fun x1=>(IT (x0.2,x0.1) (x1.2,x1.1)).bind fun x2=>some (x2.1,x2.2.1,x2.2.2.1,x2.2.2.2)
def NK:OKE:=fq Ue (fun x=>Ct x.1 x.2) [HO,SE] Tryz.func141
def UO (a0 a1:Tq3) (a2:Tq2):Option Tq10:=(A8 1).bind fun x0=>(EC (x0.1,x0.2.1,x0.2.2.1,x0.2.2.2) (a2.1,a2.2.1,a2.2.2.1,a2.2.2.2)).bind fun x1=>(Ct (x1.1,x1.2.1,x1.2.2.1,x1.2.2.2) (a0.1,a0.2.1,a0.2.2.1,a0.2.2.2.1)).bind fun x2=>(Ct (a2.1,a2.2.1,a2.2.2.1,a2.2.2.2) (a1.1,a1.2.1,a1.2.2.1,a1.2.2.2.1)).bind fun x3=>(CM (x2.1,x2.2.1,x2.2.2.1,x2.2.2.2) (x3.1,x3.2.1,x3.2.2.1,x3.2.2.2)).bind fun x4=>(Ct (x1.1,x1.2.1,x1.2.2.1,x1.2.2.2) (a0.2.2.2.2.1,a0.2.2.2.2.2.1,a0.2.2.2.2.2.2.1,a0.2.2.2.2.2.2.2)).bind fun x5=>(Ct (a2.1,a2.2.1,a2.2.2.1,a2.2.2.2) (a1.2.2.2.2.1,a1.2.2.2.2.2.1,a1.2.2.2.2.2.2.1,a1.2.2.2.2.2.2.2)).bind fun x6=>(CM (x5.1,x5.2.1,x5.2.2.1,x5.2.2.2) (x6.1,x6.2.1,x6.2.2.1,x6.2.2.2)).bind fun x7=>some (x4.1,x4.2.1,x4.2.2.1,x4.2.2.2,x7.1,x7.2.1,x7.2.2.1,x7.2.2.2)
def A2B:OKE:=fq AG5 (fun x=>UO x.1 x.2.1 x.2.2) [G5,NX,NK,Ia] Tryz.func310
def Eu (s0:Bool) (s1:Tq2) (s2:Bool) (s3 s4 s5:List Tq0) (s6 s7:Int):Option (Bool×Tq2×Bool×(List Tq0)×(List Tq0)×(List Tq0)×Int×Int⊕(List Tq0)):=bif decide (s7<s6)then(AI s5 s7).bind fun x0=>bif((s4.length:Int)==0)then none else(AI s4 (Int.tmod (zi zj ((zi zj (s7+(s4.length:Int)))-1)) (s4.length:Int))).bind fun x1=>((Ht s2 s0 (s1.1,s1.2.1,s1.2.2.1,s1.2.2.2) (x1.1.1.1,x1.1.1.2,x1.1.2.1,x1.1.2.2,x1.2.1.1,x1.2.1.2,x1.2.2.1,x1.2.2.2)).bind fun x2=>(Ht x2.1 x2.2.1 (x2.2.2.1.1,x2.2.2.1.2.1,x2.2.2.1.2.2.1,x2.2.2.1.2.2.2) (x0.1.1.1,x0.1.1.2,x0.1.2.1,x0.1.2.2,x0.2.1.1,x0.2.1.2,x0.2.2.1,x0.2.2.2)).bind fun x3=>bif(!(x2.2.2.2==x3.2.2.2))then(BK (x1.1.1.1,x1.1.1.2,x1.1.2.1,x1.1.2.2,x1.2.1.1,x1.2.1.2,x1.2.2.1,x1.2.2.2) x3.2.1).bind fun x4=>(EC (x3.2.2.1.1,x3.2.2.1.2.1,x3.2.2.1.2.2.1,x3.2.2.1.2.2.2) (x4.1,x4.2.1,x4.2.2.1,x4.2.2.2)).bind fun x5=>(BK (x0.1.1.1,x0.1.1.2,x0.1.2.1,x0.1.2.2,x0.2.1.1,x0.2.1.2,x0.2.2.1,x0.2.2.2) x3.2.1).bind fun x6=>(BK (x1.1.1.1,x1.1.1.2,x1.1.2.1,x1.1.2.2,x1.2.1.1,x1.2.1.2,x1.2.2.1,x1.2.2.2) x3.2.1).bind fun x7=>(EC (x6.1,x6.2.1,x6.2.2.1,x6.2.2.2) (x7.1,x7.2.1,x7.2.2.1,x7.2.2.2)).bind fun x8=>(FX (x5.1,x5.2.1,x5.2.2.1,x5.2.2.2) (x8.1,x8.2.1,x8.2.2.1,x8.2.2.2)).bind fun x9=>(UO (x1.1.1.1,x1.1.1.2,x1.1.2.1,x1.1.2.2,x1.2.1.1,x1.2.1.2,x1.2.2.1,x1.2.2.2) (x0.1.1.1,x0.1.1.2,x0.1.2.1,x0.1.2.2,x0.2.1.1,x0.2.1.2,x0.2.2.1,x0.2.2.2) (x9.1,x9.2.1,x9.2.2.1,x9.2.2.2)).bind fun x10=>(C3 128 8 s3 ([(((x10.1,x10.2.1),x10.2.2.1,x10.2.2.2.1),(x10.2.2.2.2.1,x10.2.2.2.2.2.1),x10.2.2.2.2.2.2.1,x10.2.2.2.2.2.2.2)]:List Tq0)).bind fun x11=>some (Sum.inr (x3.2.1,(x3.2.2.1.1,x3.2.2.1.2.1,x3.2.2.1.2.2.1,x3.2.2.1.2.2.2),x3.1,x11,(x0.1.1.1,x0.1.1.2,x0.1.2.1,x0.1.2.2,x0.2.1.1,x0.2.1.2,x0.2.2.1,x0.2.2.2),s4,s5,s6,s7))else some (Sum.inr (x3.2.1,(x3.2.2.1.1,x3.2.2.1.2.1,x3.2.2.1.2.2.1,x3.2.2.1.2.2.2),x3.1,s3,(x0.1.1.1,x0.1.1.2,x0.1.2.1,x0.1.2.2,x0.2.1.1,x0.2.1.2,x0.2.2.1,x0.2.2.2),s4,s5,s6,s7))).bind fun x12=>Sum.elim (fun x13=>some x13) (fun x14=>(Ht x14.2.2.1 x14.1 (x14.2.1.1,x14.2.1.2.1,x14.2.1.2.2.1,x14.2.1.2.2.2) (x14.2.2.2.2.1.1,x14.2.2.2.2.1.2.1,x14.2.2.2.2.1.2.2.1,x14.2.2.2.2.1.2.2.2.1,x14.2.2.2.2.1.2.2.2.2.1,x14.2.2.2.2.1.2.2.2.2.2.1,x14.2.2.2.2.1.2.2.2.2.2.2.1,x14.2.2.2.2.1.2.2.2.2.2.2.2)).bind fun x15=>bif x15.2.2.2 then(C3 128 8 x14.2.2.2.1 ([(((x14.2.2.2.2.1.1,x14.2.2.2.2.1.2.1),x14.2.2.2.2.1.2.2.1,x14.2.2.2.2.1.2.2.2.1),(x14.2.2.2.2.1.2.2.2.2.1,x14.2.2.2.2.1.2.2.2.2.2.1),x14.2.2.2.2.1.2.2.2.2.2.2.1,x14.2.2.2.2.1.2.2.2.2.2.2.2)]:List Tq0)).bind fun x16=>some (Sum.inl (x15.2.1,(x15.2.2.1.1,x15.2.2.1.2.1,x15.2.2.1.2.2.1,x15.2.2.1.2.2.2),x15.1,x16,x14.2.2.2.2.2.1,x14.2.2.2.2.2.2.1,x14.2.2.2.2.2.2.2.1,(zi zj (x14.2.2.2.2.2.2.2.2+1))))else some (Sum.inl (x15.2.1,(x15.2.2.1.1,x15.2.2.1.2.1,x15.2.2.1.2.2.1,x15.2.2.1.2.2.2),x15.1,x14.2.2.2.1,x14.2.2.2.2.2.1,x14.2.2.2.2.2.2.1,x14.2.2.2.2.2.2.2.1,(zi zj (x14.2.2.2.2.2.2.2.2+1))))) x12 else some (Sum.inr s3)
def JR (a0:List Tq0) (a1 a2:Bool) (a3:Tq2):Option (List Tq8):=(Ad (fun(s:(Bool×Tq2×Bool×(List Tq0)×(List Tq0)×(List Tq0)×Int×Int))=>Eu s.1 s.2.1 s.2.2.1 s.2.2.2.1 s.2.2.2.2.1 s.2.2.2.2.2.1 s.2.2.2.2.2.2.1 s.2.2.2.2.2.2.2) (a1,(a3.1,a3.2.1,a3.2.2.1,a3.2.2.2),a2,([]:List Tq0),a0,a0,(a0.length:Int),(0:Int))).bind fun x0=>some x0
def AX8:OKE:=fq Am9 (fun x=>JR x.1 x.2.1 x.2.2.1 x.2.2.2) [AC2,I9,NX,Tw,A2B] Tryz.func296
def JY (a0:List Tq0) (a1 a2:Tq3):Option (List Tq8):=(JR a0 false true (a1.1,a1.2.1,a1.2.2.1,a1.2.2.2.1)).bind fun x0=>(JR x0 false false (a2.1,a2.2.1,a2.2.2.1,a2.2.2.2.1)).bind fun x1=>(JR x1 true true (a1.2.2.2.2.1,a1.2.2.2.2.2.1,a1.2.2.2.2.2.2.1,a1.2.2.2.2.2.2.2)).bind fun x2=>(JR x2 true false (a2.2.2.2.2.1,a2.2.2.2.2.2.1,a2.2.2.2.2.2.2.1,a2.2.2.2.2.2.2.2)).bind fun x3=>some x3
def Ah9:OKE:=fq T8 (fun x=>JY x.1 x.2.1 x.2.2) [AX8] Tryz.func269
def Jt (a0:Tq2):Option Tq6:=(Bg a0.1 a0.2.1).bind fun x0=>(Bg false a0.2.2.2).bind fun x1=>some (x0.2,x0.1,x1.2,x1.1)
def AD6:OKE:=fq VX (fun x=>Jt x) [Eb] Tryz.func315
def LW (a0:Tq3):Option Tq10:=(Jt (a0.1,a0.2.1,a0.2.2.1,a0.2.2.2.1)).bind fun x0=>(Jt (a0.2.2.2.2.1,a0.2.2.2.2.2.1,a0.2.2.2.2.2.2.1,a0.2.2.2.2.2.2.2)).bind fun x1=>some (x0.1,x0.2.1,x0.2.2.1,x0.2.2.2,x1.1,x1.2.1,x1.2.2.1,x1.2.2.2)
def Ax0:OKE:=fq Vl (fun x=>LW x) [AD6] Tryz.func307
def Dr (s0 s1:List Tq0) (s2 s3:Int):Option ((List Tq0)×(List Tq0)×Int×Int⊕(List Tq0)):=bif decide (s3<s2)then(AI s1 s3).bind fun x0=>(LW (x0.1.1.1,x0.1.1.2,x0.1.2.1,x0.1.2.2,x0.2.1.1,x0.2.1.2,x0.2.2.1,x0.2.2.2)).bind fun x1=>(C3 128 8 s0 ([(((x1.1,x1.2.1),x1.2.2.1,x1.2.2.2.1),(x1.2.2.2.2.1,x1.2.2.2.2.2.1),x1.2.2.2.2.2.2.1,x1.2.2.2.2.2.2.2)]:List Tq0)).bind fun x2=>some (Sum.inl (x2,s1,s2,(zi zj (s3+1))))else some (Sum.inr s0)
def J2 (a0:List Tq0):Option (List Tq8):=(Ad (fun(s:((List Tq0)×(List Tq0)×Int×Int))=>Dr s.1 s.2.1 s.2.2.1 s.2.2.2) (([]:List Tq0),a0,(a0.length:Int),(0:Int))).bind fun x0=>some x0
def Au1:OKE:=fq Tl (fun x=>J2 x) [Ax0] Tryz.func295
def FB (a0:List Tq0):Option (List Tq8×Bool):=(DX a0).bind fun x0=>bif(!x0)then some (([]:List Tq0),false)else(J2 a0).bind fun x1=>some (x1,true)
def UB:OKE:=fq MI (fun x=>FB x) [IG,Au1] Tryz.func268
def B6 (a0:List Tq0) (a1 a2:Tq3):Option (List Tq8×Bool):=(DX a0).bind fun x0=>bif(!x0)then some (([]:List Tq0),false)else(FU (a1.1,a1.2.1,a1.2.2.1,a1.2.2.2.1,a1.2.2.2.2.1,a1.2.2.2.2.2.1,a1.2.2.2.2.2.2.1,a1.2.2.2.2.2.2.2) 2).bind fun x1=>bif(!x1)then some (([]:List Tq0),false)else(FU (a2.1,a2.2.1,a2.2.2.1,a2.2.2.2.1,a2.2.2.2.2.1,a2.2.2.2.2.2.1,a2.2.2.2.2.2.2.1,a2.2.2.2.2.2.2.2) 2).bind fun x2=>bif(!x2)then some (([]:List Tq0),false)else(Dj (a2.1,a2.2.1,a2.2.2.1,a2.2.2.2.1) (a1.1,a1.2.1,a1.2.2.1,a1.2.2.2.1)).bind fun x3=>bif x3 then some (([]:List Tq0),false)else(Dj (a2.2.2.2.2.1,a2.2.2.2.2.2.1,a2.2.2.2.2.2.2.1,a2.2.2.2.2.2.2.2) (a1.2.2.2.2.1,a1.2.2.2.2.2.1,a1.2.2.2.2.2.2.1,a1.2.2.2.2.2.2.2)).bind fun x4=>bif x4 then some (([]:List Tq0),false)else(JY a0 (a1.1,a1.2.1,a1.2.2.1,a1.2.2.2.1,a1.2.2.2.2.1,a1.2.2.2.2.2.1,a1.2.2.2.2.2.2.1,a1.2.2.2.2.2.2.2) (a2.1,a2.2.1,a2.2.2.1,a2.2.2.2.1,a2.2.2.2.2.1,a2.2.2.2.2.2.1,a2.2.2.2.2.2.2.1,a2.2.2.2.2.2.2.2)).bind fun x5=>(FB x5).bind fun x6=>some (x6.1,x6.2)
def Ao8:OKE:=fq TL (fun x=>B6 x.1 x.2.1 x.2.2) [IG,YA,LH,Ah9,UB] Tryz.func226
def Dd (a0:Tq2):Option Tq6:=(A8 2).bind fun x0=>(FX (a0.1,a0.2.1,a0.2.2.1,a0.2.2.2) (x0.1,x0.2.1,x0.2.2.1,x0.2.2.2)).bind fun x1=>some (x1.1,x1.2.1,x1.2.2.1,x1.2.2.2)
def Rh:OKE:=fq QR (fun x=>Dd x) [G5,Tw] Tryz.func143
def Bn (s0 s1:Tq2) (s2 s3:List Tq0) (s4 s5:Int):Option Tq22:=bif decide (s5<s4)then(AI s3 s5).bind fun x0=>bif((s2.length:Int)==0)then none else(AI s2 (Int.tmod (zi zj (s5+1)) (s2.length:Int))).bind fun x1=>(Ct (x0.1.1.1,x0.1.1.2,x0.1.2.1,x0.1.2.2) (x1.2.1.1,x1.2.1.2,x1.2.2.1,x1.2.2.2)).bind fun x2=>(Ct (x1.1.1.1,x1.1.1.2,x1.1.2.1,x1.1.2.2) (x0.2.1.1,x0.2.1.2,x0.2.2.1,x0.2.2.2)).bind fun x3=>(EC (x2.1,x2.2.1,x2.2.2.1,x2.2.2.2) (x3.1,x3.2.1,x3.2.2.1,x3.2.2.2)).bind fun x4=>(CM (s1.1,s1.2.1,s1.2.2.1,s1.2.2.2) (x4.1,x4.2.1,x4.2.2.1,x4.2.2.2)).bind fun x5=>some (Sum.inl ((s0.1,s0.2.1,s0.2.2.1,s0.2.2.2),(x5.1,x5.2.1,x5.2.2.1,x5.2.2.2),s2,s3,s4,(zi zj (s5+1))))else some (Sum.inr ((s0.1,s0.2.1,s0.2.2.1,s0.2.2.2),s1.1,s1.2.1,s1.2.2.1,s1.2.2.2))
def Iz (a0:List Tq0):Option Tq6:=(A8 0).bind fun x0=>(Ad (fun(s:(Tq2×Tq2×(List Tq0)×(List Tq0)×Int×Int))=>Bn s.1 s.2.1 s.2.2.1 s.2.2.2.1 s.2.2.2.2.1 s.2.2.2.2.2) ((false,([]:List Int),false,([]:List Int)),(x0.1,x0.2.1,x0.2.2.1,x0.2.2.2),a0,a0,(a0.length:Int),(0:Int))).bind fun x1=>(Dd (x1.2.1,x1.2.2.1,x1.2.2.2.1,x1.2.2.2.2)).bind fun x2=>some (x2.1,x2.2.1,x2.2.2.1,x2.2.2.2)
def Ab0:OKE:=fq Qc (fun x=>Iz x) [G5,NK,NX,Ia,Rh] Tryz.func75
def EP (a0:Tq2):Option (Tq6×Bool):=(B5 (a0.1,a0.2.1,a0.2.2.1,a0.2.2.2) 40).bind fun x0=>bif(!x0)then some ((false,([]:List Int),false,([]:List Int)),false)else some ((a0.1,a0.2.1,a0.2.2.1,a0.2.2.2),true)
def Nv:OKE:=fq NY (fun x=>EP x) [My] Tryz.func77
def Gy (a0:List Tq0):Option (Tq6×Bool):=(DX a0).bind fun x0=>bif(!x0)then some ((false,([]:List Int),false,([]:List Int)),false)else(Iz a0).bind fun x1=>(EP (x1.1,x1.2.1,x1.2.2.1,x1.2.2.2)).bind fun x2=>some ((x2.1.1,x2.1.2.1,x2.1.2.2.1,x2.1.2.2.2),x2.2)
def Ac4:OKE:=fq QY (fun x=>Gy x) [IG,Ab0,Nv] Tryz.func227
def Et (a0:List Tq0) (a1 a2:Int):Option (Tq6×Bool):=(A8 a1).bind fun x0=>(A8 a2).bind fun x1=>(A8 (zi zj (a1+1))).bind fun x2=>(A8 (zi zj (a2+1))).bind fun x3=>(B6 a0 (x0.1,x0.2.1,x0.2.2.1,x0.2.2.2,x1.1,x1.2.1,x1.2.2.1,x1.2.2.2) (x2.1,x2.2.1,x2.2.2.1,x2.2.2.2,x3.1,x3.2.1,x3.2.2.1,x3.2.2.2)).bind fun x4=>bif(!x4.2)then some ((false,([]:List Int),false,([]:List Int)),false)else(Gy x4.1).bind fun x5=>some ((x5.1.1,x5.1.2.1,x5.1.2.2.1,x5.1.2.2.2),x5.2)
def Al8:OKE:=fq Tv (fun x=>Et x.1 x.2.1 x.2.2) [G5,Ao8,Ac4] Tryz.func175
def BV (s0:Tq7) (s1:List Tq1) (s2:List Tq0) (s3 s4:Int):Option Tq21:=bif decide (s4<(zi zj (s0.1+s0.2.2.1)))then(Et s2 s4 s3).bind fun x0=>bif(!x0.2)then some (Sum.inr (Sum.inr (([]:List Tq1),false)))else(C3 64 4 s1 ([((x0.1.1,x0.1.2.1),x0.1.2.2.1,x0.1.2.2.2)]:List Tq1)).bind fun x1=>some (Sum.inl ((s0.1,s0.2.1,s0.2.2.1,s0.2.2.2),x1,s2,s3,(zi zj (s4+1))))else some (Sum.inr (Sum.inl ((s0.1,s0.2.1,s0.2.2.1,s0.2.2.2),s1,s2,s3)))
def BE (s0:Tq7) (s1:List Tq1) (s2:List Tq0) (s3:Int):Option (Tq7×(List Tq1)×(List Tq0)×Int⊕((List Tq1)⊕(List Tq1)×Bool)):=bif decide (s3<(zi zj (s0.2.1+s0.2.2.2)))then(Ad (fun(s:(Tq7×(List Tq1)×(List Tq0)×Int×Int))=>BV s.1 s.2.1 s.2.2.1 s.2.2.2.1 s.2.2.2.2) ((s0.1,s0.2.1,s0.2.2.1,s0.2.2.2),s1,s2,s3,s0.1)).bind fun x0=>Sum.elim (fun x1=>some (Sum.inl ((x1.1.1,x1.1.2.1,x1.1.2.2.1,x1.1.2.2.2),x1.2.1,x1.2.2.1,(zi zj (x1.2.2.2+1))))) (fun x2=>some (Sum.inr (Sum.inr (x2.1,x2.2)))) x0 else some (Sum.inr (Sum.inl s1))
def Cm (a0:List Tq0) (a1:Tq7):Option (List Tq20×Bool):=(DX a0).bind fun x0=>bif(!x0)then some (([]:List Tq1),false)else(Dz (a1.1,a1.2.1,a1.2.2.1,a1.2.2.2)).bind fun x1=>bif(!x1)then some (([]:List Tq1),false)else(Ad (fun(s:(Tq7×(List Tq1)×(List Tq0)×Int))=>BE s.1 s.2.1 s.2.2.1 s.2.2.2) ((a1.1,a1.2.1,a1.2.2.1,a1.2.2.2),([]:List Tq1),a0,a1.2.1)).bind fun x2=>Sum.elim (fun x3=>some (x3,true)) (fun x4=>some (x4.1,x4.2)) x2
def Aa9:OKE:=fq Qr (fun x=>Cm x.1 x.2) [IG,NA,Al8] Tryz.func116
def B2 (s0:Tq7) (s1:List Tq1) (s2:List Tq4) (s3 s4:Int):Option (Tq7×(List Tq1)×(List Tq4)×Int×Int⊕Tq7×(List Tq1)×(List Tq4)):=bif decide (s4<s3)then(A8 0).bind fun x0=>(C3 64 4 s1 ([((x0.1,x0.2.1),x0.2.2.1,x0.2.2.2)]:List Tq1)).bind fun x1=>some (Sum.inl ((s0.1,s0.2.1,s0.2.2.1,s0.2.2.2),x1,s2,s3,(zi zj (s4+1))))else some (Sum.inr ((s0.1,s0.2.1,s0.2.2.1,s0.2.2.2),s1,s2))
def BF (s0:Tq7) (s1:List Tq1) (s2:List Tq4) (s3 s4:Int) (s5:List Tq1) (s6 s7:Int):Option Tq16:=bif decide (s7<s6)then(AI s5 s7).bind fun x0=>(A1 s7 (List.length s1)).bind fun x1=>(AX s1 x1).bind fun x2=>(CM (x2.1.1,x2.1.2,x2.2.1,x2.2.2) (x0.1.1,x0.1.2,x0.2.1,x0.2.2)).bind fun x3=>(EP (x3.1,x3.2.1,x3.2.2.1,x3.2.2.2)).bind fun x4=>(A1 s7 (List.length s1)).bind fun x5=>(AX s1 x5).bind fun x6=>bif(!x4.2)then some (Sum.inr (Sum.inr (([]:List Tq1),false)))else some (Sum.inl ((s0.1,s0.2.1,s0.2.2.1,s0.2.2.2),(List.set s1 x5 ((x4.1.1,x4.1.2.1),x4.1.2.2.1,x4.1.2.2.2)),s2,s3,s4,s5,s6,(zi zj (s7+1))))else some (Sum.inr (Sum.inl ((s0.1,s0.2.1,s0.2.2.1,s0.2.2.2),s1,s2,s3,s4)))
def Be (s0:Tq7) (s1:List Tq1) (s2:List Tq4) (s3 s4:Int):Option (Tq7×(List Tq1)×(List Tq4)×Int×Int⊕((List Tq1)⊕(List Tq1)×Bool)):=bif decide (s4<s3)then(AI s2 s4).bind fun x0=>(LF x0).bind fun x1=>(Cm x1 (s0.1,s0.2.1,s0.2.2.1,s0.2.2.2)).bind fun x2=>bif(!x2.2)then some (Sum.inr (Sum.inr (([]:List Tq1),false)))else(Ad (fun(s:(Tq7×(List Tq1)×(List Tq4)×Int×Int×(List Tq1)×Int×Int))=>BF s.1 s.2.1 s.2.2.1 s.2.2.2.1 s.2.2.2.2.1 s.2.2.2.2.2.1 s.2.2.2.2.2.2.1 s.2.2.2.2.2.2.2) ((s0.1,s0.2.1,s0.2.2.1,s0.2.2.2),s1,s2,s3,s4,x2.1,(x2.1.length:Int),(0:Int))).bind fun x3=>Sum.elim (fun x4=>some (Sum.inl ((x4.1.1,x4.1.2.1,x4.1.2.2.1,x4.1.2.2.2),x4.2.1,x4.2.2.1,x4.2.2.2.1,(zi zj (x4.2.2.2.2+1))))) (fun x5=>some (Sum.inr (Sum.inr (x5.1,x5.2)))) x3 else some (Sum.inr (Sum.inl s1))
def Fq (a0:List UInt8) (a1:Tq7):Option (List Tq20×Bool):=(HF a0).bind fun x0=>bif(!x0.2.2.2)then some (([]:List Tq1),false)else(Dz (a1.1,a1.2.1,a1.2.2.1,a1.2.2.2)).bind fun x1=>bif(!x1)then some (([]:List Tq1),false)else(Ad (fun(s:(Tq7×(List Tq1)×(List Tq4)×Int×Int))=>B2 s.1 s.2.1 s.2.2.1 s.2.2.2.1 s.2.2.2.2) ((a1.1,a1.2.1,a1.2.2.1,a1.2.2.2),([]:List Tq1),x0.1,(zi zj (a1.2.2.1*a1.2.2.2)),(0:Int))).bind fun x2=>(Ad (fun(s:(Tq7×(List Tq1)×(List Tq4)×Int×Int))=>Be s.1 s.2.1 s.2.2.1 s.2.2.2.1 s.2.2.2.2) ((x2.1.1,x2.1.2.1,x2.1.2.2.1,x2.1.2.2.2),x2.2.1,x2.2.2,(x2.2.2.length:Int),(0:Int))).bind fun x3=>Sum.elim (fun x4=>some (x4,true)) (fun x5=>some (x5.1,x5.2)) x3
def XQ:OKE:=fq O1 (fun x=>Fq x.1 x.2) [XV,NA,G5,Ay1,Aa9,Ia,Nv] Tryz.func50
def NE (a0:Tq5):Option Tq11:=(Bg false a0.2).bind fun x0=>some (x0.2,x0.1)
def Ao5:OKE:=fq Ul (fun x=>NE x) [Eb] Tryz.func263
def Kb (a0:Tq2):Option Tq6:=(NE (a0.1,a0.2.1)).bind fun x0=>(Bg false a0.2.2.2).bind fun x1=>some (x0.1,x0.2,x1.2,x1.1)
def Ai1:OKE:=fq Um (fun x=>Kb x) [Ao5,Eb] Tryz.func219
def MZ (a0 a1:Tq5):Option Tq11:=(F4 (a1.1,a1.2)).bind fun x0=>(H1 (a0.1,a0.2) (x0.1,x0.2)).bind fun x1=>some (x1.1,x1.2)
def Am0:OKE:=fq Ta (fun x=>MZ x.1 x.2) [M0,Ug] Tryz.func294
def Hr (a0 a1:Tq5):Option Tq11:=(F9 (a0.1,a0.2) (a1.1,a1.2)).bind fun x0=>(BG (x0.2.1,x0.2.2)).bind fun x1=>bif decide (x1<0)then(DE 1).bind fun x2=>(MZ (x0.1.1,x0.1.2) (x2.1,x2.2)).bind fun x3=>some (x3.1,x3.2)else some (x0.1.1,x0.1.2)
def Sb:OKE:=fq Lc (fun x=>Hr x.1 x.2) [S4,L3,KF,Am0] Tryz.func266
def Fp (a0:Tq2):Option Tq11:=(Hr (a0.1,a0.2.1) (a0.2.2.1,a0.2.2.2)).bind fun x0=>some (x0.1,x0.2)
def XY:OKE:=fq OU (fun x=>Fp x) [Sb] Tryz.func222
def EV (s0:Tq5) (s1 s2:Int):Option (Tq5×Int×Int⊕Tq5×Int):=bif decide (s2>=0)then(AI s0.2 s2).bind fun x0=>some (Sum.inl ((s0.1,s0.2),(zi zj ((zi zj (s1*65536))+x0)),(zi zj (s2-1))))else some (Sum.inr ((s0.1,s0.2),s1))
def IQ (a0:Tq5):Option (Int×Bool):=(H4 (a0.1,a0.2)).bind fun x0=>bif(!x0)then some ((0:Int),false)else(DE 4611686018427387904).bind fun x1=>(BO a0.2 x1.2).bind fun x2=>bif decide (x2>0)then some ((0:Int),false)else(Ad (fun(s:Tq5×Int×Int)=>EV s.1 s.2.1 s.2.2) ((a0.1,a0.2),(0:Int),(zi zj ((a0.2.length:Int)-1)))).bind fun x3=>bif x3.1.1 then some ((zi zj ((0:Int)-x3.2)),true)else some (x3.2,true)
def AU1:OKE:=fq ZK (fun x=>IQ x) [TH,KF,E5] Tryz.func221
def LZ (a0:Tq2):Option Int:=(Kb (a0.1,a0.2.1,a0.2.2.1,a0.2.2.2)).bind fun x0=>((A8 1).bind fun x1=>(Dj (x1.1,x1.2.1,x1.2.2.1,x1.2.2.2) (x0.1,x0.2.1,x0.2.2.1,x0.2.2.2)).bind fun x2=>bif x2 then(A8 1).bind fun x3=>some (Sum.inr (x3.1,x3.2.1,x3.2.2.1,x3.2.2.2))else some (Sum.inr (x0.1,x0.2.1,x0.2.2.1,x0.2.2.2))).bind fun x4=>Sum.elim (fun x5=>some x5) (fun x6=>(A8 255).bind fun x7=>(Ct (x6.1,x6.2.1,x6.2.2.1,x6.2.2.2) (x7.1,x7.2.1,x7.2.2.1,x7.2.2.2)).bind fun x8=>(A8 1).bind fun x9=>(Dd (x9.1,x9.2.1,x9.2.2.1,x9.2.2.2)).bind fun x10=>(CM (x8.1,x8.2.1,x8.2.2.1,x8.2.2.2) (x10.1,x10.2.1,x10.2.2.1,x10.2.2.2)).bind fun x11=>(Fp (x11.1,x11.2.1,x11.2.2.1,x11.2.2.2)).bind fun x12=>(IQ (x12.1,x12.2)).bind fun x13=>some x13.1) x4
def Av7:OKE:=fq Wd (fun x=>LZ x) [Ai1,G5,LH,NK,Rh,Ia,XY,AU1] Tryz.func172
def Dq (s0:List Int) (s1:List Tq1) (s2 s3:Int):Option ((List Int)×(List Tq1)×Int×Int⊕(List Int)):=bif decide (s3<s2)then(AI s1 s3).bind fun x0=>(LZ (x0.1.1,x0.1.2,x0.2.1,x0.2.2)).bind fun x1=>(C3 8 1 s0 ([x1]:List Int)).bind fun x2=>some (Sum.inl (x2,s1,s2,(zi zj (s3+1))))else some (Sum.inr s0)
def HX (a0:List Tq1):Option (List Int):=(Ad (fun(s:((List Int)×(List Tq1)×Int×Int))=>Dq s.1 s.2.1 s.2.2.1 s.2.2.2) (([]:List Int),a0,(a0.length:Int),(0:Int))).bind fun x0=>some x0
def Ak9:OKE:=fq Tx (fun x=>HX x) [Av7] Tryz.func109
def Gf (a0:List UInt8) (a1:Tq7):Option (List Int×Bool):=(Fq a0 (a1.1,a1.2.1,a1.2.2.1,a1.2.2.2)).bind fun x0=>bif(!x0.2)then some (([]:List Int),false)else(HX x0.1).bind fun x1=>some (x1,true)
def Wn:OKE:=fq NO (fun x=>Gf x.1 x.2) [XQ,Ak9] Tryz.func40
def GG (a0:Int):Option Bool:=(AO a0 0 255).bind fun x0=>some (!x0)
def Ng:OKE:=fq M4 (fun x=>GG x) [FF] Tryz.func181
def Aq (s0:List Int) (s1 s2:Int):Option ((List Int)×Int×Int⊕(Unit⊕Int)):=bif decide (s2<s1)then(AI s0 s2).bind fun x0=>(GG x0).bind fun x1=>bif x1 then some (Sum.inr (Sum.inr s2))else some (Sum.inl (s0,s1,(zi zj (s2+1))))else some (Sum.inr (Sum.inl ()))
def Bw (a0:List Int):Option Int:=(Ad (fun(s:((List Int)×Int×Int))=>Aq s.1 s.2.1 s.2.2) (a0,(a0.length:Int),(0:Int))).bind fun x0=>Sum.elim (fun x1=>some (-(1:Int))) (fun x2=>some x2) x0
def DM:Ent:=⟨Cs,fun x=>Bw x⟩
def DO:TX:=⟨Q6,PA,[],[4],[Ng.E],Cs⟩
theorem HT(a0:List (Int)):wtF DO Tryz.f233 (a0)=Bw a0:=by kernel_rfl
theorem G6:CB RR DM:=N1 (X:=DO) ⟨AP4,R5,AT4⟩ (Qg (by exact⟨⟨Ng.k,rfl⟩,trivial⟩)) (A2u CG (by kernel_rfl) rfl rfl rfl rfl rfl rfl) ⟨Tryz.func233,rfl,by kernel_rfl,rfl⟩ (fun x=>by exact HT x)
def Bi (a0:List Int):Option Bool:=(Bw a0).bind fun x0=>some (decide (x0>=0))
def De:Ent:=⟨BW,fun x=>Bi x⟩
def Db:TX:=⟨Q6,PA,[],[4],[DM],BW⟩
theorem GR(a0:List (Int)):wtF Db Tryz.f180 (a0)=Bi a0:=by kernel_rfl
theorem Gb:CB RR De:=N1 (X:=Db) ⟨AP4,R5,AT4⟩ (Qg (by exact⟨⟨G6,rfl⟩,trivial⟩)) (A2u Cf (by kernel_rfl) rfl rfl rfl rfl rfl rfl) ⟨Tryz.func180,rfl,by kernel_rfl,rfl⟩ (fun x=>by exact GR x)
def Gm:OKE:=⟨De,Gb,rfl⟩
def Gs (a0:List Int):Option Bool:=(Bi a0).bind fun x0=>some (!x0)
def Af3:OKE:=fq Qu (fun x=>Gs x) [Gm] Tryz.func123
def M3 (a0 a1:Int):Option (List UInt8):=(Dy a0).bind fun x0=>(Rp ([80,53,10]:List UInt8) x0).bind fun x1=>(Rp x1 ([32]:List UInt8)).bind fun x2=>(Dy a1).bind fun x3=>(Rp x2 x3).bind fun x4=>(Rp x4 ([10,50,53,53,10]:List UInt8)).bind fun x5=>some x5
def A1F:OKE:=fq Ao9 (fun x=>M3 x.1 x.2) [M7] Tryz.func128
def E6 (a0 a1:Int) (a2:List Int):Option (List UInt8×Bool):=AO8 AO Gs M3 a0 a1 a2
def K8:Ent:=⟨K3,fun x=>E6 x.1 x.2.1 x.2.2⟩
theorem Qz:CB RR K8:=A20 AO Gs M3 (by kernel_rfl) (fun J hJ=>Ai3 hJ) FF.k Af3.k A1F.k fun _ _ _ _ _ h=>Or.inr (Or.inr (Or.inr (Or.inr (Or.inr (h)))))
def Sr:OKE:=⟨K8,Qz,rfl⟩
def Kc (a0:List UInt8) (a1:Tq7):Option (List UInt8×Bool):=(Gf a0 (a1.1,a1.2.1,a1.2.2.1,a1.2.2.2)).bind fun x0=>bif(!x0.2)then some (([]:List UInt8),false)else(E6 a1.2.2.1 a1.2.2.2 x0.1).bind fun x1=>some (x1.1,x1.2)
def Tz:OKE:=fq Th (fun x=>Kc x.1 x.2) [Wn,Sr] Tryz.func64
def C0 (a0:List UInt8) (a1:Tq7):Option Bool:=bif decide ((a0.length:Int)>1048576)then some true else(Ge (a1.1,a1.2.1,a1.2.2.1,a1.2.2.2)).bind fun x0=>(Kf a0 (x0.1,x0.2.1,x0.2.2.1,x0.2.2.2)).bind fun x1=>(Ge (a1.1,a1.2.1,a1.2.2.1,a1.2.2.2)).bind fun x2=>(Kc a0 (x2.1,x2.2.1,x2.2.2.1,x2.2.2.2)).bind fun x3=>bif(!(x3.1==x1.1))then some false else bif(!(x3.2==x1.2))then some false else some true
def PS:Ent:=⟨FM,fun x=>C0 x.1 x.2⟩
def Jl:TX:=⟨Q6,PA,[],[4],[Q7.E,Tq.E,Tz.E],FM⟩
theorem Pp(a0:List UInt8)(a1:Tq7):wtF Jl Tryz.f10 (a0,a1)=C0 a0 a1:=by kernel_rfl
theorem OK:CB RR PS:=N1 (X:=Jl) ⟨AP4,R5,AT4⟩ (Qg (by exact⟨⟨Q7.k,rfl⟩,⟨⟨Tq.k,rfl⟩,⟨⟨Tz.k,rfl⟩,trivial⟩⟩⟩)) (AH8 (by kernel_rfl)) ⟨Tryz.func10,rfl,by kernel_rfl,rfl⟩ (fun x=>by exact Pp x.1 x.2)
end
section
open Go
section
variable {α β σ ρ:Type} {body:σ->Option (σ⊕ρ)}
theorem Yb{l:List α}(st:Nat->β->σ)(step:β->α->β)(fin:β->ρ)(I:Nat->β->Prop)
  (hgo:∀k b a,l[k]? =some a->I k b->body (st k b)=some (.inl (st (k+1) (step b a)))/\I (k+1) (step b a))
  (hend:∀b,I l.length b->body (st l.length b)=some (.inr (fin b))) (b:β) (h0:I 0 b):
  Ad body (st 0 b)=some (fin (l.foldl step b))/\I l.length (l.foldl step b):=by
 have key:∀(n k:Nat)(b:β),k+n=l.length->I k b->Ad body (st k b)=some (fin ((l.drop k).foldl step b))/\I l.length ((l.drop k).foldl step b):=by
  intro n
  induction n with
  |zero=>
   intro k b hk hI;have:k=l.length:=by omega
   subst this;rw[List.drop_length];exact⟨Aj (hend b hI),hI⟩
  |succ n ih=>
   intro k b hk hI;have hlt:k<l.length:=by omega
   have hd:l.drop k=l[k]::l.drop (k+1):=zb0 hlt;have he:l[k]? =some l[k]:=za1 hlt;obtain⟨h1,h2⟩:=hgo k b _ he hI;rw[hd,List.foldl_cons,AM h1];exact ih (k+1) _ (by omega) h2
 have:=key l.length 0 b (by omega) h0
 rwa[zf0]at this
def S5(step:β->α->ρ⊕β):β->List α->ρ⊕β
 |b,[]=>.inr b
 |b,a::l=>match step b a with|.inl r=>.inl r|.inr b'=>S5 step b' l
theorem A1d{l:List α}(st:Nat->β->σ)(step:β->α->ρ⊕β)(fin:β->ρ)(I:Nat->β->Prop)
  (hgo:∀k b a,l[k]? =some a->I k b->(∃b',step b a=.inr b'/\body (st k b)=some (.inl (st (k+1) b'))/\I (k+1) b')\/∃r,step b a=.inl r/\body (st k b)=some (.inr r))
  (hend:∀b,I l.length b->body (st l.length b)=some (.inr (fin b))) (b:β) (h0:I 0 b):
  Ad body (st 0 b)=some (Sum.elim id fin (S5 step b l))/\∀b',S5 step b l=.inr b'->I l.length b':=by
 have key:∀(n k:Nat)(b:β),k+n=l.length->I k b->Ad body (st k b)=some (Sum.elim id fin (S5 step b (l.drop k)))/\∀b',S5 step b (l.drop k)=.inr b'->I l.length b':=by
  intro n
  induction n with
  |zero=>
   intro k b hk hI;have:k=l.length:=by omega
   subst this;rw[List.drop_length];exact⟨Aj (hend b hI),fun b' h=>by cases h;exact hI⟩
  |succ n ih=>
   intro k b hk hI;have hlt:k<l.length:=by omega
   have hd:l.drop k=l[k]::l.drop (k+1):=zb0 hlt;have he:l[k]? =some l[k]:=za1 hlt;rw[hd];unfold S5;rcases hgo k b _ he hI with⟨b',h1,h2,h3⟩|⟨r,h1,h2⟩
   ·rw[h1,AM h2];exact ih (k+1) _ (by omega) h3
   ·rw[h1];exact⟨Aj h2,fun b' h=>by cases h⟩
 have:=key l.length 0 b (by omega) h0
 rwa[zf0]at this
theorem KX(st:Nat->β->σ)(fin:β->ρ)(I:Nat->β->Prop)
  (hgo:∀n b,I (n+1) b->∃b',body (st (n+1) b)=some (.inl (st n b'))/\I n b')
  (hend:∀b,I 0 b->body (st 0 b)=some (.inr (fin b))):∀n b,I n b->∃b',Ad body (st n b)=some (fin b')/\I 0 b':=by
 intro n
 induction n with
 |zero=>intro b h;exact⟨b,Aj (hend b h),h⟩
 |succ n ih=>
  intro b h;obtain⟨b1,h1,h2⟩:=hgo n b h;obtain⟨b2,h3,h4⟩:=ih b1 h2;exact⟨b2,by rw[AM h1,h3],h4⟩
end
theorem Eo{β σ ρ:Type}{body:σ->Option (σ⊕ρ)}(st:Nat->β->σ)(fin:β->ρ)(I:Nat->β->Prop)(e:Nat)
  (hgo:∀k b,k<e->I k b->∃b',body (st k b)=some (.inl (st (k+1) b'))/\I (k+1) b')
  (hend:∀b,I e b->body (st e b)=some (.inr (fin b))):∀k b,k<=e->I k b->∃b',Ad body (st k b)=some (fin b')/\I e b':=by
 have key:∀(n k:Nat)(b:β),k+n=e->I k b->∃b',Ad body (st k b)=some (fin b')/\I e b':=by
  intro n
  induction n with
  |zero=>
   intro k b hk hI;have:k=e:=by omega
   subst this;exact⟨b,Aj (hend b hI),hI⟩
  |succ n ih=>
   intro k b hk hI;obtain⟨b1,h1,h2⟩:=hgo k b (by omega) hI;obtain⟨b2,h3,h4⟩:=ih (k+1) b1 (by omega) h2;exact⟨b2,by rw[AM h1,h3],h4⟩
 intro k b hk hI;exact key (e-k) k b (by omega) hI
theorem YJ{n:Int}(h1:0<=n)(h2:n<18446744073709551616):zi zk n=n:=by rw[IntKind.wrap_u64];omega
def Ao4{α:Type}(l:List α):Prop:=l.length<1099511627776
theorem DY{α:Type}{l:List α}{k:Nat}{a:α}(h:l[k]? =some a):k<l.length:=(za3.1 h).1
structure Cur (B:Nat) (c:List Int×Int×Int):Prop where
 bytes:∀b∈c.1,0<=b/\b<=255
 short:c.1.length<=1048576
 lo:0<=c.2.1
 hi:c.2.1<=(B:Int)
 seed0:0<=c.2.2
 seed1:c.2.2<18446744073709551616
theorem Cur.start{l:List Int}(h:∀b∈l,0<=b/\b<=255)(hl:l.length<=1048576):Cur 0 (l,0,0):=⟨h,hl,by simp,by simp,by simp,by simp⟩
theorem Cur.mono{B B':Nat}{c:List Int×Int×Int}(h:Cur B c)(hb:B<=B'):Cur B' c:=⟨h.bytes,h.short,h.lo,by have:=h.hi;omega,h.seed0,h.seed1⟩
theorem obs{α β:Type}(a:α)(f:α->Option β):(some a).bind f=f a:=(rfl)
theorem cT{α:Type}(a b:α):(bif true then a else b)=a:=(rfl)
theorem cF{α:Type}(a b:α):(bif false then a else b)=b:=(rfl)
theorem nT:(!true)=false:=(rfl)
theorem nF:(!false)=true:=(rfl)
theorem AT{α β:Type}(p:α×β):(p.1,p.2)=p:=by cases p;rfl
theorem sEl{α β γ:Type}(f:α->γ)(g:β->γ)(x:α):Sum.elim f g (.inl x)=f x:=(rfl)
theorem sEr{α β γ:Type}(f:α->γ)(g:β->γ)(x:β):Sum.elim f g (.inr x)=g x:=(rfl)
end
section
open Go
end
section
open Go
structure GP (p:Int×Int):Prop where
 a: -1000<=p.1
 b:p.1<=1001
 c: -2<=p.2
 d:p.2<=8
structure GW (l:List (Int×Int)):Prop where
 pts:∀p∈l,GP p
 lo:3<=l.length
 hi:l.length<=13
end
section
open Go
section
variable {α β:Type}
end
section
variable {α:Type}
end
end
section
open Go
abbrev P2:=Int×Int
def C7(a b c:Int):Bool:=decide (b<=a)&&decide (a<=c)
theorem Rn(a b c:Int):AO a b c=some (C7 a b c):=by
 unfold AO C7;by_cases h:a>=b<;>simp[h]
theorem Sw(a b c:Int):BP a b c=some (C7 a b c):=by
 unfold BP C7;by_cases h:a>=b<;>simp[h]
theorem Jx{a b c:Int}:C7 a b c=true↔b<=a/\a<=c:=by simp[C7]
def DS(p:P2):Bool:=C7 p.1 (-1000) 1000&&C7 p.2 (-1000) 1000
theorem At3(p:P2):FJ p=some (DS p):=by
 unfold FJ DS;simp only[Sw,za0];cases C7 p.1 (-1000) 1000<;>rfl
theorem AC1{p:P2}:DS p=true↔ -1000<=p.1/\p.1<=1000/\ -1000<=p.2/\p.2<=1000:=by
 simp only[DS,za2,Jx];omega
theorem A0i{k:Nat}{α:Type}{l:List α}{a:α}(h:l[k]? =some a):decide ((k:Int)<(l.length:Int))=true:=by have:=DY h;simpa using this
theorem A43{α:Type}(l:List α):decide ((l.length:Int)<(l.length:Int))=false:=by simp
theorem A3j{l:List P2}(hl:Ao4 l):OF l=some (l.all DS):=by
 unfold OF;unfold Ao4 at hl;have key:=Gd (body:=fun s:List (Int×Int)×Int×Int=>HK s.1 s.2.1 s.2.2) (l:=l) (st:=fun k=>(l,(l.length:Int),(k:Int))) (p:=DS) (fin:=.inl ()) (bad:=fun k=>.inr false)
  (fun k a hk hp=>by
   have:=DY hk;unfold HK;simp only[A0i hk,cond_true,Ah,hk,za0,At3,hp,zg0,cond_false,AJ (show k<4611686018427387904 by omega)])
  (fun k a hk hp=>by
   unfold HK;simp only[A0i hk,cond_true,Ah,hk,za0,At3,hp,Bool.not_false])
  (by unfold HK;simp only[A43,cond_false])
 cases hall:l.all DS with
 |true=>
  have h:=key.1 hall;rw[show((0:Nat):Int)=0 from rfl]at h;simp only[h,za0,Sum.elim_inl]
 |false=>
  obtain⟨k,_,h⟩:=key.2 hall;rw[show((0:Nat):Int)=0 from rfl]at h;simp only[h,za0,za8]
section
variable {a b c d p:P2} (ha:DS a=true) (hb:DS b=true) (hc:DS c=true) (hd:DS d=true) (hp:DS p=true)
include ha hb hc
end
end
section
open Go
def JX(l:List P2):Bool:=(decide (3<=l.length)&&decide (l.length<=12))&&l.all DS
theorem IN{l:List P2}:JX l=true↔(3<=l.length/\l.length<=12)/\∀p∈l,DS p=true:=by
 simp[JX,za5,and_assoc]
theorem Ay8(l:List P2):C7 (l.length:Int) 3 12=(decide (3<=l.length)&&decide (l.length<=12)):=by
 unfold C7
 congr 1<;>rw[decide_eq_decide]<;>omega
theorem A2O{l:List P2}(h:Ao4 l):OC l=some (JX l):=by
 unfold OC JX;simp only[Sw,za0,A3j h,Ay8];cases(decide (3<=l.length)&&decide (l.length<=12))<;>rfl
end
section
open Go
variable {α β γ:Type}
theorem Hv{s t:Str}(h:s.length+t.length<=9223372036854775807):Rp s t=some (s++t):=by unfold Rp;rw[zr h]
end
section
open Go
def Ft(b:UInt8):Bool:=decide (48<=b.toNat)&&decide (b.toNat<=57)
theorem FQ{b:UInt8}:Ft b=true↔48<=b.toNat/\b.toNat<=57:=by simp[Ft]
def Kq(n:Nat)(l:Str):Nat:=l.foldl (fun a b=>a*10+(b.toNat-48)) n
theorem Yu(n:Nat)(l:Str)(b:UInt8):Kq n (l++[b])=Kq n l*10+(b.toNat-48):=by unfold Kq;simp
def Ap8(l:Str):Prop:=(∀b∈l,Ft b=true)/\l≠[]/\¬(l.head?=some 48/\1<l.length)
theorem A38{b:UInt8}(h:48<=b.toNat):UInt8.ofNat (48+(b.toNat-48))=b:=by
 rw[show 48+(b.toNat-48)=b.toNat by omega];exact UInt8.ofNat_toNat
theorem Ah7{n:Nat}(h:n<10):Ft (UInt8.ofNat (48+n))=true/\(UInt8.ofNat (48+n)).toNat=48+n:=by
 have:(UInt8.ofNat (48+n)).toNat=48+n:=by rw[UInt8.toNat_ofNat'];omega
 exact⟨FQ.2 (by omega),this⟩
theorem Z3{b:UInt8}:b=48↔b.toNat=48:=by
 constructor
 ·rintro rfl;rfl
 ·intro h;have:b.toNat=(48:UInt8).toNat:=h;exact UInt8.toNat_inj.1 this
theorem Al0:∀(l:Str)(n:Nat),1<=n->1<=Kq n l
 |[],n,h=>h
 |b::l,n,h=>by
  unfold Kq;rw[List.foldl_cons];exact Al0 l _ (by omega)
theorem AO6{b:UInt8}{l:Str}(hb:Ft b=true)(h:b≠48):1<=Kq 0 (b::l):=by
 unfold Kq;rw[List.foldl_cons];refine Al0 l _ ?_
 have:=FQ.1 hb;have h2:b.toNat≠48:=fun h2=>h (Z3.2 h2)
 omega
theorem Y2:∀(n:Nat)(l:Str),l.length=n->Ap8 l->Lib.decDigits (Kq 0 l)=l
 |0,l,hn,h=>absurd (zb2 hn) h.2.1
 |n+1,l,hn,h=>by
  obtain⟨e,b,rfl⟩:∃e b,l=e++[b]:=⟨l.dropLast,l.getLast h.2.1,(List.dropLast_concat_getLast h.2.1).symm⟩;have hb:=FQ.1 (h.1 b (by simp));rw[Yu];cases e with
  |nil=>
   show Lib.decDigits (0*10+(b.toNat-48))=[b];rw[Lib.decDigits_one (by omega),Nat.zero_mul,ze4,A38 hb.1]
  |cons c e=>
   have hc0:c≠48:=by
    rintro rfl;exact h.2.2 ⟨rfl,by simp⟩
   have hcd:Ft c=true:=h.1 c (by simp);have h1:=AO6 (l:=e) hcd hc0;rw[Lib.decDigits,dif_neg (by omega),show(Kq 0 (c::e)*10+(b.toNat-48))/10=Kq 0 (c::e) by omega,show(Kq 0 (c::e)*10+(b.toNat-48))%10=b.toNat-48 by omega,A38 hb.1,
    Y2 n (c::e) (by simpa using hn) ⟨fun x hx=>h.1 x (by simp at hx⊢;rcases hx with rfl|hx<;>simp_all),by simp,fun hh=>hc0 (zv hh.1)⟩]
theorem Lh(u:Nat):Ap8 (Lib.decDigits u)/\Kq 0 (Lib.decDigits u)=u/\(1<=u->(Lib.decDigits u).head?≠some 48):=by
 induction u using Nat.strongRecOn with
 |ind u ih=>
  by_cases h:u<10
  ·rw[Lib.decDigits_one h];obtain⟨h1,h2⟩:=Ah7 h;refine⟨⟨fun b hb=>by cases zf2.1 hb;exact h1,by simp,fun hh=>by simp at hh⟩,?_,fun hu=> ?_⟩
   ·show 0*10+((UInt8.ofNat (48+u)).toNat-48)=u;rw[h2];omega
   ·intro hh;have:=Z3.1 (zv hh);omega
  ·obtain⟨⟨c1,c2,c3⟩,h2,h3⟩:=ih (u/10) (by omega);obtain⟨g1,g2⟩:=Ah7 (n:=u%10) (by omega);have hh:(Lib.decDigits (u/10)++[UInt8.ofNat (48+u%10)]).head?≠some 48:=by
    rw[List.head?_append];cases hz:Lib.decDigits (u/10)with
    |nil=>exact absurd hz c2
    |cons a t=>rw[hz]at h3;exact h3 (by omega)
   rw[Lib.decDigits,dif_neg h];refine⟨⟨fun b hb=> ?_,by simp,fun h=>hh h.1⟩,?_,fun _=>hh⟩
   ·rcases zb6.1 hb with hb|hb
    ·exact c1 b hb
    ·cases zf2.1 hb;exact g1
   ·rw[Yu,h2,g2];omega
theorem ZU{u:Nat}{t:Str}:Lib.decDigits u≠45::t:=by
 intro h;have:=(Lh u).1.1 45 (by rw[h];simp);simp[Ft]at this
theorem Au2{u:Nat}:(Lib.decDigits u).length<=4↔u<=9999:=by
 rw[Lib.decDigits_length];have h1:=Lib.lt_pow_nDigits u;constructor
 ·intro h;have:10^Lib.nDigits u<=10^4:=Nat.pow_le_pow_right (by omega) h;omega
 ·intro h;by_cases h0:u<10
  ·rw[Lib.nDigits_small h0];omega
  by_cases h0:u<100
  ·rw[Lib.nDigits_unique 1 u (by omega) (by omega)];omega
  by_cases h0:u<1000
  ·rw[Lib.nDigits_unique 2 u (by omega) (by omega)];omega
  ·rw[Lib.nDigits_unique 3 u (by omega) (by omega)];omega
theorem Wt:∀(l:Str)(acc:Nat),(∀b∈l,Ft b=true)->acc*10^l.length+10^l.length<=1000000000000000000->Lib.parseUint10 acc l=.ok (Kq acc l)
 |[],acc,_,_=>rfl
 |b::l,acc,h,hl=>by
  have hb:=FQ.1 (h b (by simp));have hp:1<=10^l.length:=Nat.one_le_pow _ _ (by omega);have e:(b::l).length=l.length+1:=rfl;rw[e,Nat.pow_succ]at hl;have h1:acc*(10^l.length*10)=(acc*10)*10^l.length:=by rw[Nat.mul_comm (10^l.length) 10,Nat.mul_assoc]
  rw[h1]at hl;have h2:acc*10<=(acc*10)*10^l.length:=Nat.le_mul_of_pos_right _ (by omega);have h3:(acc*10+(b.toNat-48))*10^l.length<=(acc*10)*10^l.length+9*10^l.length:=by
   rw[<-zf6];exact zd8 _ (by omega)
  rw[Lib.parseUint10,zr hb,zw (by omega),zw (by omega),Wt l _ (fun x hx=>h x (List.mem_cons_of_mem _ hx)) (by omega)];rfl
theorem AK4{b:UInt8}{n:Nat}(hd:Ft b=true)(h:n<48):b.toNat≠n:=by have:=FQ.1 hd;omega
theorem AQ0{v:Int}(h0: -9999<=v)(h1:v<=9999):Lib.atoiAll (Lib.itoa v)=.ok v:=by
 have key:∀u:Nat,u<=9999->Lib.parseMag (Lib.decDigits u)=.ok u:=by
  intro u hu;obtain⟨⟨c1,c2,_⟩,c4,_⟩:=Lh u;have h4:=Au2.2 hu;unfold Lib.parseMag;rw[zw c2,Wt _ _ c1 (by
   have:10^(Lib.decDigits u).length<=10^4:=Nat.pow_le_pow_right (by omega) h4;omega),c4]
 unfold Lib.itoa;by_cases hv:v<0
 ·rw[zr hv];unfold Lib.atoiAll;simp only;rw[zr (Or.inr (by rfl)),key v.natAbs (by omega)];simp only;rw[zw (fun h=>h.1 rfl),zw (by omega),zr (by rfl)]
  congr 1;omega
 ·rw[zw hv];have hk:=key v.toNat (by omega);obtain⟨⟨c1,c2,_⟩,_⟩:=Lh v.toNat;cases hz:Lib.decDigits v.toNat with
  |nil=>exact absurd hz c2
  |cons b t=>
   rw[hz]at hk c1;have hb:=c1 b (by simp);unfold Lib.atoiAll;simp only;rw[zw (by
    rintro(h|h)
    ·exact AK4 hb (by omega) h
    ·exact AK4 hb (by omega) h),hk]
   simp only;rw[zw (by omega),zw (fun h=>AK4 hb (by omega) h.1),zw (AK4 hb (by omega))]
   congr 1;omega
end
section
open Go
theorem Nf{p:UInt8->Bool}:∀{l:Str},∀b∈l.takeWhile p,p b=true
 |[],b,h=>by simp at h
 |a::l,b,h=>by
  rw[List.takeWhile_cons]at h;by_cases ha:p a=true
  ·rw[zr ha]at h;rcases zc7.1 h with rfl|h
   ·exact ha
   ·exact Nf b h
  ·rw[zw ha]at h;exact absurd h List.not_mem_nil
def G9(s:Str)(n k:Nat):Str:=((s.drop k).take n).takeWhile Ft
theorem Y4(s:Str)(k:Nat):G9 s 0 k=[]:=by simp[G9]
theorem Wi{s:Str}{k:Nat}(n:Nat)(h:s.length<=k):G9 s n k=[]:=by simp[G9,zc9 h]
theorem YK{s:Str}{k n:Nat}{b:UInt8}(h:s[k]? =some b):G9 s (n+1) k=if Ft b then b::G9 s n (k+1)else []:=by
 have hlt:=DY h;unfold G9;rw[zb0 hlt,List.take_succ_cons,List.takeWhile_cons];have:s[k]=b:=by rw[za1 hlt]at h;exact zv h
 rw[this]
theorem Aj9(s:Str)(n k:Nat):(G9 s n k).length<=n:=by
 have h1:=(List.takeWhile_sublist Ft (l:=(s.drop k).take n)).length_le;have h2:=List.length_take_le n (s.drop k);unfold G9;omega
theorem Aj3(s:Str)(n k:Nat):∀b∈G9 s n k,Ft b=true:=Nf
theorem Ad6(s:Str):∀(n k i:Nat),i<(G9 s n k).length->s[k+i]? =(G9 s n k)[i]?
 |0,k,i,h=>by rw[Y4]at h;simp at h
 |n+1,k,i,h=>by
  by_cases hk:k<s.length
  ·have e:=YK (n:=n) (za1 hk);rw[e]at h⊢
   by_cases hd:Ft s[k]=true
   ·rw[zr hd]at h⊢
    cases i with
    |zero=>simp[hk]
    |succ i=>
     rw[show k+(i+1)=(k+1)+i by omega,Ad6 s n (k+1) i (by simpa using h)];simp
   ·rw[zw hd]at h;simp at h
  ·rw[Wi _ (by omega)]at h;simp at h
theorem A3J(l:Str)(h:∀b∈l,Ft b=true):Kq 0 l<10^l.length:=by
 have key:∀(l:Str)(n:Nat),(∀b∈l,Ft b=true)->Kq n l<(n+1)*10^l.length:=by
  intro l
  induction l with
  |nil=>intro n _;simp[Kq]
  |cons b l ih=>
   intro n h;have hb:=FQ.1 (h b (by simp));have:=ih (n*10+(b.toNat-48)) (fun x hx=>h x (List.mem_cons_of_mem _ hx));have e:Kq n (b::l)=Kq (n*10+(b.toNat-48)) l:=rfl;rw[e,zb9,Nat.pow_succ,Nat.mul_comm (10^l.length) 10,<-Nat.mul_assoc];refine zd9 this (zd8 _ (by omega))
 have:=key l 0 h;simpa using this
theorem A2m{s:Str}(hs:s.length<4611686018427387904){a:Nat}(ha:a<4611686018427387904):∀(m:Nat)(n k:Nat),k+m=a+4->a<=k->n<10^(k-a)->
  Ad (fun(t:(Str×(Int×(Int×Int))))=>Da t.1 t.2.1 t.2.2.1 t.2.2.2) (s,(a:Int),(n:Int),(k:Int))=some (s,(a:Int),((Kq n (G9 s m k):Nat):Int),((k+(G9 s m k).length:Nat):Int)):=by
 intro m
 induction m with
 |zero=>
  intro n k hk hak hn;rw[Y4];refine Aj ?_
  unfold Da;simp only;by_cases h1:(k:Int)<(s.length:Int)
  ·rw[zp h1,cT,Ae (by omega) (by omega),zq (by omega),cF];rfl
  ·rw[zq h1,cF];rfl
 |succ m ih=>
  intro n k hk hak hn;by_cases h1:k<s.length
  ·have e:s[k]? =some s[k]:=za1 h1;generalize s[k]=b at e;rw[YK e];have hb:=b.toNat_lt;by_cases hd:Ft b=true
   ·have hd':=FQ.1 hd;have hp:10^(k-a)<=10^3:=Nat.pow_le_pow_right (by omega) (by omega);rw[zr hd];have hgo:(fun(t:(Str×(Int×(Int×Int))))=>Da t.1 t.2.1 t.2.2.1 t.2.2.2) (s,(a:Int),(n:Int),(k:Int))=some (.inl (s,(a:Int),((n*10+(b.toNat-48):Nat):Int),((k+1:Nat):Int))):=by
     unfold Da;simp only;rw[zp (by omega),cT,Ae (n:=(a:Int)+4) (by omega) (by omega),zp (by omega),cT,Ah,e,obs,zp (by omega),cT,obs,zp (by omega),cT,obs,AJ (by omega)];have w1:zi .u8 (((b.toNat:Nat):Int)-48)=((b.toNat-48:Nat):Int):=by rw[IntKind.wrap_u8];omega
     rw[w1,Ae (n:=((b.toNat-48:Nat):Int)) (by omega) (by omega),Ae (n:=10*(n:Int)) (by omega) (by omega),Ae (by omega) (by omega)]
     congr 4
     have:(10:Int)*(n:Int)+((b.toNat-48:Nat):Int)=((n*10+(b.toNat-48):Nat):Int):=by push_cast;omega
     rw[this]
    rw[AM hgo,ih (n*10+(b.toNat-48)) (k+1) (by omega) (by omega) (by
     rw[show k+1-a=(k-a)+1 by omega,Nat.pow_succ];omega)]
    congr 4
    simp only[zb9]
    congr 1
    omega
   ·have hd':¬(48<=b.toNat/\b.toNat<=57):=fun h=>hd (FQ.2 h)
    rw[zw hd];refine Aj ?_
    unfold Da;simp only;rw[zp (by omega),cT,Ae (n:=(a:Int)+4) (by omega) (by omega),zp (by omega),cT,Ah,e,obs];by_cases c:48<=b.toNat
    ·rw[zp (by omega),cT,obs,zq (by omega),cF];rfl
    ·rw[zq (by omega),cF];rfl
  ·rw[Wi _ (by omega)];refine Aj ?_
   unfold Da;simp only;rw[zq (by omega),cF];rfl
def Xv(d:Str):Prop:=d=[]\/(d.head?=some 48/\1<d.length)
instance (d:Str):Decidable (Xv d):=by unfold Xv;infer_instance
def Im(s:Str)(a:Nat):Int×Int:=let d:=G9 s 4 a;if Xv d then(-1,(a:Int))else((Kq 0 d:Nat),((a+d.length:Nat):Int))
theorem Wj{s:Str}(hs:s.length<4611686018427387904){a:Nat}(ha:a<4611686018427387904):LQ s (a:Int)=some (Im s a):=by
 unfold LQ Im;have h:=A2m hs ha 4 0 a rfl (za7 _) (by simp);have h':Ad (fun(t:(Str×(Int×(Int×Int))))=>Da t.1 t.2.1 t.2.2.1 t.2.2.2) (s,(a:Int),(0:Int),(a:Int))=_:=h;rw[h',obs];have hl:=Aj9 s 4 a;have h0:=Ad6 s 4 a 0;cases hd:G9 s 4 a with
 |nil=>
  have hb0:Xv ([]:Str):=Or.inl rfl;simp only[hb0,if_true,zf3,Nat.add_zero,beq_self_eq_true,cond_true]
 |cons b t=>
  rw[hd]at hl h0;have hb:s[a]? =some b:=by
   have:=h0 (by simp);rw[Nat.add_zero]at this;rw[this];rfl
  have hlb:=DY hb;simp only[zb9]at hl⊢
  rw[show(((a+(t.length+1):Nat):Int)==(a:Int))=false by simp;omega,cF,Ah,hb,obs];by_cases c:b=48
  ·subst c;rw[show((((48:UInt8).toNat:Nat):Int)==48)=true from rfl,cT,Ae (by omega) (by omega)];by_cases c2:t.length=0
   ·have hn:¬Xv (48::t):=by
     rintro(h|⟨_,h⟩)
     ·cases h
     ·simp at h;omega
    rw[zq (by omega),cF,zw hn]
   ·rw[zp (by omega),cT,zr (show Xv (48::t)from Or.inr ⟨rfl,by simp;omega⟩)]
  ·have c':¬b.toNat=48:=fun h=>c (Z3.2 h)
   have hn:¬Xv (b::t):=by
    rintro(h|⟨h,_⟩)
    ·cases h
    ·exact c (zv h)
   rw[show((((b.toNat:Nat):Int))==48)=false by simp;omega,cF,zw hn]
end
section
open Go
theorem Ks{n:Nat}(h:n<18446744073709551616):(Lib.decDigits n).length<=20:=by rw[Lib.decDigits_length];exact Lib.nDigits_le20 n h
theorem AD5{n:Int}(h0: -9223372036854775808<=n)(h1:n<=9223372036854775807):Dy n=some (Lib.itoa n):=by
 unfold Dy VU;rw[zr ⟨h0,h1⟩]
theorem A2h{n:Int}(h:0<=n):Lib.itoa n=Lib.decDigits n.toNat:=by unfold Lib.itoa;rw[zw (by omega)]
theorem Ln{n:Int}(h0: -9223372036854775808<=n)(h1:n<9223372036854775808):(Lib.itoa n).length<=21:=by
 unfold Lib.itoa
 split
 ·have:=Ks (n:=n.natAbs) (by omega);simp;omega
 ·have:=Ks (n:=n.toNat) (by omega);omega
end
section
open Go
def MX(s:Str):Int×Bool:=match Lib.atoiAll s with|.ok v=>if-9999<=v/\v<=9999/\Lib.itoa v=s then(v,true)else(0,false)|_=>(0,false)
theorem A1y{v:Int}(h: -9999<=v/\v<=9999):MX (Lib.itoa v)=(v,true):=by
 unfold MX;rw[AQ0 h.1 h.2];simp only;rw[zr ⟨h.1,h.2,trivial⟩]
theorem Kl(s:Str):(∃v:Int,-9999<=v/\v<=9999/\s=Lib.itoa v/\MX s=(v,true))\/(MX s=(0,false)/\∀v:Int,-9999<=v->v<=9999->s≠Lib.itoa v):=by
 by_cases h:∃v:Int,-9999<=v/\v<=9999/\s=Lib.itoa v
 ·obtain⟨v,h0,h1,rfl⟩:=h;exact .inl ⟨v,h0,h1,rfl,A1y ⟨h0,h1⟩⟩
 ·refine .inr ⟨?_,fun v h0 h1 h2=>h ⟨v,h0,h1,h2⟩⟩
  unfold MX
  split
  ·rw[zw];rintro⟨h0,h1,h2⟩;exact h ⟨_,h0,h1,h2.symm⟩
  ·rfl
theorem A2G(n:Int):IB n=some (decide (-9999<=n/\n<=9999)):=by
 unfold IB AO;by_cases h:n>= -9999
 ·rw[zp h,cT,obs];congr 1;simp;omega
 ·rw[zq h,cF,obs];congr 1;simp;omega
theorem Ag0{s:Str}(hs:s.length<=281474976710656):Gn s=some (MX s):=by
 unfold Gn JL VY MX OW;rw[zr hs,obs];cases hz:Lib.atoiAll s with
 |ok v=>
  simp only[cF,A2G,obs];by_cases h: -9999<=v/\v<=9999
  ·rw[zp h,nT,cF,AD5 (by omega) (by omega),obs];by_cases h2:Lib.itoa v=s
   ·rw[zr ⟨h.1,h.2,h2⟩,h2,beq_self_eq_true,nT,cF]
   ·rw[zw (fun hh=>h2 hh.2.2),beq_eq_false_iff_ne.2 h2,nF,cT]
  ·rw[zq h,nF,cT,zw (fun hh=>h ⟨hh.1,hh.2.1⟩)]
 |range=>rfl
 |_=>rfl
theorem Aw5{d t:Str}{n:Nat}(h:Ap8 d)(hn:d.length<=n)(hb:∀b,t.head?=some b->Ft b=false):G9 (d++t) n 0=d:=by
 unfold G9;rw[zf0];have key:∀(d:Str)(n:Nat),(∀b∈d,Ft b=true)->d.length<=n->((d++t).take n).takeWhile Ft=d:=by
  intro d
  induction d with
  |nil=>
   intro n _ _;cases n with
   |zero=>simp
   |succ n=>
    cases t with
    |nil=>simp
    |cons b t=>simp[hb b rfl]
  |cons b d ih=>
   intro n hd hn;cases n with
   |zero=>simp at hn
   |succ n=>
    rw[List.cons_append,List.take_succ_cons,List.takeWhile_cons,zr (hd b (by simp)),ih n (fun x hx=>hd x (List.mem_cons_of_mem _ hx)) (by simpa using hn)]
 exact key d n h.1 hn
theorem AD7{d:Str}(h:Ap8 d):¬Xv d:=by
 rintro(h1|h1)
 ·exact h.2.1 h1
 ·exact h.2.2 h1
theorem AC7{s:Str}{n k:Nat}(h:¬Xv (G9 s n k)):Ap8 (G9 s n k):=⟨Aj3 s n k,fun h1=>h (.inl h1),fun h1=>h (.inr h1)⟩
theorem RW(u:Nat)(hu:u<=9999):Im (Lib.decDigits u) 0=((u:Int),((Lib.decDigits u).length:Int)):=by
 obtain⟨h1,h2,_⟩:=Lh u;have hd:=Aw5 (t:=[]) h1 (Au2.2 hu) (by simp);rw[ze8]at hd;unfold Im;simp only[hd,zw (AD7 h1),h2,ze4]
theorem Tu(t:Str):(∃u:Nat,u<=9999/\t=Lib.decDigits u)\/((Im t 0).1<0\/(Im t 0).2<(t.length:Int)):=by
 by_cases hb:Xv (G9 t 4 0)
 ·right;left
  unfold Im;simp only[zr hb];omega
 ·have hc:=AC7 hb;have hl:=Aj9 t 4 0;by_cases hh:(G9 t 4 0).length<t.length
  ·right;right
   unfold Im;simp only[zw hb,ze4];omega
  ·left
   have he:G9 t 4 0=t:=by
    have h1:(G9 t 4 0).length<=t.length:=by
     have:=(List.takeWhile_sublist Ft (l:=(t.drop 0).take 4)).length_le;have h2:=List.length_take_le' 4 (t.drop 0);unfold G9;simp only[zf0]at this h2⊢
     omega
    refine List.ext_getElem (by omega) fun i h2 h3=> ?_
    have:=Ad6 t 4 0 i h2;rw[ze4,za1 h3,za1 h2]at this;exact(zv this).symm
   refine⟨Kq 0 (G9 t 4 0),?_,?_⟩
   ·have:=A3J _ (Aj3 t 4 0);have h2:10^(G9 t 4 0).length<=10^4:=Nat.pow_le_pow_right (by omega) hl;omega
   ·rw[Y2 _ _ rfl hc,he]
theorem A52{s:Str}{b:UInt8}:(Kr (1:Int) (((b::s).length:Nat):Int) (b::s).length)=some (1,(b::s).length):=by
 unfold Kr;rw[zr (by simp only[zb9];omega)];simp
theorem Af6{s:Str}(hs:s.length<4611686018427387904):GN s=some (MX s):=by
 unfold GN;cases s with
 |nil=>
  rw[show decide ((((([]:Str).length):Nat):Int)>0)=false from rfl,cF,obs];simp only[za8];rw[cF,obs];simp only[za8];rw[show((0:Int))=((0:Nat):Int)from rfl,Wj hs (by omega),obs];rcases Kl ([]:Str)with⟨v,h0,h1,h2,_⟩|⟨h,_⟩
  ·exfalso
   unfold Lib.itoa at h2
   split at h2
   ·cases h2
   ·exact(Lh _).1.2.1 h2.symm
  ·rw[h];have:Im ([]:Str) 0=(-1,0):=by
    unfold Im;simp only[Wi 4 (show([]:Str).length<=0 by simp)];rfl
   rw[this];rfl
 |cons b t=>
  rw[zp (show(((((b::t)).length:Nat):Int)>0) by simp only[zb9];omega),cT];have hg:AI (b::t) 0=some b:=rfl;rw[hg,obs,obs];simp only[za8];have hlt:t.length<4611686018427387904:=by simp only[zb9]at hs;omega
  by_cases hb:b.toNat=45
  ·have hb':b=45:=UInt8.toNat_inj.1 (show b.toNat=(45:UInt8).toNat from hb);subst hb';rw[show((((45:UInt8).toNat:Nat):Int)==45)=true from rfl,cT,A52,obs,obs];simp only[za8];rw[List.take_length,show List.drop 1 ((45:UInt8)::t)=t from rfl,show((0:Int))=((0:Nat):Int)from rfl,Wj hlt (by omega),obs];rcases Kl ((45:UInt8)::t)with⟨v,h0,h1,h2,h3⟩|⟨h3,h4⟩
   ·rw[h3];have hv:v<0:=by
     rcases Int.lt_or_le v 0 with h|h
     ·exact h
     ·unfold Lib.itoa at h2;rw[zw (by omega)]at h2;exact absurd h2.symm ZU
    have ht:t=Lib.decDigits v.natAbs:=by
     unfold Lib.itoa at h2;rw[zr hv]at h2;exact(List.cons.inj h2).2
    rw[ht,RW _ (by omega)];simp only;rw[zq (by omega),cF,zq (by omega),cF,cT,show(((v.natAbs:Nat):Int)==((0:Nat):Int))=false by simp;omega,cF,obs];simp only[za8,cT];rw[Ae (by omega) (by omega)]
    congr 2;omega
   ·rw[h3];rcases Tu t with⟨u,hu,rfl⟩|h
    ·rw[RW _ hu];simp only;rw[zq (by omega),cF,zq (by omega),cF,cT];by_cases hu0:u=0
     ·subst hu0;rw[show((((0:Nat):Int))==((0:Nat):Int))=true from rfl,cT,obs];rfl
     ·exfalso
      refine h4 (-(u:Int)) (by omega) (by omega) ?_
      unfold Lib.itoa;rw[zr (by omega),Int.natAbs_neg,ze9]
    ·by_cases hn:(Im t 0).1<0
     ·rw[zp (show(Im t 0).1<((0:Nat):Int)from hn),cT,obs];rfl
     ·have h:=h.resolve_left hn;rw[zq (show ¬(Im t 0).1<((0:Nat):Int)from hn),cF,zp h,cT,obs];rfl
  ·rw[show(((b.toNat:Nat):Int)==45)=false by simp;omega,cF,obs];simp only[za8];rw[show((0:Int))=((0:Nat):Int)from rfl,Wj hs (by omega),obs];rcases Kl (b::t)with⟨v,h0,h1,h2,h3⟩|⟨h3,h4⟩
   ·rw[h3];have hv:¬v<0:=by
     intro h;unfold Lib.itoa at h2;rw[zr h]at h2;exact hb (by rw[(List.cons.inj h2).1];rfl)
    have ht:b::t=Lib.decDigits v.toNat:=by
     unfold Lib.itoa at h2;rw[zw hv]at h2;exact h2
    rw[ht,RW _ (by omega)];simp only;rw[zq (by omega),cF,zq (by omega),cF,cF,obs];simp only[za8,cF]
    congr 2;omega
   ·rw[h3];rcases Tu (b::t)with⟨u,hu,he⟩|h
    ·exfalso
     refine h4 (u:Int) (by omega) (by omega) ?_
     unfold Lib.itoa;rw[zw (by omega),zc2,he]
    ·by_cases hn:(Im (b::t) 0).1<0
     ·rw[zp (show(Im (b::t) 0).1<((0:Nat):Int)from hn),cT,obs];rfl
     ·have h:=h.resolve_left hn;rw[zq (show ¬(Im (b::t) 0).1<((0:Nat):Int)from hn),cF,zp h,cT,obs];rfl
end
section
open Go
theorem PR(b c:UInt8)(l:Str):Lib.index (b::l) [c]=if b=c then 0 else if Lib.index l [c]= -1 then-1 else Lib.index l [c]+1:=by
 rw[Lib.index];have:([c]:Str).isPrefixOf (b::l)=(c==b):=by simp[List.isPrefixOf]
 rw[this];by_cases h:b=c
 ·subst h;simp
 ·rw[zw (show ¬(c==b)=true by simpa using Ne.symm h),zw h];by_cases h2:Lib.index l [c]= -1
  ·simp[h2]
  ·rw[zw (by simpa using h2),zw h2]
theorem VW{c:UInt8}:∀{s:Str},c ∉ s->Lib.index s [c]= -1
 |[],_=>by rw[Lib.index];rfl
 |b::l,h=>by
  rw[PR,zw (fun e=>h (by rw[e];simp)),zr (VW (fun hm=>h (List.mem_cons_of_mem _ hm)))]
theorem PV{c:UInt8}:∀{x r:Str},c ∉ x->Lib.index (x++c::r) [c]=(x.length:Nat)
 |[],r,_=>by rw[List.nil_append,PR,zr rfl];rfl
 |b::x,r,h=>by
  have ih:=PV (r:=r) (fun hm:c∈x=>h (List.mem_cons_of_mem _ hm));rw[List.cons_append,PR,zw (fun e=>h (by rw[e];simp)),ih,zw (by omega),zb9];omega
theorem AE4(c:UInt8)(s:Str):c ∉ s\/∃x r,s=x++c::r/\c ∉ x:=by
 by_cases h:c∈s
 ·right
  induction s with
  |nil=>exact absurd h List.not_mem_nil
  |cons b l ih=>
   by_cases hb:b=c
   ·subst hb;exact⟨[],l,rfl,List.not_mem_nil⟩
   ·have hm:c∈l:=by
     rcases zc7.1 h with rfl|h
     ·exact absurd rfl hb
     ·exact h
    obtain⟨x,r,h1,h2⟩:=ih hm;refine⟨b::x,r,by rw[h1,List.cons_append],fun h3=> ?_⟩
    rcases zc7.1 h3 with rfl|h3
    ·exact hb rfl
    ·exact h2 h3
 ·exact .inl h
def Ai(c:UInt8)(s:Str):List Str:=Lib.split s [c]
theorem Hs{c:UInt8}{s:Str}(h:c ∉ s):Ai c s=[s]:=by
 unfold Ai Lib.split;rw[Lib.count_miss (VW h)];rfl
theorem LL{c:UInt8}{x r:Str}(h:c ∉ x):Ai c (x++c::r)=x::Ai c r:=by
 unfold Ai Lib.split;have e:List.drop (x.length+([c]:Str).length) (x++c::r)=r:=by simp
 rw[Lib.count_hit (by simp) (PV h),e,Nat.add_comm,Lib.splitK,PV h,zw (by simp),zc2,Nat.add_zero,e];simp
theorem A0H(c:UInt8)(s:Str):Ai c s≠[]:=by
 rcases AE4 c s with h|⟨x,r,rfl,h⟩
 ·rw[Hs h];simp
 ·rw[LL h];simp
theorem X2{c:UInt8}:∀(n:Nat)(s:Str),s.length<=n->∀p∈Ai c s,p.length<=s.length:=by
 intro n
 induction n with
 |zero=>
  intro s hs p hp;have:s=[]:=zb2 (by omega);subst this;rw[Hs (by simp)]at hp;cases zf2.1 hp
  exact za7 _
 |succ n ih=>
  intro s hs p hp;rcases AE4 c s with h|⟨x,r,rfl,h⟩
  ·rw[Hs h]at hp;cases zf2.1 hp
   exact za7 _
  ·rw[LL h]at hp;rw[zd4,zb9]at hs⊢
   rcases zc7.1 hp with rfl|hp
   ·omega
   ·have:=ih r (by omega) p hp;omega
theorem AO9(s:Str)(c:UInt8):FI s [c]=Ai c s:=by
 unfold FI Ai Lib.split;exact Lib.splitB_data ⟨#[c]⟩ 0 _ ⟨s.toArray⟩
theorem A0x{s:Str}{c:UInt8}(h:s.length<4294967281):OI s [c]=some (Ai c s):=by
 unfold OI;rw[zr ⟨h,by simp⟩,AO9]
end
section
open Go
abbrev Pn:=Int×Int
abbrev Wy:=List Pn
theorem AD2{s:Str}(hs:s.length<=1000):IE s=some (Ai 32 s):=by
 unfold IE;obtain⟨b,h1,h2,h3,h4,h5⟩:=Eo (body:=fun(t:(List Str×(Str×(Int×Int))))=>EF t.1 t.2.1 t.2.2.1 t.2.2.2)
  (fun k (b:List Str×Nat)=>(b.1,s,(b.2:Int),(k:Int))) (fun b=>(b.1,s,(b.2:Int))) (fun k b=>b.2<=k/\b.1.length<=k/\Ai 32 s=b.1++Ai 32 (s.drop b.2)/\(32:UInt8) ∉ (s.drop b.2).take (k-b.2)) s.length (by
   rintro k ⟨out,f⟩ hk ⟨h1,h2,h3,h4⟩;simp only at h1 h2 h3 h4;have he:s[k]? =some s[k]:=za1 hk;generalize s[k]=c at he;unfold EF;simp only;rw[zp (show(k:Int)<(s.length:Int) by omega),cT,Ah,he,obs];by_cases hc:c=32
   ·subst hc;refine⟨(out++[(s.drop f).take (k-f)],k+1),?_,za7 _,by simp;omega,?_,by simp⟩
    ·have hsub:Kr (f:Int) (k:Int) s.length=some (f,k):=by unfold Kr;rw[zr (by omega)];rfl
     rw[show((((32:UInt8).toNat:Nat):Int)==32)=true from rfl,cT,hsub,obs,Fy (by simp[Ab];omega) (by simp[Ab];omega),obs,AJ (by omega),List.drop_take]
    ·have hd:s.drop f=(s.drop f).take (k-f)++32::s.drop (k+1):=by
      have e1:(s.drop f).drop (k-f)=s.drop k:=by rw[List.drop_drop];congr 1;omega
      have e2:s.drop k=32::s.drop (k+1):=by
       rw[zb0 hk];rw[za1 hk]at he;rw[zv he]
      rw[<-e2,<-e1,List.take_append_drop]
     rw[h3]
     conv=>lhs;rw[hd]
     rw[LL h4];simp
   ·have hc':c.toNat≠32:=fun h=>hc (UInt8.toNat_inj.1 (show c.toNat=(32:UInt8).toNat from h))
    refine⟨(out,f),?_,by simp only;omega,by simp only;omega,h3,?_⟩
    ·rw[show(((c.toNat:Nat):Int)==32)=false by simp;omega,cF,AJ (by omega)]
    ·simp only;rw[show k+1-f=(k-f)+1 by omega,List.take_add_one,zd3,show f+(k-f)=k by omega,he];intro hm;rcases zb6.1 hm with hm|hm
     ·exact h4 hm
     ·simp at hm;exact hc hm.symm) (by
   rintro⟨out,f⟩ _;unfold EF;simp) 0 ([],0) (by omega) ⟨by simp,by simp,by simp,by simp⟩
 have h1':Ad (fun(t:(List Str×(Str×(Int×Int))))=>EF t.1 t.2.1 t.2.2.1 t.2.2.2) (([]:List Str),s,(0:Int),(0:Int))=_:=h1;obtain⟨out,f⟩:=b;simp only at h2 h3 h4 h5;have hsub:Kr (f:Int) (s.length:Int) s.length=some (f,s.length):=by unfold Kr;rw[zr (by omega)];rfl
 have hall:(s.drop f).take (s.length-f)=s.drop f:=zc4 (by simp);rw[hall]at h5;rw[h1',obs];simp only;rw[hsub,obs,Fy (by simp[Ab];omega) (by simp[Ab];omega),obs,h4,Hs h5,List.take_length]
def EO(W:List Str)(i:Nat):Option Int:=match W[i]? with|none=>none|some s=>if(MX s).2 then some (MX s).1 else none
abbrev CV:=(Int×Nat)⊕(Nat×List Wy×Wy)
def ptV(g:Int×Int->Bool)(i:Nat)(ways:List Wy)(way:Wy)(p:Pn):CV:=if g p then .inr (i,ways,way++[p])else .inl (6,i-1)
def Gg(p:Pn):Bool:=decide (-1000<=p.1/\p.1<=1000)&&decide (-1000<=p.2/\p.2<=1000)
def one(W:List Str)(i:Nat)(ways:List Wy)(way:Wy)(f:Int->Pn):CV:=match EO W i with|none=>.inl (3,i)|some x=>ptV Gg (i+1) ways way (f x)
def two(W:List Str)(i:Nat)(ways:List Wy)(way:Wy)(f:Int->Int->Pn):CV:=match EO W i with|none=>.inl (3,i)|some x=>one W (i+1) ways way (f x)
section
variable {W:List Str} (hW:W.length<=1000) (hs:∀w∈W,w.length<=1000)
include hW hs
theorem Aq3{i:Nat}(hi:i<=W.length)(ways:List Wy)(way:Wy):Ap (W,(i:Int),0) ways way=some (match EO W i with|none=>((W,(i:Int),3),ways,way,0)|some x=>((W,((i+1:Nat):Int),0),ways,way,x)):=by
 unfold Ap EO;simp only;rw[show((0:Int) != 0)=false from rfl,cF];by_cases h:i=W.length
 ·subst h;rw[show((W.length:Int)==(W.length:Int))=true by simp,cT,List.getElem?_eq_none (za7 _)]
 ·have he:W[i]? =some (W[i]'(by omega)):=za1 (by omega);generalize (W[i]'(by omega))=w at he;have hw:=hs w (za4 he);rw[show((i:Int)==(W.length:Int))=false by simp;omega,cF,Ah,he,obs,Af6 (by omega),obs];simp only;cases hr:(MX w).2 with
  |false=>rw[nF,cT];rfl
  |true=>rw[nT,cF,AJ (by omega)];rfl
omit hs in
theorem Av9 {i:Int} {c:Int} (hc:c≠0) (ways:List Wy) (way:Wy):Ap (W,i,c) ways way=some ((W,i,c),ways,way,0):=by
 unfold Ap;simp only;rw[show(c != 0)=true by simpa[bne]using hc,cT]
theorem A0L{i:Nat}(hi:i<=W.length)(o:Bool)(ways:List Wy)(way:Wy):FD (W,(i:Int),o) ways way=some (match EO W i with|none=>((W,(i:Int),o),ways,way,0,false)|some x=>((W,((i+1:Nat):Int),o),ways,way,x,true)):=by
 unfold FD EO;simp only;by_cases h:i=W.length
 ·subst h;rw[show((W.length:Int)==(W.length:Int))=true by simp,cT,List.getElem?_eq_none (za7 _)]
 ·have he:W[i]? =some (W[i]'(by omega)):=za1 (by omega);generalize (W[i]'(by omega))=w at he;have hw:=hs w (za4 he);rw[show((i:Int)==(W.length:Int))=false by simp;omega,cF,Ah,he,obs,Ag0 (by omega),obs];simp only;rcases Kl w with⟨v,_,_,_,hr⟩|⟨hr,_⟩
  ·rw[hr];simp only;rw[cT,AJ (by omega)];rfl
  ·rw[hr];rfl
end
theorem A3a(p:Pn):FJ p=some (Gg p):=by
 unfold FJ BP Gg;by_cases h1:p.1>= -1000<;>by_cases h2:p.1<=1000<;>by_cases h3:p.2>= -1000<;>by_cases h4:p.2<=1000<;>simp[h1,h2,h3,h4]<;>omega
theorem A2Y(p:Pn):I7 p=some (Gg p):=by
 unfold I7 AO Gg;by_cases h1:p.1>= -1000<;>by_cases h2:p.1<=1000<;>by_cases h3:p.2>= -1000<;>by_cases h4:p.2<=1000<;>simp[h1,h2,h3,h4]<;>omega
theorem A3i(W:List Str){i:Nat}(hi:1<=i/\i<=2000)(ways:List Wy){way:Wy}(hw:way.length<=1000)(p:Pn):
  Az (W,(i:Int),0) ways way p=some (if Gg p then((W,(i:Int),0),ways,way++[p])else((W,((i-1:Nat):Int),6),ways,way)):=by
 unfold Az;simp only;rw[show((0:Int) != 0)=false from rfl,cF,A3a,obs];cases h:Gg (p.1,p.2)with
 |false=>
  rw[nF,cT,Ae (by omega) (by omega),show(i:Int)-1=((i-1:Nat):Int) by omega];rfl
 |true=>
  rw[nT,cF,Fy (by simp[Ab];omega) (by simp[Ab];omega),obs];rfl
theorem Zu(W:List Str){i c:Int}(hc:c≠0)(ways:List Wy)(way:Wy)(p:Pn):Az (W,i,c) ways way p=some ((W,i,c),ways,way):=by
 unfold Az;simp only;rw[show(c != 0)=true by simpa[bne]using hc,cT]
def RI(W:List Str)(ways:List Wy)(way:Wy):CV->(List Str×Int×Int)×List Wy×Wy
 |.inl (c,i)=>((W,(i:Int),c),ways,way)
 |.inr (i,ways',way')=>((W,(i:Int),0),ways',way')
abbrev SSt:=(List Str×Int×Int)×List Wy×Wy
def A33 (st:SSt) (f:Int->Pn):Option SSt:=
 (Ap (st.1.1,(st.1.2.1,st.1.2.2)) st.2.1 st.2.2).bind fun x=>(Az (x.1.1,(x.1.2.1,x.1.2.2)) x.2.1 x.2.2.1 (f x.2.2.2)).bind fun y=>some ((y.1.1,(y.1.2.1,y.1.2.2)),(y.2.1,y.2.2))
def A31 (st:SSt) (f:Int->Int->Pn):Option SSt:=
 (Ap (st.1.1,(st.1.2.1,st.1.2.2)) st.2.1 st.2.2).bind fun x=>(Ap (x.1.1,(x.1.2.1,x.1.2.2)) x.2.1 x.2.2.1).bind fun x'=>(Az (x'.1.1,(x'.1.2.1,x'.1.2.2)) x'.2.1 x'.2.2.1 (f x.2.2.2 x'.2.2.2)).bind fun y=>some ((y.1.1,(y.1.2.1,y.1.2.2)),(y.2.1,y.2.2))
section
variable {W:List Str} (hW:W.length<=1000) (hs:∀w∈W,w.length<=1000)
include hW hs
theorem Jg{i:Nat}{x:Int}(h:EO W i=some x):i<W.length:=by
 unfold EO at h;cases hz:W[i]? with
 |none=>rw[hz]at h;cases h
 |some w=>exact DY hz
theorem Nm{i:Nat}(hi:i<=W.length)(ways:List Wy){way:Wy}(hw:way.length<=1000)(f:Int->Pn):A33 ((W,(i:Int),0),ways,way) f=some (RI W ways way (one W i ways way f)):=by
 unfold A33 one;simp only;rw[Aq3 hW hs hi,obs];cases hz:EO W i with
 |none=>
  simp only;rw[Zu W (by omega),obs];rfl
 |some x=>
  have:=Jg hW hs hz;simp only;rw[A3i W (by omega) ways hw,obs];unfold ptV
  split<;>rfl
theorem Vz{i:Nat}(hi:i<=W.length)(ways:List Wy){way:Wy}(hw:way.length<=1000)(f:Int->Int->Pn):A31 ((W,(i:Int),0),ways,way) f=some (RI W ways way (two W i ways way f)):=by
 unfold A31 two;simp only;rw[Aq3 hW hs hi,obs];cases hz:EO W i with
 |none=>
  simp only;rw[Av9 hW (by omega),obs];simp only;rw[Zu W (by omega),obs];rfl
 |some x=>
  have:=Jg hW hs hz;simp only;exact Nm hW hs (by omega) ways hw (f x)
end
end
section
open Go
def KW:List Str:=[[77],[76],[108],[72],[104],[86],[118],[90]]
def DL(way:Wy):Pn:=way.getLast?.getD (0,0)
def Cn(W:List Str)(i:Nat)(ways:List Wy)(way:Wy)(w:Str):CV:=
 if w=[77]then(if way=[]then(if ways.length=4 then .inl (5,i)else two W (i+1) ways way (fun x y=>(x,y)))else .inl (4,i))
 else if w∈KW then
  (if way=[]then .inl (4,i)
  else if w=[90]then(if way.length<3 then .inl (5,i)else .inr (i+1,ways++[way],[]))
  else if way.length=12 then .inl (5,i)
  else if w=[76]then two W (i+1) ways way (fun x y=>(x,y))
  else if w=[108]then two W (i+1) ways way (fun x y=>(zi zj ((DL way).1+x),zi zj ((DL way).2+y)))
  else if w=[72]then one W (i+1) ways way (fun x=>(x,(DL way).2))
  else if w=[104]then one W (i+1) ways way (fun x=>(zi zj ((DL way).1+x),(DL way).2))
  else if w=[86]then one W (i+1) ways way (fun x=>((DL way).1,x))
  else one W (i+1) ways way (fun x=>((DL way).1,zi zj ((DL way).2+x))))
 else .inl (2,i)
theorem O6:(([77]:Str)==[77])=true:=rfl
theorem Pg:(([77]:Str)==[76])=false:=rfl
theorem LO:(([77]:Str)==[108])=false:=rfl
theorem Pl:(([77]:Str)==[72])=false:=rfl
theorem Ma:(([77]:Str)==[104])=false:=rfl
theorem PX:(([77]:Str)==[86])=false:=rfl
theorem LC:(([77]:Str)==[118])=false:=rfl
theorem Pw:(([77]:Str)==[90])=false:=rfl
theorem PH:(([76]:Str)==[77])=false:=rfl
theorem Pe:(([76]:Str)==[76])=true:=rfl
theorem L1:(([76]:Str)==[108])=false:=rfl
theorem Pu:(([76]:Str)==[72])=false:=rfl
theorem Ly:(([76]:Str)==[104])=false:=rfl
theorem PY:(([76]:Str)==[86])=false:=rfl
theorem LM:(([76]:Str)==[118])=false:=rfl
theorem O7:(([76]:Str)==[90])=false:=rfl
theorem Mn:(([108]:Str)==[77])=false:=rfl
theorem LJ:(([108]:Str)==[76])=false:=rfl
theorem JA:(([108]:Str)==[108])=true:=rfl
theorem LV:(([108]:Str)==[72])=false:=rfl
theorem JK:(([108]:Str)==[104])=false:=rfl
theorem LU:(([108]:Str)==[86])=false:=rfl
theorem JF:(([108]:Str)==[118])=false:=rfl
theorem Mu:(([108]:Str)==[90])=false:=rfl
theorem PI:(([72]:Str)==[77])=false:=rfl
theorem O2:(([72]:Str)==[76])=false:=rfl
theorem Mr:(([72]:Str)==[108])=false:=rfl
theorem Pb:(([72]:Str)==[72])=true:=rfl
theorem Mi:(([72]:Str)==[104])=false:=rfl
theorem Pq:(([72]:Str)==[86])=false:=rfl
theorem LE:(([72]:Str)==[118])=false:=rfl
theorem Pj:(([72]:Str)==[90])=false:=rfl
theorem Lt:(([104]:Str)==[77])=false:=rfl
theorem Ms:(([104]:Str)==[76])=false:=rfl
theorem JC:(([104]:Str)==[108])=false:=rfl
theorem Mq:(([104]:Str)==[72])=false:=rfl
theorem Jd:(([104]:Str)==[104])=true:=rfl
theorem L7:(([104]:Str)==[86])=false:=rfl
theorem JE:(([104]:Str)==[118])=false:=rfl
theorem L6:(([104]:Str)==[90])=false:=rfl
theorem PM:(([86]:Str)==[77])=false:=rfl
theorem PK:(([86]:Str)==[76])=false:=rfl
theorem Mb:(([86]:Str)==[108])=false:=rfl
theorem O4:(([86]:Str)==[72])=false:=rfl
theorem LK:(([86]:Str)==[104])=false:=rfl
theorem PJ:(([86]:Str)==[86])=true:=rfl
theorem L2:(([86]:Str)==[118])=false:=rfl
theorem O3:(([86]:Str)==[90])=false:=rfl
theorem LG:(([118]:Str)==[77])=false:=rfl
theorem L9:(([118]:Str)==[76])=false:=rfl
theorem JH:(([118]:Str)==[108])=false:=rfl
theorem Ls:(([118]:Str)==[72])=false:=rfl
theorem Jk:(([118]:Str)==[104])=false:=rfl
theorem L4:(([118]:Str)==[86])=false:=rfl
theorem Ja:(([118]:Str)==[118])=true:=rfl
theorem Lz:(([118]:Str)==[90])=false:=rfl
theorem Rz:(([90]:Str)==[77])=false:=rfl
theorem SL:(([90]:Str)==[76])=false:=rfl
theorem Ok:(([90]:Str)==[108])=false:=rfl
theorem R0:(([90]:Str)==[72])=false:=rfl
theorem OB:(([90]:Str)==[104])=false:=rfl
theorem R4:(([90]:Str)==[86])=false:=rfl
theorem Ou:(([90]:Str)==[118])=false:=rfl
theorem Ss:(([90]:Str)==[90])=true:=rfl
theorem DC{way:Wy}(h:way≠[]):AX way (way.length-1)=some (DL way):=by
 have hp:=zd1.2 h;have e:way[way.length-1]? =some (way[way.length-1]'(by omega)):=za1 (by omega);show way[way.length-1]? =_;unfold DL;rw[List.getLast?_eq_getElem?,e];rfl
theorem DH{way:Wy}(h:way≠[])(hl:way.length<=1000):A1 (zi zj ((way.length:Int)-1)) way.length=some (way.length-1):=by
 have hp:=zd1.2 h;rw[Ae (by omega) (by omega),show(way.length:Int)-1=((way.length-1:Nat):Int) by omega,A0 (by omega)]
theorem Iu(W:List Str)(i:Int)(ways:List Wy)(way:Wy)(w:Str)(o:Bool):
  Ad (fun(s:((List Str×(Int×Int))×(List Str×(List Wy×(Wy×(Str×(Bool×(Bool×(Int×Int)))))))))=>C2 s.1 s.2.1 s.2.2.1 s.2.2.2.1 s.2.2.2.2.1 s.2.2.2.2.2.1 s.2.2.2.2.2.2.1 s.2.2.2.2.2.2.2.1 s.2.2.2.2.2.2.2.2)
   ((W,(i,0)),(KW,(ways,(way,(w,(o,(false,(((8:Nat):Int),(0:Int)))))))))=some ((W,(i,0)),(ways,(way,(w,(o,decide (w∈KW)))))):=by
 obtain⟨_,h1,_⟩:=Eo (body:=fun(s:((List Str×(Int×Int))×(List Str×(List Wy×(Wy×(Str×(Bool×(Bool×(Int×Int)))))))))=>C2 s.1 s.2.1 s.2.2.1 s.2.2.2.1 s.2.2.2.2.1 s.2.2.2.2.2.1 s.2.2.2.2.2.2.1 s.2.2.2.2.2.2.2.1 s.2.2.2.2.2.2.2.2)
  (fun k (_:Unit)=>((W,(i,0)),(KW,(ways,(way,(w,(o,(decide (w∈KW.take k),(((8:Nat):Int),(k:Int)))))))))) (fun _=>((W,(i,0)),(ways,(way,(w,(o,decide (w∈KW))))))) (fun _ _=>True) 8 (by
   intro k _ hk _;have he:KW[k]? =some (KW[k]'hk):=za1 hk;generalize hx:(KW[k]'hk)=x at he;refine⟨(),?_,trivial⟩
   unfold C2;simp only;rw[zp (by omega),cT,show A1 (k:Int) KW.length=some k from A0 hk,obs,show AX KW k=some x from he,obs,List.take_add_one,he,AJ (by omega)];by_cases hm:w∈KW.take k
   ·rw[zp hm,cT,zp (List.mem_append_left _ hm)]
   ·rw[zq hm,cF];by_cases hxw:x=w
    ·subst hxw;rw[beq_self_eq_true,zp (List.mem_append_right _ (by simp))]
    ·rw[beq_eq_false_iff_ne.2 hxw,zq];intro h;rcases zb6.1 h with h|h
     ·exact hm h
     ·simp at h;exact hxw h.symm) (by
   intro _ _;unfold C2;simp only;rw[zq (by omega),cF];rfl) 0 () (by omega) trivial
 exact h1
section
variable {W:List Str} (hW:W.length<=1000) (hs:∀w∈W,w.length<=1000)
include hW hs
theorem A1l{i:Nat}{w:Str}(he:W[i]? =some w)(hk:w ∉ KW)(ways:List Wy){way:Wy}(hw:way.length<=1000):As (W,(i:Int),0) ways way=some (RI W ways way (Cn W i ways way w)):=by
 unfold As;simp only;rw[Ah,he,obs,show([[77],[76],[108],[72],[104],[86],[118],[90]]:List Str)=KW from rfl,Iu W _ ways way _ _,obs];have h77:w≠[77]:=fun h=>hk (by rw[h];decide)
 unfold Cn;rw[zw h77,zw hk,zq hk,nF];simp only[cond_true,za0,za8];rfl
theorem A1a{i:Nat}(he:W[i]? =some [77])(ways:List Wy){way:Wy}(hw:way.length<=1000):As (W,(i:Int),0) ways way=some (RI W ways way (Cn W i ways way [77])):=by
 have hlt:=DY he;unfold As;simp only;rw[Ah,he,obs,show([[77],[76],[108],[72],[104],[86],[118],[90]]:List Str)=KW from rfl,Iu W _ ways way _ _,obs];unfold Cn;rw[zr rfl,zp (show([77]:Str)∈KW by decide)];by_cases h0:way=[]
 ·subst h0;rw[zr rfl];by_cases h4:ways.length=4
  ·have h4':((ways.length:Int)==4)=true:=by simp[h4]
   rw[zr h4];simp only[O6,Pg,LO,Pl,Ma,PX,LC,Pw,h4',nT,cF,cT,zf3,show decide (((0:Nat):Int)>0)=false from rfl,show(false==true)=false from rfl,obs,za8,show((5:Int) != 0)=true from rfl];rfl
  ·have h4':((ways.length:Int)==4)=false:=by simp;omega
   rw[zw h4];simp only[O6,Pg,LO,Pl,Ma,PX,LC,Pw,h4',nT,nF,cF,cT,zf3,show decide (((0:Nat):Int)>0)=false from rfl,show(false==true)=false from rfl,obs,za8,show((0:Int) != 0)=false from rfl,show(((0:Nat):Int)==12)=false from rfl,AJ (show i<4611686018427387904 by omega)];exact Vz hW hs (by omega) ways (by simp) (fun x y=>(x,y))
 ·have hp:=zd1.2 h0;rw[zw h0];simp only[O6,Pg,LO,Pl,Ma,PX,LC,Pw,nT,cF,cT,zp (show(way.length:Int)>0 by omega),show(true==true)=true from rfl,obs,za8,show((4:Int) != 0)=true from rfl];rfl
theorem AZ5{i:Nat}(he:W[i]? =some [76])(ways:List Wy){way:Wy}(hw:way.length<=1000):As (W,(i:Int),0) ways way=some (RI W ways way (Cn W i ways way [76])):=by
 have hlt:=DY he;unfold As;simp only;rw[Ah,he,obs,show([[77],[76],[108],[72],[104],[86],[118],[90]]:List Str)=KW from rfl,Iu W _ ways way _ _,obs];unfold Cn;rw[zw (by decide),zr (show([76]:Str)∈KW by decide),zp (show([76]:Str)∈KW by decide)];by_cases h0:way=[]
 ·subst h0;rw[zr rfl];simp only[PH,Pe,L1,Pu,Ly,PY,LM,O7,nT,cF,cT,zf3,show decide (((0:Nat):Int)>0)=false from rfl,show(false==false)=true from rfl,obs,za8,show((4:Int) != 0)=true from rfl];rfl
 ·have hp:=zd1.2 h0;rw[zw h0];rw[zw (by decide)];by_cases h12:way.length=12
  ·rw[zr h12];simp only[PH,Pe,L1,Pu,Ly,PY,LM,O7,nT,nF,cF,cT,zp (show(way.length:Int)>0 by omega),show(true==false)=false from rfl,obs,za8,show((way.length:Int)==12)=true by simp;omega,show((5:Int) != 0)=true from rfl];rfl
  ·rw[zw h12,zr rfl];simp only[PH,Pe,L1,Pu,Ly,PY,LM,O7,nT,nF,cF,cT,zp (show(way.length:Int)>0 by omega),show(true==false)=false from rfl,obs,za8,show((way.length:Int)==12)=false by simp;omega,show((0:Int) != 0)=false from rfl,DH h0 hw,DC h0,AJ (show i<4611686018427387904 by omega)];exact Vz hW hs (by omega) ways hw (fun x y=>(x,y))
theorem AQ9{i:Nat}(he:W[i]? =some [108])(ways:List Wy){way:Wy}(hw:way.length<=1000):As (W,(i:Int),0) ways way=some (RI W ways way (Cn W i ways way [108])):=by
 have hlt:=DY he;unfold As;simp only;rw[Ah,he,obs,show([[77],[76],[108],[72],[104],[86],[118],[90]]:List Str)=KW from rfl,Iu W _ ways way _ _,obs];unfold Cn;rw[zw (by decide),zr (show([108]:Str)∈KW by decide),zp (show([108]:Str)∈KW by decide)];by_cases h0:way=[]
 ·subst h0;rw[zr rfl];simp only[Mn,LJ,JA,LV,JK,LU,JF,Mu,nT,cF,cT,zf3,show decide (((0:Nat):Int)>0)=false from rfl,show(false==false)=true from rfl,obs,za8,show((4:Int) != 0)=true from rfl];rfl
 ·have hp:=zd1.2 h0;rw[zw h0];rw[zw (by decide)];by_cases h12:way.length=12
  ·rw[zr h12];simp only[Mn,LJ,JA,LV,JK,LU,JF,Mu,nT,nF,cF,cT,zp (show(way.length:Int)>0 by omega),show(true==false)=false from rfl,obs,za8,show((way.length:Int)==12)=true by simp;omega,show((5:Int) != 0)=true from rfl];rfl
  ·rw[zw h12,zw (by decide),zr rfl];simp only[Mn,LJ,JA,LV,JK,LU,JF,Mu,nT,nF,cF,cT,zp (show(way.length:Int)>0 by omega),show(true==false)=false from rfl,obs,za8,show((way.length:Int)==12)=false by simp;omega,show((0:Int) != 0)=false from rfl,DH h0 hw,DC h0,AJ (show i<4611686018427387904 by omega)];exact Vz hW hs (by omega) ways hw (fun x y=>(zi zj ((DL way).1+x),zi zj ((DL way).2+y)))
theorem A0X{i:Nat}(he:W[i]? =some [72])(ways:List Wy){way:Wy}(hw:way.length<=1000):As (W,(i:Int),0) ways way=some (RI W ways way (Cn W i ways way [72])):=by
 have hlt:=DY he;unfold As;simp only;rw[Ah,he,obs,show([[77],[76],[108],[72],[104],[86],[118],[90]]:List Str)=KW from rfl,Iu W _ ways way _ _,obs];unfold Cn;rw[zw (by decide),zr (show([72]:Str)∈KW by decide),zp (show([72]:Str)∈KW by decide)];by_cases h0:way=[]
 ·subst h0;rw[zr rfl];simp only[PI,O2,Mr,Pb,Mi,Pq,LE,Pj,nT,cF,cT,zf3,show decide (((0:Nat):Int)>0)=false from rfl,show(false==false)=true from rfl,obs,za8,show((4:Int) != 0)=true from rfl];rfl
 ·have hp:=zd1.2 h0;rw[zw h0];rw[zw (by decide)];by_cases h12:way.length=12
  ·rw[zr h12];simp only[PI,O2,Mr,Pb,Mi,Pq,LE,Pj,nT,nF,cF,cT,zp (show(way.length:Int)>0 by omega),show(true==false)=false from rfl,obs,za8,show((way.length:Int)==12)=true by simp;omega,show((5:Int) != 0)=true from rfl];rfl
  ·rw[zw h12,zw (by decide),zw (by decide),zr rfl];simp only[PI,O2,Mr,Pb,Mi,Pq,LE,Pj,nT,nF,cF,cT,zp (show(way.length:Int)>0 by omega),show(true==false)=false from rfl,obs,za8,show((way.length:Int)==12)=false by simp;omega,show((0:Int) != 0)=false from rfl,DH h0 hw,DC h0,AJ (show i<4611686018427387904 by omega)];exact Nm hW hs (by omega) ways hw (fun x=>(x,(DL way).2))
theorem AV2{i:Nat}(he:W[i]? =some [104])(ways:List Wy){way:Wy}(hw:way.length<=1000):As (W,(i:Int),0) ways way=some (RI W ways way (Cn W i ways way [104])):=by
 have hlt:=DY he;unfold As;simp only;rw[Ah,he,obs,show([[77],[76],[108],[72],[104],[86],[118],[90]]:List Str)=KW from rfl,Iu W _ ways way _ _,obs];unfold Cn;rw[zw (by decide),zr (show([104]:Str)∈KW by decide),zp (show([104]:Str)∈KW by decide)];by_cases h0:way=[]
 ·subst h0;rw[zr rfl];simp only[Lt,Ms,JC,Mq,Jd,L7,JE,L6,nT,cF,cT,zf3,show decide (((0:Nat):Int)>0)=false from rfl,show(false==false)=true from rfl,obs,za8,show((4:Int) != 0)=true from rfl];rfl
 ·have hp:=zd1.2 h0;rw[zw h0];rw[zw (by decide)];by_cases h12:way.length=12
  ·rw[zr h12];simp only[Lt,Ms,JC,Mq,Jd,L7,JE,L6,nT,nF,cF,cT,zp (show(way.length:Int)>0 by omega),show(true==false)=false from rfl,obs,za8,show((way.length:Int)==12)=true by simp;omega,show((5:Int) != 0)=true from rfl];rfl
  ·rw[zw h12,zw (by decide),zw (by decide),zw (by decide),zr rfl];simp only[Lt,Ms,JC,Mq,Jd,L7,JE,L6,nT,nF,cF,cT,zp (show(way.length:Int)>0 by omega),show(true==false)=false from rfl,obs,za8,show((way.length:Int)==12)=false by simp;omega,show((0:Int) != 0)=false from rfl,DH h0 hw,DC h0,AJ (show i<4611686018427387904 by omega)];exact Nm hW hs (by omega) ways hw (fun x=>(zi zj ((DL way).1+x),(DL way).2))
theorem A1s{i:Nat}(he:W[i]? =some [86])(ways:List Wy){way:Wy}(hw:way.length<=1000):As (W,(i:Int),0) ways way=some (RI W ways way (Cn W i ways way [86])):=by
 have hlt:=DY he;unfold As;simp only;rw[Ah,he,obs,show([[77],[76],[108],[72],[104],[86],[118],[90]]:List Str)=KW from rfl,Iu W _ ways way _ _,obs];unfold Cn;rw[zw (by decide),zr (show([86]:Str)∈KW by decide),zp (show([86]:Str)∈KW by decide)];by_cases h0:way=[]
 ·subst h0;rw[zr rfl];simp only[PM,PK,Mb,O4,LK,PJ,L2,O3,nT,cF,cT,zf3,show decide (((0:Nat):Int)>0)=false from rfl,show(false==false)=true from rfl,obs,za8,show((4:Int) != 0)=true from rfl];rfl
 ·have hp:=zd1.2 h0;rw[zw h0];rw[zw (by decide)];by_cases h12:way.length=12
  ·rw[zr h12];simp only[PM,PK,Mb,O4,LK,PJ,L2,O3,nT,nF,cF,cT,zp (show(way.length:Int)>0 by omega),show(true==false)=false from rfl,obs,za8,show((way.length:Int)==12)=true by simp;omega,show((5:Int) != 0)=true from rfl];rfl
  ·rw[zw h12,zw (by decide),zw (by decide),zw (by decide),zw (by decide),zr rfl];simp only[PM,PK,Mb,O4,LK,PJ,L2,O3,nT,nF,cF,cT,zp (show(way.length:Int)>0 by omega),show(true==false)=false from rfl,obs,za8,show((way.length:Int)==12)=false by simp;omega,show((0:Int) != 0)=false from rfl,DH h0 hw,DC h0,AJ (show i<4611686018427387904 by omega)];exact Nm hW hs (by omega) ways hw (fun x=>((DL way).1,x))
theorem AS3{i:Nat}(he:W[i]? =some [118])(ways:List Wy){way:Wy}(hw:way.length<=1000):As (W,(i:Int),0) ways way=some (RI W ways way (Cn W i ways way [118])):=by
 have hlt:=DY he;unfold As;simp only;rw[Ah,he,obs,show([[77],[76],[108],[72],[104],[86],[118],[90]]:List Str)=KW from rfl,Iu W _ ways way _ _,obs];unfold Cn;rw[zw (by decide),zr (show([118]:Str)∈KW by decide),zp (show([118]:Str)∈KW by decide)];by_cases h0:way=[]
 ·subst h0;rw[zr rfl];simp only[LG,L9,JH,Ls,Jk,L4,Ja,Lz,nT,cF,cT,zf3,show decide (((0:Nat):Int)>0)=false from rfl,show(false==false)=true from rfl,obs,za8,show((4:Int) != 0)=true from rfl];rfl
 ·have hp:=zd1.2 h0;rw[zw h0];rw[zw (by decide)];by_cases h12:way.length=12
  ·rw[zr h12];simp only[LG,L9,JH,Ls,Jk,L4,Ja,Lz,nT,nF,cF,cT,zp (show(way.length:Int)>0 by omega),show(true==false)=false from rfl,obs,za8,show((way.length:Int)==12)=true by simp;omega,show((5:Int) != 0)=true from rfl];rfl
  ·rw[zw h12,zw (by decide),zw (by decide),zw (by decide),zw (by decide),zw (by decide)];simp only[LG,L9,JH,Ls,Jk,L4,Ja,Lz,nT,nF,cF,cT,zp (show(way.length:Int)>0 by omega),show(true==false)=false from rfl,obs,za8,show((way.length:Int)==12)=false by simp;omega,show((0:Int) != 0)=false from rfl,DH h0 hw,DC h0,AJ (show i<4611686018427387904 by omega)];exact Nm hW hs (by omega) ways hw (fun x=>((DL way).1,zi zj ((DL way).2+x)))
theorem A2c{i:Nat}(he:W[i]? =some [90])(ways:List Wy){way:Wy}(hw:way.length<=1000)(hwl:ways.length<=1000):As (W,(i:Int),0) ways way=some (RI W ways way (Cn W i ways way [90])):=by
 have hlt:=DY he;unfold As;simp only;rw[Ah,he,obs,show([[77],[76],[108],[72],[104],[86],[118],[90]]:List Str)=KW from rfl,Iu W _ ways way _ _,obs];unfold Cn;rw[zw (by decide),zr (show([90]:Str)∈KW by decide),zp (show([90]:Str)∈KW by decide)];by_cases h0:way=[]
 ·subst h0;rw[zr rfl];simp only[Rz,SL,Ok,R0,OB,R4,Ou,Ss,nT,cF,cT,zf3,show decide (((0:Nat):Int)>0)=false from rfl,show(false==false)=true from rfl,obs,za8,show((4:Int) != 0)=true from rfl];rfl
 ·have hp:=zd1.2 h0;rw[zw h0];rw[zr rfl];by_cases h3:way.length<3
  ·rw[zr h3];simp only[Rz,SL,Ok,R0,OB,R4,Ou,Ss,nT,nF,cF,cT,zp (show(way.length:Int)>0 by omega),show(true==false)=false from rfl,obs,za8,zp (show(way.length:Int)<3 by omega),show((5:Int) != 0)=true from rfl];rfl
  ·rw[zw h3];simp only[Rz,SL,Ok,R0,OB,R4,Ou,Ss,nT,nF,cF,cT,zp (show(way.length:Int)>0 by omega),show(true==false)=false from rfl,obs,za8,zq (show ¬(way.length:Int)<3 by omega),show((0:Int) != 0)=false from rfl,DH h0 hw,DC h0,AJ (show i<4611686018427387904 by omega)];rw[Fy (by simp[Ab];omega) (by simp[Ab];omega),obs];rfl
theorem AN2{i:Nat}{w:Str}(he:W[i]? =some w)(ways:List Wy){way:Wy}(hw:way.length<=1000)(hwl:ways.length<=1000):As (W,(i:Int),0) ways way=some (RI W ways way (Cn W i ways way w)):=by
 by_cases hk:w∈KW
 ·have hk':w=[77]\/w=[76]\/w=[108]\/w=[72]\/w=[104]\/w=[86]\/w=[118]\/w=[90]:=by simpa[KW]using hk
  rcases hk' with rfl|rfl|rfl|rfl|rfl|rfl|rfl|rfl
  ·exact A1a hW hs he ways hw
  ·exact AZ5 hW hs he ways hw
  ·exact AQ9 hW hs he ways hw
  ·exact A0X hW hs he ways hw
  ·exact AV2 hW hs he ways hw
  ·exact A1s hW hs he ways hw
  ·exact AS3 hW hs he ways hw
  ·exact A2c hW hs he ways hw hwl
 ·exact A1l hW hs he hk ways hw
end
end
section
open Go
abbrev ISt:=(List Str×(Int×Bool))×(List Wy×(Wy×(Int×Int)))
def EI(W:List Str):CV->ISt->Prop
 |.inl (c,i),r=>r.2.2.2=(c,(i:Int))/\c≠0
 |.inr (i,ways',way'),r=>r=((W,((i:Int),decide (way'≠[]))),(ways',(way',(0,0))))
def KWi:List Str:=[[77],[76],[108],[72],[86],[104],[118],[90]]
theorem AF9(w:Str):w∈KWi↔w∈KW:=by simp only[KWi,KW,zc7,List.not_mem_nil,or_false];constructor<;>(intro h;rcases h with h|h|h|h|h|h|h|h<;>simp[h])
theorem Iv(w:Str):Bj KWi w=some (decide (w∈KW)):=by
 unfold Bj Cu;have key:=Gd (body:=fun s:List Str×Str×Int×Int=>AZ s.1 s.2.1 s.2.2.1 s.2.2.2) (l:=KWi) (st:=fun k=>(KWi,w,((KWi.length:Nat):Int),(k:Int))) (p:=fun x=> !(w==x)) (fin:=.inl ()) (bad:=fun k=>.inr (k:Int))
  (fun k a hk hp=>by
   have hlt:k<8:=DY hk;have hp:(w==a)=false:=by simpa using hp
   unfold AZ;simp only;rw[zp (show(k:Int)<((KWi.length:Nat):Int) by show(k:Int)<8;omega),cT,Ah,hk,obs,hp,cF,AJ (by omega)])
  (fun k a hk hp=>by
   have hlt:k<8:=DY hk;have hp:(w==a)=true:=by simpa using hp
   unfold AZ;simp only;rw[zp (show(k:Int)<((KWi.length:Nat):Int) by show(k:Int)<8;omega),cT,Ah,hk,obs,hp,cT])
  (by
   unfold AZ;simp only;rw[zq (by omega),cF])
 by_cases hm:w∈KW
 ·have hall:KWi.all (fun x=> !(w==x))=false:=by
   rw[List.all_eq_false];exact⟨w,(AF9 w).2 hm,by simp⟩
  obtain⟨k,_,h⟩:=key.2 hall;rw[show((0:Nat):Int)=0 from rfl]at h;rw[h,obs];simp only[za8];rw[obs,zp hm,zp (by omega)]
 ·have hall:KWi.all (fun x=> !(w==x))=true:=by
   rw[za5];intro x hx;have:w≠x:=fun h=>hm ((AF9 w).1 (h▸hx))
   simpa using this
  have h:=key.1 hall;rw[show((0:Nat):Int)=0 from rfl]at h;rw[h,obs];simp only[Sum.elim_inl];rw[obs,zq hm];rfl
theorem LD(w:Str):DW [72,86,104,118] w=some (Lib.contains [72,86,104,118] w):=by
 unfold DW Jc;rw[zr (by decide)]
def icB:((List Str×(Int×Bool))×(List Int×(List Wy×(Wy×(Str×(Int×Int))))))->Option (((List Str×(Int×Bool))×(List Int×(List Wy×(Wy×(Str×(Int×Int))))))⊕(((List Str×(Int×Bool))×(List Int×(List Wy×(Wy×Str))))⊕ISt)):=
 fun s=>DU s.1 s.2.1 s.2.2.1 s.2.2.2.1 s.2.2.2.2.1 s.2.2.2.2.2.1 s.2.2.2.2.2.2
section
variable {W:List Str} (hW:W.length<=1000) (hs:∀w∈W,w.length<=1000)
include hW hs
theorem A2p{i:Nat}(hi:i<=W.length)(o:Bool)(n:List Int)(hn:n.length<=10)(ways:List Wy)(way:Wy)(w:Str){c k:Nat}(hk:k<c)(hc:c<=10):
  icB ((W,((i:Int),o)),(n,(ways,(way,(w,((c:Int),(k:Int)))))))=match EO W i with|none=>some (.inr (.inr ((W,((i:Int),o)),(ways,(way,(3,(i:Int)))))))|some x=>some (.inl ((W,(((i+1:Nat):Int),o)),(n++[x],(ways,(way,(w,((c:Int),((k+1:Nat):Int)))))))):=by
 unfold icB DU;simp only;rw[zp (by omega),cT,A0L hW hs hi,obs];cases hz:EO W i with
 |none=>rfl
 |some x=>
  simp only;rw[nT,cF,Fy (by simp[Ab];omega) (by simp[Ab];omega),obs,AJ (by omega)]
omit hW hs in
theorem A1S (W:List Str) (i:Int) (o:Bool) (n:List Int) (ways:List Wy) (way:Wy) (w:Str) (c:Nat):icB ((W,(i,o)),(n,(ways,(way,(w,((c:Int),(c:Int)))))))=some (.inr (.inl ((W,(i,o)),(n,(ways,(way,w)))))):=by
 unfold icB DU;simp only;rw[zq (by omega),cF]
theorem A4B{i:Nat}(hi:i<=W.length)(o:Bool)(ways:List Wy)(way:Wy)(w:Str):Ad icB ((W,((i:Int),o)),(([]:List Int),(ways,(way,(w,((1:Int),(0:Int)))))))=
  match EO W i with|none=>some (.inr ((W,((i:Int),o)),(ways,(way,(3,(i:Int))))))|some x=>some (.inl ((W,(((i+1:Nat):Int),o)),([x],(ways,(way,w))))):=by
 have h1:=A2p hW hs hi o [] (by simp) ways way w (c:=1) (k:=0) (by omega) (by omega);cases hz:EO W i with
 |none=>rw[hz]at h1;exact Aj h1
 |some x=>
  rw[hz]at h1;exact(AM h1).trans (Aj (A1S W _ o [x] ways way w 1))
theorem A4m{i:Nat}(hi:i<=W.length)(o:Bool)(ways:List Wy)(way:Wy)(w:Str):Ad icB ((W,((i:Int),o)),(([]:List Int),(ways,(way,(w,((2:Int),(0:Int)))))))=
  match EO W i with|none=>some (.inr ((W,((i:Int),o)),(ways,(way,(3,(i:Int))))))|some x=>(match EO W (i+1)with|none=>some (.inr ((W,(((i+1:Nat):Int),o)),(ways,(way,(3,((i+1:Nat):Int))))))|some y=>some (.inl ((W,(((i+2:Nat):Int),o)),([x,y],(ways,(way,w)))))):=by
 have h1:=A2p hW hs hi o [] (by simp) ways way w (c:=2) (k:=0) (by omega) (by omega);cases hz:EO W i with
 |none=>rw[hz]at h1;exact Aj h1
 |some x=>
  rw[hz]at h1;have hlt:=Jg hW hs hz;have h2:=A2p hW hs (i:=i+1) (by omega) o [x] (by simp) ways way w (c:=2) (k:=1) (by omega) (by omega);refine(AM h1).trans ?_
  simp only;cases hz2:EO W (i+1)with
  |none=>rw[hz2]at h2;exact Aj h2
  |some y=>
   rw[hz2]at h2;exact(AM h2).trans (Aj (A1S W _ o [x,y] ways way w 2))
def icK (w:Str):(((List Str×(Int×Bool))×(List Int×(List Wy×(Wy×Str))))⊕ISt)->Option ISt:=fun x7=>Sum.elim
   (fun x8=>
   ((Bf (x8.1.1,(x8.1.2.1,x8.1.2.2)) x8.2.2.1 x8.2.2.2.1 x8.2.2.2.2 x8.2.1)).bind fun x9=>
   ((I7 (x9.2.2.2.1,x9.2.2.2.2))).bind fun x10=>
   bif(!x10)then
    some ((x9.1.1,(x9.1.2.1,x9.1.2.2)),(x9.2.1,(x9.2.2.1,((6:Int),(zi zj (x9.1.2.1-(1:Int)))))))
   else
   ((C3 16 2 x9.2.2.1 (List.cons (x9.2.2.2.1,x9.2.2.2.2) List.nil))).bind fun x11=>
   some ((x9.1.1,(x9.1.2.1,true)),(x9.2.1,(x11,((0:Int),(0:Int))))))
   (fun x12=>
   some ((x12.1.1,(x12.1.2.1,x12.1.2.2)),(x12.2.1,(x12.2.2.1,(x12.2.2.2.1,x12.2.2.2.2)))))
   x7
theorem A4f{i:Nat}(hi:1<=i/\i<=2000)(o:Bool)(ways:List Wy){way:Wy}(hw:way.length<=1000)(w:Str)(n:List Int){p:Pn}(hn:Bf (W,((i:Int),o)) ways way w n=some ((W,((i:Int),o)),(ways,(way,p)))):
  ∃r,icK w (.inl ((W,((i:Int),o)),(n,(ways,(way,w)))))=some r/\EI W (ptV Gg i ways way p) r:=by
 unfold icK ptV;simp only[Sum.elim_inl];rw[hn,obs];simp only;rw[A2Y,obs];cases h:Gg (p.1,p.2)with
 |false=>
  rw[nF,cT,zw (by simp),Ae (by omega) (by omega)];exact⟨_,rfl,by show((6:Int),_)=_;congr 1;omega,by omega⟩
 |true=>
  rw[nT,cF,zr rfl,Fy (by simp[Ab];omega) (by simp[Ab];omega),obs];refine⟨_,rfl,?_⟩
  show _=_;rw[zp (show way++[p]≠[] by simp)]
theorem UR{i:Nat}(hi:i<=W.length)(o:Bool)(ways:List Wy){way:Wy}(hw:way.length<=1000)(w:Str){f:Int->Pn}(hf:∀(j:Nat) x,Bf (W,((j:Int),o)) ways way w [x]=some ((W,((j:Int),o)),(ways,(way,f x)))):
  ∃r,((Ad icB ((W,((i:Int),o)),(([]:List Int),(ways,(way,(w,((1:Int),(0:Int)))))))).bind (icK w))=some r/\EI W (one W i ways way f) r:=by
 rw[A4B hW hs hi];unfold one;cases hz:EO W i with
 |none=>exact⟨_,rfl,rfl,by omega⟩
 |some x=>
  have:=Jg hW hs hz;exact A4f hW hs (by omega) o ways hw w [x] (hf (i+1) x)
theorem Ad2{i:Nat}(hi:i<=W.length)(o:Bool)(ways:List Wy){way:Wy}(hw:way.length<=1000)(w:Str){f:Int->Int->Pn}(hf:∀(j:Nat) x y,Bf (W,((j:Int),o)) ways way w [x,y]=some ((W,((j:Int),o)),(ways,(way,f x y)))):
  ∃r,((Ad icB ((W,((i:Int),o)),(([]:List Int),(ways,(way,(w,((2:Int),(0:Int)))))))).bind (icK w))=some r/\EI W (two W i ways way f) r:=by
 rw[A4m hW hs hi];unfold two one;cases hz:EO W i with
 |none=>exact⟨_,rfl,rfl,by omega⟩
 |some x=>
  have:=Jg hW hs hz;simp only;cases hz2:EO W (i+1)with
  |none=>exact⟨_,rfl,rfl,by omega⟩
  |some y=>
   have:=Jg hW hs hz2;exact A4f hW hs (by omega) o ways hw w [x,y] (hf (i+2) x y)
theorem A1A{i:Nat}{w:Str}(he:W[i]? =some w)(hk:w ∉ KW)(o:Bool)(ways:List Wy)(way:Wy):∃r,Au (W,((i:Int),o)) ways way=some r/\EI W (Cn W i ways way w) r:=by
 have h77:w≠[77]:=fun h=>hk (by rw[h];decide)
 unfold Au Bp;simp only;rw[Ah,he,obs,show([[77],[76],[108],[72],[86],[104],[118],[90]]:List Str)=KWi from rfl,Iv,obs,zq hk,nF,cT,obs];unfold Cn;rw[zw h77,zw hk];exact⟨_,rfl,rfl,by omega⟩
theorem A0Q{i:Nat}(he:W[i]? =some [77])(ways:List Wy){way:Wy}(hw:way.length<=1000)(hwl:ways.length<=1000):∃r,Au (W,((i:Int),decide (way≠[]))) ways way=some r/\EI W (Cn W i ways way [77]) r:=by
 have hlt:=DY he;unfold Au Bp;simp only;rw[Ah,he,obs,show([[77],[76],[108],[72],[86],[104],[118],[90]]:List Str)=KWi from rfl,Iv,obs,zp (show([77]:Str)∈KW by decide)];unfold Cn;by_cases h0:way=[]
 ·subst h0;by_cases h4:ways.length=4
  ·have h4':((ways.length:Int)==4)=true:=by simp[h4]
   rw[zr rfl,zr rfl,zr h4];simp only[O6,Pg,LO,Pl,Ma,PX,LC,Pw,nT,nF,cF,cT,obs,h4',show decide (([]:Wy)≠[])=false from rfl,show(true==false)=false from rfl,show((5:Int) != 0)=true from rfl];exact⟨_,rfl,rfl,by omega⟩
  ·have h4':((ways.length:Int)==4)=false:=by simp;omega
   rw[zr rfl,zr rfl,zw h4];simp only[O6,Pg,LO,Pl,Ma,PX,LC,Pw,nT,nF,cF,cT,obs,h4',show decide (([]:Wy)≠[])=false from rfl,show(true==false)=false from rfl,show((0:Int) != 0)=false from rfl,AJ (show i<4611686018427387904 by omega),LD,show Lib.contains [72,86,104,118] [77]=false from by decide,za8];refine Ad2 hW hs (by omega) false ways (way:=[]) (by simp) [77] (f:=fun x y=>(x,y)) fun j x y=> ?_
   unfold Bf;simp only[O6,Pg,LO,Pl,Ma,PX,LC,Pw,zf3,show decide (((0:Nat):Int)>0)=false from rfl,cF,obs,za8];rfl
 ·have hp:=zd1.2 h0;rw[zr rfl,zw h0];simp only[O6,Pg,LO,Pl,Ma,PX,LC,Pw,nT,nF,cF,cT,obs,show decide (way≠[])=true from zp h0,show(true==true)=true from rfl,show((4:Int) != 0)=true from rfl];exact⟨_,rfl,rfl,by omega⟩
theorem A1T{i:Nat}(he:W[i]? =some [76])(ways:List Wy){way:Wy}(hw:way.length<=1000)(hwl:ways.length<=1000):∃r,Au (W,((i:Int),decide (way≠[]))) ways way=some r/\EI W (Cn W i ways way [76]) r:=by
 have hlt:=DY he;unfold Au Bp;simp only;rw[Ah,he,obs,show([[77],[76],[108],[72],[86],[104],[118],[90]]:List Str)=KWi from rfl,Iv,obs,zp (show([76]:Str)∈KW by decide)];unfold Cn;rw[zw (by decide),zr (show([76]:Str)∈KW by decide)];by_cases h0:way=[]
 ·subst h0;rw[zr rfl];simp only[PH,Pe,L1,Pu,Ly,PY,LM,O7,nT,nF,cF,cT,obs,show decide (([]:Wy)≠[])=false from rfl,show(false==false)=true from rfl,show((4:Int) != 0)=true from rfl];exact⟨_,rfl,rfl,by omega⟩
 ·have hp:=zd1.2 h0;rw[zw h0];rw[zw (by decide)];by_cases h12:way.length=12
  ·rw[zr h12];simp only[PH,Pe,L1,Pu,Ly,PY,LM,O7,nT,nF,cF,cT,obs,show decide (way≠[])=true from zp h0,show(false==true)=false from rfl,show((way.length:Int)==12)=true by simp;omega,show((5:Int) != 0)=true from rfl];exact⟨_,rfl,rfl,by omega⟩
  ·rw[zw h12,zr rfl];simp only[PH,Pe,L1,Pu,Ly,PY,LM,O7,nT,nF,cF,cT,obs,show decide (way≠[])=true from zp h0,show(false==true)=false from rfl,show((way.length:Int)==12)=false by simp;omega,show((0:Int) != 0)=false from rfl,AJ (show i<4611686018427387904 by omega),LD,show Lib.contains [72,86,104,118] [76]=false from by decide,za8];refine Ad2 hW hs (by omega) true ways hw [76] (f:=fun x y=>(x,y)) fun j x y=> ?_
   unfold Bf;simp only[PH,Pe,L1,Pu,Ly,PY,LM,O7,zp (show(way.length:Int)>0 by omega),cT,cF,DH h0 hw,DC h0,obs,za8];rfl
theorem AW4{i:Nat}(he:W[i]? =some [108])(ways:List Wy){way:Wy}(hw:way.length<=1000)(hwl:ways.length<=1000):∃r,Au (W,((i:Int),decide (way≠[]))) ways way=some r/\EI W (Cn W i ways way [108]) r:=by
 have hlt:=DY he;unfold Au Bp;simp only;rw[Ah,he,obs,show([[77],[76],[108],[72],[86],[104],[118],[90]]:List Str)=KWi from rfl,Iv,obs,zp (show([108]:Str)∈KW by decide)];unfold Cn;rw[zw (by decide),zr (show([108]:Str)∈KW by decide)];by_cases h0:way=[]
 ·subst h0;rw[zr rfl];simp only[Mn,LJ,JA,LV,JK,LU,JF,Mu,nT,nF,cF,cT,obs,show decide (([]:Wy)≠[])=false from rfl,show(false==false)=true from rfl,show((4:Int) != 0)=true from rfl];exact⟨_,rfl,rfl,by omega⟩
 ·have hp:=zd1.2 h0;rw[zw h0];rw[zw (by decide)];by_cases h12:way.length=12
  ·rw[zr h12];simp only[Mn,LJ,JA,LV,JK,LU,JF,Mu,nT,nF,cF,cT,obs,show decide (way≠[])=true from zp h0,show(false==true)=false from rfl,show((way.length:Int)==12)=true by simp;omega,show((5:Int) != 0)=true from rfl];exact⟨_,rfl,rfl,by omega⟩
  ·rw[zw h12,zw (by decide),zr rfl];simp only[Mn,LJ,JA,LV,JK,LU,JF,Mu,nT,nF,cF,cT,obs,show decide (way≠[])=true from zp h0,show(false==true)=false from rfl,show((way.length:Int)==12)=false by simp;omega,show((0:Int) != 0)=false from rfl,AJ (show i<4611686018427387904 by omega),LD,show Lib.contains [72,86,104,118] [108]=false from by decide,za8];refine Ad2 hW hs (by omega) true ways hw [108] (f:=fun x y=>(zi zj ((DL way).1+x),zi zj ((DL way).2+y))) fun j x y=> ?_
   unfold Bf;simp only[Mn,LJ,JA,LV,JK,LU,JF,Mu,zp (show(way.length:Int)>0 by omega),cT,cF,DH h0 hw,DC h0,obs,za8];rfl
theorem A19{i:Nat}(he:W[i]? =some [72])(ways:List Wy){way:Wy}(hw:way.length<=1000)(hwl:ways.length<=1000):∃r,Au (W,((i:Int),decide (way≠[]))) ways way=some r/\EI W (Cn W i ways way [72]) r:=by
 have hlt:=DY he;unfold Au Bp;simp only;rw[Ah,he,obs,show([[77],[76],[108],[72],[86],[104],[118],[90]]:List Str)=KWi from rfl,Iv,obs,zp (show([72]:Str)∈KW by decide)];unfold Cn;rw[zw (by decide),zr (show([72]:Str)∈KW by decide)];by_cases h0:way=[]
 ·subst h0;rw[zr rfl];simp only[PI,O2,Mr,Pb,Mi,Pq,LE,Pj,nT,nF,cF,cT,obs,show decide (([]:Wy)≠[])=false from rfl,show(false==false)=true from rfl,show((4:Int) != 0)=true from rfl];exact⟨_,rfl,rfl,by omega⟩
 ·have hp:=zd1.2 h0;rw[zw h0];rw[zw (by decide)];by_cases h12:way.length=12
  ·rw[zr h12];simp only[PI,O2,Mr,Pb,Mi,Pq,LE,Pj,nT,nF,cF,cT,obs,show decide (way≠[])=true from zp h0,show(false==true)=false from rfl,show((way.length:Int)==12)=true by simp;omega,show((5:Int) != 0)=true from rfl];exact⟨_,rfl,rfl,by omega⟩
  ·rw[zw h12,zw (by decide),zw (by decide),zr rfl];simp only[PI,O2,Mr,Pb,Mi,Pq,LE,Pj,nT,nF,cF,cT,obs,show decide (way≠[])=true from zp h0,show(false==true)=false from rfl,show((way.length:Int)==12)=false by simp;omega,show((0:Int) != 0)=false from rfl,AJ (show i<4611686018427387904 by omega),LD,show Lib.contains [72,86,104,118] [72]=true from by decide,za8];refine UR hW hs (by omega) true ways hw [72] (f:=fun x=>(x,(DL way).2)) fun j x=> ?_
   unfold Bf;simp only[PI,O2,Mr,Pb,Mi,Pq,LE,Pj,zp (show(way.length:Int)>0 by omega),cT,cF,DH h0 hw,DC h0,obs,za8];rfl
theorem AN7{i:Nat}(he:W[i]? =some [104])(ways:List Wy){way:Wy}(hw:way.length<=1000)(hwl:ways.length<=1000):∃r,Au (W,((i:Int),decide (way≠[]))) ways way=some r/\EI W (Cn W i ways way [104]) r:=by
 have hlt:=DY he;unfold Au Bp;simp only;rw[Ah,he,obs,show([[77],[76],[108],[72],[86],[104],[118],[90]]:List Str)=KWi from rfl,Iv,obs,zp (show([104]:Str)∈KW by decide)];unfold Cn;rw[zw (by decide),zr (show([104]:Str)∈KW by decide)];by_cases h0:way=[]
 ·subst h0;rw[zr rfl];simp only[Lt,Ms,JC,Mq,Jd,L7,JE,L6,nT,nF,cF,cT,obs,show decide (([]:Wy)≠[])=false from rfl,show(false==false)=true from rfl,show((4:Int) != 0)=true from rfl];exact⟨_,rfl,rfl,by omega⟩
 ·have hp:=zd1.2 h0;rw[zw h0];rw[zw (by decide)];by_cases h12:way.length=12
  ·rw[zr h12];simp only[Lt,Ms,JC,Mq,Jd,L7,JE,L6,nT,nF,cF,cT,obs,show decide (way≠[])=true from zp h0,show(false==true)=false from rfl,show((way.length:Int)==12)=true by simp;omega,show((5:Int) != 0)=true from rfl];exact⟨_,rfl,rfl,by omega⟩
  ·rw[zw h12,zw (by decide),zw (by decide),zw (by decide),zr rfl];simp only[Lt,Ms,JC,Mq,Jd,L7,JE,L6,nT,nF,cF,cT,obs,show decide (way≠[])=true from zp h0,show(false==true)=false from rfl,show((way.length:Int)==12)=false by simp;omega,show((0:Int) != 0)=false from rfl,AJ (show i<4611686018427387904 by omega),LD,show Lib.contains [72,86,104,118] [104]=true from by decide,za8];refine UR hW hs (by omega) true ways hw [104] (f:=fun x=>(zi zj ((DL way).1+x),(DL way).2)) fun j x=> ?_
   unfold Bf;simp only[Lt,Ms,JC,Mq,Jd,L7,JE,L6,zp (show(way.length:Int)>0 by omega),cT,cF,DH h0 hw,DC h0,obs,za8];rfl
theorem A2o{i:Nat}(he:W[i]? =some [86])(ways:List Wy){way:Wy}(hw:way.length<=1000)(hwl:ways.length<=1000):∃r,Au (W,((i:Int),decide (way≠[]))) ways way=some r/\EI W (Cn W i ways way [86]) r:=by
 have hlt:=DY he;unfold Au Bp;simp only;rw[Ah,he,obs,show([[77],[76],[108],[72],[86],[104],[118],[90]]:List Str)=KWi from rfl,Iv,obs,zp (show([86]:Str)∈KW by decide)];unfold Cn;rw[zw (by decide),zr (show([86]:Str)∈KW by decide)];by_cases h0:way=[]
 ·subst h0;rw[zr rfl];simp only[PM,PK,Mb,O4,LK,PJ,L2,O3,nT,nF,cF,cT,obs,show decide (([]:Wy)≠[])=false from rfl,show(false==false)=true from rfl,show((4:Int) != 0)=true from rfl];exact⟨_,rfl,rfl,by omega⟩
 ·have hp:=zd1.2 h0;rw[zw h0];rw[zw (by decide)];by_cases h12:way.length=12
  ·rw[zr h12];simp only[PM,PK,Mb,O4,LK,PJ,L2,O3,nT,nF,cF,cT,obs,show decide (way≠[])=true from zp h0,show(false==true)=false from rfl,show((way.length:Int)==12)=true by simp;omega,show((5:Int) != 0)=true from rfl];exact⟨_,rfl,rfl,by omega⟩
  ·rw[zw h12,zw (by decide),zw (by decide),zw (by decide),zw (by decide),zr rfl];simp only[PM,PK,Mb,O4,LK,PJ,L2,O3,nT,nF,cF,cT,obs,show decide (way≠[])=true from zp h0,show(false==true)=false from rfl,show((way.length:Int)==12)=false by simp;omega,show((0:Int) != 0)=false from rfl,AJ (show i<4611686018427387904 by omega),LD,show Lib.contains [72,86,104,118] [86]=true from by decide,za8];refine UR hW hs (by omega) true ways hw [86] (f:=fun x=>((DL way).1,x)) fun j x=> ?_
   unfold Bf;simp only[PM,PK,Mb,O4,LK,PJ,L2,O3,zp (show(way.length:Int)>0 by omega),cT,cF,DH h0 hw,DC h0,obs,za8];rfl
theorem AU5{i:Nat}(he:W[i]? =some [118])(ways:List Wy){way:Wy}(hw:way.length<=1000)(hwl:ways.length<=1000):∃r,Au (W,((i:Int),decide (way≠[]))) ways way=some r/\EI W (Cn W i ways way [118]) r:=by
 have hlt:=DY he;unfold Au Bp;simp only;rw[Ah,he,obs,show([[77],[76],[108],[72],[86],[104],[118],[90]]:List Str)=KWi from rfl,Iv,obs,zp (show([118]:Str)∈KW by decide)];unfold Cn;rw[zw (by decide),zr (show([118]:Str)∈KW by decide)];by_cases h0:way=[]
 ·subst h0;rw[zr rfl];simp only[LG,L9,JH,Ls,Jk,L4,Ja,Lz,nT,nF,cF,cT,obs,show decide (([]:Wy)≠[])=false from rfl,show(false==false)=true from rfl,show((4:Int) != 0)=true from rfl];exact⟨_,rfl,rfl,by omega⟩
 ·have hp:=zd1.2 h0;rw[zw h0];rw[zw (by decide)];by_cases h12:way.length=12
  ·rw[zr h12];simp only[LG,L9,JH,Ls,Jk,L4,Ja,Lz,nT,nF,cF,cT,obs,show decide (way≠[])=true from zp h0,show(false==true)=false from rfl,show((way.length:Int)==12)=true by simp;omega,show((5:Int) != 0)=true from rfl];exact⟨_,rfl,rfl,by omega⟩
  ·rw[zw h12,zw (by decide),zw (by decide),zw (by decide),zw (by decide),zw (by decide)];simp only[LG,L9,JH,Ls,Jk,L4,Ja,Lz,nT,nF,cF,cT,obs,show decide (way≠[])=true from zp h0,show(false==true)=false from rfl,show((way.length:Int)==12)=false by simp;omega,show((0:Int) != 0)=false from rfl,AJ (show i<4611686018427387904 by omega),LD,show Lib.contains [72,86,104,118] [118]=true from by decide,za8];refine UR hW hs (by omega) true ways hw [118] (f:=fun x=>((DL way).1,zi zj ((DL way).2+x))) fun j x=> ?_
   unfold Bf;simp only[LG,L9,JH,Ls,Jk,L4,Ja,Lz,zp (show(way.length:Int)>0 by omega),cT,cF,DH h0 hw,DC h0,obs,za8];rfl
theorem A0f{i:Nat}(he:W[i]? =some [90])(ways:List Wy){way:Wy}(hw:way.length<=1000)(hwl:ways.length<=1000):∃r,Au (W,((i:Int),decide (way≠[]))) ways way=some r/\EI W (Cn W i ways way [90]) r:=by
 have hlt:=DY he;unfold Au Bp;simp only;rw[Ah,he,obs,show([[77],[76],[108],[72],[86],[104],[118],[90]]:List Str)=KWi from rfl,Iv,obs,zp (show([90]:Str)∈KW by decide)];unfold Cn;rw[zw (by decide),zr (show([90]:Str)∈KW by decide)];by_cases h0:way=[]
 ·subst h0;rw[zr rfl];simp only[Rz,SL,Ok,R0,OB,R4,Ou,Ss,nT,nF,cF,cT,obs,show decide (([]:Wy)≠[])=false from rfl,show(false==false)=true from rfl,show((4:Int) != 0)=true from rfl];exact⟨_,rfl,rfl,by omega⟩
 ·have hp:=zd1.2 h0;rw[zw h0];rw[zr rfl];by_cases h3:way.length<3
  ·rw[zr h3];simp only[Rz,SL,Ok,R0,OB,R4,Ou,Ss,nT,nF,cF,cT,obs,show decide (way≠[])=true from zp h0,show(false==true)=false from rfl,zp (show(way.length:Int)<3 by omega),show((5:Int) != 0)=true from rfl];exact⟨_,rfl,rfl,by omega⟩
  ·rw[zw h3];simp only[Rz,SL,Ok,R0,OB,R4,Ou,Ss,nT,nF,cF,cT,obs,show decide (way≠[])=true from zp h0,show(false==true)=false from rfl,zq (show ¬(way.length:Int)<3 by omega),show((0:Int) != 0)=false from rfl,AJ (show i<4611686018427387904 by omega)];rw[Fy (by simp[Ab];omega) (by simp[Ab];omega),obs];exact⟨_,rfl,rfl⟩
theorem AO5{i:Nat}{w:Str}(he:W[i]? =some w)(ways:List Wy){way:Wy}(hw:way.length<=1000)(hwl:ways.length<=1000):∃r,Au (W,((i:Int),decide (way≠[]))) ways way=some r/\EI W (Cn W i ways way w) r:=by
 by_cases hk:w∈KW
 ·have hk':w=[77]\/w=[76]\/w=[108]\/w=[72]\/w=[104]\/w=[86]\/w=[118]\/w=[90]:=by simpa[KW]using hk
  rcases hk' with rfl|rfl|rfl|rfl|rfl|rfl|rfl|rfl
  ·exact A0Q hW hs he ways hw hwl
  ·exact A1T hW hs he ways hw hwl
  ·exact AW4 hW hs he ways hw hwl
  ·exact A19 hW hs he ways hw hwl
  ·exact AN7 hW hs he ways hw hwl
  ·exact A2o hW hs he ways hw hwl
  ·exact AU5 hW hs he ways hw hwl
  ·exact A0f hW hs he ways hw hwl
 ·exact A1A hW hs he hk _ ways way
end
end
section
open Go
def CF(W:List Str)(i:Nat)(ways:List Wy)(way:Wy):CV->Prop
 |.inl (c,_)=>c≠0
 |.inr (j,ways',way')=>i<j/\j<=W.length/\ways'.length<=ways.length+1/\way'.length<=way.length+1
section
variable {W:List Str} (hW:W.length<=1000) (hs:∀w∈W,w.length<=1000)
include hW hs
theorem A5r{i j:Nat}(hi:i<j)(hj:j<=W.length)(ways:List Wy)(way:Wy)(p:Pn):CF W i ways way (ptV Gg j ways way p):=by
 unfold ptV
 split
 ·exact⟨hi,hj,by omega,by simp⟩
 ·show(6:Int)≠0;omega
theorem A04{i j:Nat}(hi:i<j)(ways:List Wy)(way:Wy)(f:Int->Pn):CF W i ways way (one W j ways way f):=by
 unfold one;cases hz:EO W j with
 |none=>show(3:Int)≠0;omega
 |some x=>exact A5r hW hs (by omega) (Jg hW hs hz) ways way _
theorem A4q{i j:Nat}(hi:i<j)(ways:List Wy)(way:Wy)(f:Int->Int->Pn):CF W i ways way (two W j ways way f):=by
 unfold two;cases hz:EO W j with
 |none=>show(3:Int)≠0;omega
 |some x=>exact A04 hW hs (by omega) ways way _
theorem A0E{i:Nat}{w:Str}(he:W[i]? =some w)(ways:List Wy)(way:Wy):CF W i ways way (Cn W i ways way w):=by
 have hlt:=DY he;unfold Cn
 repeat' split
 all_goals first
  |exact A4q hW hs (by omega) ways way _
  |exact A04 hW hs (by omega) ways way _
  |(show(5:Int)≠0;omega)
  |(show(4:Int)≠0;omega)
  |(show(2:Int)≠0;omega)
  |exact⟨by omega,by omega,by simp,by simp⟩
def GY(W:List Str):Nat->Nat->List Wy->Wy->(Int×Nat)⊕(List Wy×Wy)
 |0,_,ways,way=>.inr (ways,way)
 |n+1,i,ways,way=>match W[i]? with|none=>.inr (ways,way)|some w=>(match Cn W i ways way w with|.inl e=>.inl e|.inr (j,ways',way')=>GY W n j ways' way')
abbrev SP:=(List Str×Int×Int)×List Wy×Wy
def spB:SP->Option (SP⊕SP):=fun s=>C9 s.1 s.2.1 s.2.2
def A6e(W:List Str):((Int×Nat)⊕(List Wy×Wy))->SP->Prop
 |.inl (c,i),r=>r.1.2=((i:Int),c)/\c≠0
 |.inr (ways,way),r=>r=((W,((W.length:Int),0)),(ways,way))
omit hW hs in
theorem A4H (W:List Str) (i c:Int) (hc:c≠0) (ways:List Wy) (way:Wy):Ad spB ((W,(i,c)),(ways,way))=some ((W,(i,c)),(ways,way)):=by
 refine Aj ?_
 unfold spB C9;simp only;by_cases h:i<(W.length:Int)
 ·rw[zp h,cT,show(c==0)=false by simpa using hc,cF]
 ·rw[zq h,cF]
theorem A3n:∀(n i:Nat)(ways:List Wy)(way:Wy),W.length<n+i->i<=W.length->ways.length<=i->way.length<=i->∃r,Ad spB ((W,((i:Int),0)),(ways,way))=some r/\A6e W (GY W n i ways way) r:=by
 intro n
 induction n with
 |zero=>intro i ways way h1 h2;omega
 |succ n ih=>
  intro i ways way h1 h2 h3 h4;unfold GY;by_cases hi:i=W.length
  ·subst hi;rw[List.getElem?_eq_none (za7 _)];refine⟨_,Aj (r:=((W,((W.length:Int),0)),(ways,way))) ?_,rfl⟩
   unfold spB C9;simp only;rw[zq (by omega),cF]
  ·have he:W[i]? =some (W[i]'(by omega)):=za1 (by omega);generalize (W[i]'(by omega))=w at he;have hc:=AN2 hW hs he ways (way:=way) (by omega) (by omega);have hf:=A0E hW hs he ways way;rw[he];simp only;have hgo:spB ((W,((i:Int),0)),(ways,way))=some (.inl (RI W ways way (Cn W i ways way w))):=by
    unfold spB C9;simp only;rw[zp (by omega),cT,show((0:Int)==0)=true from rfl,cT,hc,obs]
   rw[AM hgo];cases hz:Cn W i ways way w with
   |inl e=>
    obtain⟨c,j⟩:=e;rw[hz]at hf;exact⟨_,A4H W _ c hf ways way,rfl,hf⟩
   |inr v=>
    obtain⟨j,ways',way'⟩:=v;rw[hz]at hf;obtain⟨f1,f2,f3,f4⟩:=hf;exact ih j ways' way' (by omega) f2 (by omega) (by omega)
abbrev IP:=(List Str×Int×Bool)×List Wy×Wy
def ipB:IP->Option (IP⊕(IP⊕(List Wy×Int×Int×Bool))):=fun s=>D0 s.1 s.2.1 s.2.2
def A56(W:List Str):((Int×Nat)⊕(List Wy×Wy))->(IP⊕(List Wy×Int×Int×Bool))->Prop
 |.inl (c,i),r=>r=.inr ([],c,(i:Int),false)
 |.inr (ways,way),r=>r=.inl ((W,((W.length:Int),decide (way≠[]))),(ways,way))
theorem A2F:∀(n i:Nat)(ways:List Wy)(way:Wy),W.length<n+i->i<=W.length->ways.length<=i->way.length<=i->∃r,Ad ipB ((W,((i:Int),decide (way≠[]))),(ways,way))=some r/\A56 W (GY W n i ways way) r:=by
 intro n
 induction n with
 |zero=>intro i ways way h1 h2;omega
 |succ n ih=>
  intro i ways way h1 h2 h3 h4;unfold GY;by_cases hi:i=W.length
  ·subst hi;rw[List.getElem?_eq_none (za7 _)];refine⟨.inl ((W,((W.length:Int),decide (way≠[]))),(ways,way)),Aj ?_,rfl⟩
   unfold ipB D0;simp only;rw[zq (show ¬(W.length:Int)<(W.length:Int) by omega),cF]
  ·have he:W[i]? =some (W[i]'(by omega)):=za1 (by omega);generalize (W[i]'(by omega))=w at he;obtain⟨r,hc,hE⟩:=AO5 hW hs he ways (way:=way) (by omega) (by omega);have hf:=A0E hW hs he ways way;rw[he];simp only;have hgo:ipB ((W,((i:Int),decide (way≠[]))),(ways,way))=bif(r.2.2.2.1 != 0)then some (.inr (.inr ([],(r.2.2.2.1,(r.2.2.2.2,false)))))else some (.inl ((r.1.1,(r.1.2.1,r.1.2.2)),(r.2.1,r.2.2.1))):=by
    unfold ipB D0;simp only;rw[zp (show(i:Int)<(W.length:Int) by omega),cT,hc,obs]
   cases hz:Cn W i ways way w with
   |inl e=>
    obtain⟨c,j⟩:=e;rw[hz]at hf hE;have hE:r.2.2.2=(c,(j:Int))/\c≠0:=hE;rw[hE.1,show(c != 0)=true by simpa[bne]using hE.2,cT]at hgo;exact⟨_,Aj hgo,rfl⟩
   |inr v=>
    obtain⟨j,ways',way'⟩:=v;rw[hz]at hf hE;obtain⟨f1,f2,f3,f4⟩:=hf;have hE:r=((W,((j:Int),decide (way'≠[]))),(ways',(way',(0,0)))):=hE;subst hE;simp only at hgo;rw[show((0:Int) != 0)=false from rfl,cF]at hgo;rw[AM hgo];exact ih j ways' way' (by omega) f2 (by omega) (by omega)
end
def K9(s:Str):List Wy×Int×Int×Bool:=
 if 1<=s.length/\s.length<=400 then(match GY (Ai 32 s) ((Ai 32 s).length+1) 0 [] []with
  |.inl (c,i)=>([],c,(i:Int),false)
  |.inr (ways,way)=>if way≠[]then([],7,((Ai 32 s).length:Int),false)else(ways,0,0,true))else([],1,0,false)
theorem TZ{c:UInt8}:∀(n:Nat)(s:Str),s.length<=n->(Ai c s).length<=s.length+1:=by
 intro n
 induction n with
 |zero=>
  intro s hs;have:s=[]:=zb2 (by omega);subst this;rw[Hs (by simp)];simp
 |succ n ih=>
  intro s hs;rcases AE4 c s with h|⟨x,r,rfl,h⟩
  ·rw[Hs h];simp
  ·rw[LL h];rw[zd4,zb9]at hs⊢
   have:=ih r (by omega);rw[zb9];omega
theorem Aj8{s:Str}(hs:s.length<4611686018427387904):HA s=some (K9 s):=by
 unfold HA K9;by_cases h0:s.length=0
 ·rw[show((s.length:Int)==0)=true by simp[h0],cT,zw (by omega)]
 rw[show((s.length:Int)==0)=false from beq_eq_false_iff_ne.2 (by omega),cF];by_cases h1:400<s.length
 ·rw[zp (by omega),cT,zw (by omega)]
 rw[zq (by omega),cF,AD2 (by omega),obs,zr (by omega)];have hc:=TZ (c:=32) s.length s (za7 _);have hl:∀w∈Ai 32 s,w.length<=1000:=fun w hw=>by have:=X2 s.length s (za7 _) w hw;omega
 obtain⟨r,h2,h3⟩:=A3n (W:=Ai 32 s) (by omega) hl ((Ai 32 s).length+1) 0 [] [] (by omega) (by omega) (by simp) (by simp);have h2':Ad (fun(s:(((List Str)×(Int×Int))×((List Wy)×Wy)))=>C9 s.1 s.2.1 s.2.2) ((Ai 32 s,((0:Int),(0:Int))),(([]:List Wy),([]:Wy)))=some r:=h2;rw[h2',obs];cases hz:GY (Ai 32 s) ((Ai 32 s).length+1) 0 [] []with
 |inl e=>
  obtain⟨c,i⟩:=e;rw[hz]at h3;have h3:r.1.2=((i:Int),c)/\c≠0:=h3;simp only[h3.1];rw[show(c==0)=false by simpa using h3.2,cF,obs];simp only[za8];rw[show(c != 0)=true by simpa[bne]using h3.2,cT]
 |inr v=>
  obtain⟨ways,way⟩:=v;rw[hz]at h3;have h3:r=((Ai 32 s,(((Ai 32 s).length:Int),0)),(ways,way)):=h3;subst h3;simp only;rw[show((0:Int)==0)=true from rfl,cT];by_cases hw:way=[]
  ·subst hw;rw[show decide (((([]:Wy).length:Nat):Int)>0)=false from rfl,cF,obs,zw (by simp)];rfl
  ·have hp:=zd1.2 hw;rw[zp (by omega),cT,obs,zr hw];rfl
theorem As0{s:Str}(hs:s.length<4294967281):HF s=some (K9 s):=by
 unfold HF K9;have hin:AO (s.length:Int) 1 400=some (decide (1<=s.length/\s.length<=400)):=by
  unfold AO;by_cases h:(s.length:Int)>=1
  ·rw[zp h,cT];congr 1;rw[decide_eq_decide];omega
  ·rw[zq h,cF];congr 1;symm;rw[zq];omega
 rw[hin,obs];by_cases h:1<=s.length/\s.length<=400
 ·rw[zp h,nT,cF,zr h];unfold Ic;rw[A0x hs,obs];have hc:=TZ (c:=32) s.length s (za7 _);have hl:∀w∈Ai 32 s,w.length<=1000:=fun w hw=>by have:=X2 s.length s (za7 _) w hw;omega
  obtain⟨r,h2,h3⟩:=A2F (W:=Ai 32 s) (by omega) hl ((Ai 32 s).length+1) 0 [] [] (by omega) (by omega) (by simp) (by simp);have h2':Ad (fun(s:(((List Str)×(Int×Bool))×((List Wy)×Wy)))=>D0 s.1 s.2.1 s.2.2) ((Ai 32 s,((0:Int),false)),(([]:List Wy),([]:Wy)))=some r:=h2;rw[h2',obs];cases hz:GY (Ai 32 s) ((Ai 32 s).length+1) 0 [] []with
  |inl e=>
   obtain⟨c,i⟩:=e;rw[hz]at h3;have h3:r=.inr ([],c,(i:Int),false):=h3;subst h3;rfl
  |inr v=>
   obtain⟨ways,way⟩:=v;rw[hz]at h3;have h3:r=.inl ((Ai 32 s,(((Ai 32 s).length:Int),decide (way≠[]))),(ways,way)):=h3;subst h3;simp only[Sum.elim_inl];by_cases hw:way=[]
   ·subst hw;rw[show decide (([]:Wy)≠[])=false from rfl,cF,zw (by simp)]
   ·rw[zp hw,cT,zr hw]
 ·rw[zq h,nF,cT,zw h]
end
section
open Go
theorem A5k{n:Int}(h1:0<=n)(h2:n<256):zi .u8 n=n:=by rw[IntKind.wrap_u8];omega
theorem Vm{n:Nat}(h:n<10):CA [zi .u8 (zi zj ((48:Int)+(n:Int)))]=[UInt8.ofNat (48+n)]:=by
 rw[Ae (by omega) (by omega),A5k (by omega) (by omega)];unfold CA;simp only[zb8,List.map_nil]
 congr 2
theorem AH9:∀(f n:Nat),n<f->n<9223372036854775808->Hf f (n:Int)=some (Lib.decDigits n)
 |0,n,h,_=>by omega
 |f+1,n,h,h1=>by
  unfold Hf Sd;by_cases hn:n<10
  ·rw[zp (by omega),cT,Vm hn,Lib.decDigits,dif_pos hn]
  ·have e1:Int.tdiv (n:Int) 10=((n/10:Nat):Int):=by rw[zc5 (by omega)];omega
   have e2:Int.tmod (n:Int) 10=((n%10:Nat):Int):=by rw[zc6 (by omega)];omega
   rw[zq (by omega),cF,e1,Ae (by omega) (by omega),AH9 f (n/10) (by omega) (by omega),obs,e2,Vm (by omega),Hv (by
    have:=Ks (n:=n/10) (by omega);simp;omega),obs]
   conv=>rhs;rw[Lib.decDigits,dif_neg hn]
theorem A3o{n:Nat}(h:n<9223372036854775808):IU (n:Int)=some (Lib.decDigits n):=by
 unfold IU;exact AH9 _ n (by omega) h
theorem Ak7{n:Int}(h0:0<=n)(h1:n<9223372036854775808):IU n=some (Lib.itoa n):=by
 obtain⟨m,rfl⟩:∃m:Nat,n=(m:Int):=⟨n.toNat,by omega⟩;rw[A3o (by omega),A2h h0,zc2]
end
section
open Go
end
section
open Go
end
section
open Go
abbrev Fb:=List (List (Int×Int))
def Jj(l:Fb):Bool:=l.all JX&&(decide (1<=l.length)&&decide (l.length<=4))
end
section
open Go
def sp(ws:List Str):Str:=(ws.map (· ++[32])).flatten
def SW(ws:List Str):Prop:=∀x∈ws,x.length<=21
theorem SW.append{a b:List Str}(ha:SW a)(hb:SW b):SW (a++b):=fun x hx=>(zb6.1 hx).elim (ha x) (hb x)
section
variable {l:Fb} (hl:l.length<=4) (hw:∀w∈l,w.length<=12/\3<=w.length/\∀p∈w,-1000<=p.1/\p.1<=1000/\ -1000<=p.2/\p.2<=1000)
include hl hw
end
end
section
open Go
theorem A1P{i:Nat}{ways:List Wy}{way:Wy}{p:Pn}{j:Nat}{ways':List Wy}{way':Wy}(h:ptV Gg i ways way p=.inr (j,ways',way')):ways'=ways/\way'=way++[p]/\Gg p=true:=by
 unfold ptV at h
 split at h
 ·rename_i hg;cases h
  exact⟨rfl,rfl,hg⟩
 ·cases h
theorem KT{W:List Str}{i:Nat}{ways:List Wy}{way:Wy}{f:Int->Pn}{j:Nat}{ways':List Wy}{way':Wy}(h:one W i ways way f=.inr (j,ways',way')):ways'=ways/\∃p,way'=way++[p]/\Gg p=true:=by
 unfold one at h
 split at h
 ·cases h
 ·obtain⟨a,b,c⟩:=A1P h;exact⟨a,_,b,c⟩
theorem QL{W:List Str}{i:Nat}{ways:List Wy}{way:Wy}{f:Int->Int->Pn}{j:Nat}{ways':List Wy}{way':Wy}(h:two W i ways way f=.inr (j,ways',way')):ways'=ways/\∃p,way'=way++[p]/\Gg p=true:=by
 unfold two at h
 split at h
 ·cases h
 ·exact KT h
structure PInv (ways:List Wy) (way:Wy):Prop where
 len:ways.length<=4
 ok:∀w∈ways,JX w=true
 pts:∀p∈way,DS p=true
 short:way.length<=12
 four:way≠[]->ways.length<4
theorem A1B(p:Pn):Gg p=DS p:=by
 unfold Gg DS C7;rw[Bool.eq_iff_iff];simp
theorem AN6{ways:List Wy}{way:Wy}{p:Pn}(h:PInv ways way)(h4:ways.length<4)(h12:way.length<12)(hp:Gg p=true):PInv ways (way++[p]):=by
 refine⟨h.len,h.ok,fun q hq=> ?_,by rw[zd4,List.length_singleton];omega,fun _=>h4⟩
 rcases zb6.1 hq with hq|hq
 ·exact h.pts q hq
 ·rw[zf2.1 hq,<-A1B];exact hp
theorem A2T{W:List Str}{i:Nat}{w:Str}{ways:List Wy}{way:Wy}{j:Nat}{ways':List Wy}{way':Wy}(h:PInv ways way)(hc:Cn W i ways way w=.inr (j,ways',way')):PInv ways' way':=by
 have key:∀(x:CV),(∀j ways' way',x=.inr (j,ways',way')->ways'=ways/\∃p,way'=way++[p]/\Gg p=true)->ways.length<4->way.length<12->x=.inr (j,ways',way')->PInv ways' way':=by
  intro x hx h4 h12 he;obtain⟨a,p,b,c⟩:=hx _ _ _ he;rw[a,b];exact AN6 h h4 h12 c
 have hlen:=h.short;unfold Cn at hc
 split at hc
 ·split at hc
  ·rename_i hway
   split at hc
   ·cases hc
   ·rename_i h4;have:=h.len;exact key _ (fun _ _ _=>QL) (by omega) (by rw[hway];simp) hc
  ·cases hc
 ·split at hc
  ·split at hc
   ·cases hc
   ·rename_i hne;have h4:=h.four hne
    split at hc
    ·split at hc
     ·cases hc
     ·rename_i h3;cases hc
      refine⟨by rw[zd4,List.length_singleton];omega,fun v hv=> ?_,fun p hp=>(by cases hp),by decide,fun h=>absurd rfl h⟩
      rcases zb6.1 hv with hv|hv
      ·exact h.ok v hv
      ·rw[zf2.1 hv];exact IN.2 ⟨⟨by omega,h.short⟩,h.pts⟩
    ·split at hc
     ·cases hc
     ·rename_i h12;have h12:way.length<12:=by omega
      split at hc
      ·exact key _ (fun _ _ _=>QL) h4 h12 hc
      ·split at hc
       ·exact key _ (fun _ _ _=>QL) h4 h12 hc
       ·split at hc
        ·exact key _ (fun _ _ _=>KT) h4 h12 hc
        ·split at hc
         ·exact key _ (fun _ _ _=>KT) h4 h12 hc
         ·split at hc
          ·exact key _ (fun _ _ _=>KT) h4 h12 hc
          ·exact key _ (fun _ _ _=>KT) h4 h12 hc
  ·cases hc
theorem Zo{W:List Str}:∀(n i:Nat)(ways:List Wy)(way:Wy),PInv ways way->∀ways' way',GY W n i ways way=.inr (ways',way')->PInv ways' way'
 |0,i,ways,way,h,ways',way',he=>by
  rw[GY]at he;cases he
  exact h
 |n+1,i,ways,way,h,ways',way',he=>by
  rw[GY]at he
  split at he
  ·cases he;exact h
  ·rename_i w hw;cases hc:Cn W i ways way w with
   |inl e=>rw[hc]at he;cases he
   |inr v=>
    obtain⟨j,a,b⟩:=v;rw[hc]at he;exact Zo n j a b (A2T h hc) _ _ he
theorem Ag8{W:List Str}{i:Nat}{w:Str}{ways:List Wy}{way:Wy}{j:Nat}{ways':List Wy}{way':Wy}(hc:Cn W i ways way w=.inr (j,ways',way')):way'≠[]\/1<=ways'.length:=by
 have k2:∀f:Int->Int->Pn,two W (i+1) ways way f=.inr (j,ways',way')->way'≠[]\/1<=ways'.length:=fun f h=>by
  obtain⟨_,p,b,_⟩:=QL h
  left;rw[b];simp
 have k1:∀f:Int->Pn,one W (i+1) ways way f=.inr (j,ways',way')->way'≠[]\/1<=ways'.length:=fun f h=>by
  obtain⟨_,p,b,_⟩:=KT h
  left;rw[b];simp
 unfold Cn at hc
 repeat' split at hc
 all_goals first
  |exact k2 _ hc
  |exact k1 _ hc
  |(cases hc;right;simp)
  |cases hc
theorem Vo{W:List Str}:∀(n i:Nat)(ways:List Wy)(way:Wy),(way≠[]\/1<=ways.length)->∀ways' way',GY W n i ways way=.inr (ways',way')->way'≠[]\/1<=ways'.length
 |0,i,ways,way,h,ways',way',he=>by
  rw[GY]at he;cases he
  exact h
 |n+1,i,ways,way,h,ways',way',he=>by
  rw[GY]at he
  split at he
  ·cases he;exact h
  ·rename_i w hw;cases hc:Cn W i ways way w with
   |inl e=>rw[hc]at he;cases he
   |inr v=>
    obtain⟨j,a,b⟩:=v;rw[hc]at he;exact Vo n j a b (Ag8 hc) _ _ he
theorem AW2{s:Str}{l:List Wy}{c at_:Int}(h:K9 s=(l,c,at_,true)):Jj l=true/\c=0/\at_=0:=by
 unfold K9 at h
 split at h
 ·split at h
  ·cases h
  ·rename_i ways way hp
   split at h
   ·cases h
   ·rename_i hw;have hw:way=[]:=Classical.byContradiction fun h=>hw h
    have inv:=Zo _ _ _ _ (⟨by simp,by simp,by simp,by simp,fun h=>absurd rfl h⟩:PInv [] []) _ _ hp;have h1:1<=ways.length:=by
     have hne:=A0H 32 s;obtain⟨x,r,hx⟩:∃x r,Ai 32 s=x::r:=List.exists_cons_of_ne_nil hne;rw[GY,hx]at hp;simp only[List.getElem?_cons_zero]at hp;cases hc:Cn (x::r) 0 [] [] x with
     |inl e=>rw[hc]at hp;cases hp
     |inr v=>
      obtain⟨j,a,b⟩:=v;rw[hc]at hp;rcases Vo _ _ _ _ (Ag8 hc) _ _ hp with h|h
      ·exact absurd hw h
      ·exact h
    cases h
    refine⟨?_,rfl,rfl⟩
    unfold Jj;rw[za2,za2,decide_eq_true_eq,decide_eq_true_eq];exact⟨za5.2 inv.ok,h1,inv.len⟩
 ·cases h
theorem A0W{W:List Str}{i:Nat}{w:Str}{ways:List Wy}{way:Wy}{c:Int}{j:Nat}(hc:Cn W i ways way w=.inl (c,j)):c≠0:=by
 have kp:∀(a:Nat)(p:Pn),ptV Gg a ways way p=.inl (c,j)->c≠0:=fun a p h=>by
  unfold ptV at h
  split at h<;>cases h
  omega
 have k1:∀(a:Nat)(f:Int->Pn),one W a ways way f=.inl (c,j)->c≠0:=fun a f h=>by
  unfold one at h
  split at h
  ·cases h;omega
  ·exact kp _ _ h
 have k2:∀(a:Nat)(f:Int->Int->Pn),two W a ways way f=.inl (c,j)->c≠0:=fun a f h=>by
  unfold two at h
  split at h
  ·cases h;omega
  ·exact k1 _ _ h
 unfold Cn at hc
 repeat' split at hc
 all_goals first
  |exact k2 _ _ hc
  |exact k1 _ _ hc
  |(cases hc;omega)
  |cases hc
theorem U9{W:List Str}:∀(n i:Nat)(ways:List Wy)(way:Wy)(c:Int)(j:Nat),GY W n i ways way=.inl (c,j)->c≠0
 |0,i,ways,way,c,j,he=>by rw[GY]at he;cases he
 |n+1,i,ways,way,c,j,he=>by
  rw[GY]at he
  split at he
  ·cases he
  ·rename_i w hw;cases hc:Cn W i ways way w with
   |inl e=>rw[hc]at he;cases he;exact A0W hc
   |inr v=>
    obtain⟨j',a,b⟩:=v;rw[hc]at he;exact U9 n j' a b c j he
theorem AZ2{s:Str}{l:List Wy}{c at_:Int}(h:K9 s=(l,c,at_,false)):c≠0/\l=[]:=by
 unfold K9 at h
 split at h
 ·split at h
  ·rename_i c' i hp;cases h
   exact⟨U9 _ _ _ _ _ _ hp,rfl⟩
  ·split at h<;>cases h
   exact⟨by omega,rfl⟩
 ·cases h;exact⟨by omega,rfl⟩
end
section
open Go
end
section
open Go
def mvW(d:P2)(w:List P2):List P2:=w.map fun p=>(p.1+d.1,p.2+d.2)
def A3R(d:P2)(w:List P2):Prop:=JX w=true/\DS d=true/\(mvW d w).all DS=true
instance (d:P2) (w:List P2):Decidable (A3R d w):=by unfold A3R;infer_instance
section
variable {l:Fb} {d:P2} (hl:l.length<=1000) (hs:∀w∈l,Ao4 w)
include hl hs
end
theorem Pt(s:Str):(∃l,K9 s=(l,0,0,true)/\Jj l=true)\/∃c a,K9 s=([],c,a,false)/\c≠0:=by
 have hv:∃w c a ok,K9 s=(w,c,a,ok):=⟨_,_,_,_,rfl⟩;obtain⟨w,c,a,ok,e⟩:=hv;cases ok with
 |true=>
  obtain⟨h1,h2,h3⟩:=AW2 e;exact .inl ⟨w,by rw[e,h2,h3],h1⟩
 |false=>
  obtain⟨h1,h2⟩:=AZ2 e;exact .inr ⟨c,a,by rw[e,h2],h1⟩
theorem AK3{l:Fb}(h:Jj l=true):1<=l.length/\l.length<=4:=by
 unfold Jj at h;simp only[za2,decide_eq_true_eq]at h;exact h.2
end
section
open Go
def B:Nat->Int
 |0=>1
 |n+1=>65536*B n
theorem FZ:∀n,0<B n
 |0=>by decide
 |n+1=>by have:=FZ n;simp only[B];omega
theorem Qd:∀m n,B (m+n)=B m*B n
 |0,n=>by simp[B]
 |m+1,n=>by rw[show m+1+n=(m+n)+1 by omega];simp only[B];rw[Qd m n,zg1]
theorem JI{m n:Nat}(h:m<=n):B m<=B n:=by
 induction h with
 |refl=>exact Int.le_refl _
 | @step n h ih=>have:=FZ n;simp only[B];omega
def val:List Int->Int
 |[]=>0
 |x::l=>x+65536*val l
def LB(l:List Int):Prop:=∀x∈l,0<=x/\x<65536
theorem LB.nil:LB []:=fun _ h=>absurd h (List.not_mem_nil)
theorem LB.head{x:Int}{l:List Int}(h:LB (x::l)):0<=x/\x<65536:=h x (List.mem_cons_self ..)
theorem LB.tail{x:Int}{l:List Int}(h:LB (x::l)):LB l:=fun y hy=>h y (List.mem_cons_of_mem _ hy)
theorem LB.cons{x:Int}{l:List Int}(hx:0<=x/\x<65536)(h:LB l):LB (x::l):=fun y hy=>by
 rcases zc7.1 hy with rfl|hy
 ·exact hx
 ·exact h y hy
theorem LB.append{l m:List Int}(h:LB l)(h':LB m):LB (l++m):=fun y hy=>(zb6.1 hy).elim (h y) (h' y)
theorem LB.take{l:List Int}(h:LB l)(n:Nat):LB (l.take n):=fun y hy=>h y (List.mem_of_mem_take hy)
theorem LB.drop{l:List Int}(h:LB l)(n:Nat):LB (l.drop n):=fun y hy=>h y (List.mem_of_mem_drop hy)
theorem LB.get{l:List Int}(h:LB l){k:Nat}{x:Int}(hk:l[k]? =some x):0<=x/\x<65536:=h x (za4 hk)
theorem LB.set{l:List Int}(h:LB l){k:Nat}{x:Int}(hx:0<=x/\x<65536):LB (l.set k x):=fun y hy=>by
 rcases List.mem_or_eq_of_mem_set hy with hy|rfl
 ·exact h y hy
 ·exact hx
theorem LB.zeros(n:Nat):LB (List.replicate n 0):=fun y hy=>by have:=List.eq_of_mem_replicate hy;omega
theorem AP:∀{l:List Int},LB l->0<=val l
 |[],_=>Int.le_refl _
 |x::l,h=>by have:=h.head;have:=AP h.tail;simp only[val];omega
theorem Nd:∀{l:List Int},LB l->val l<B l.length
 |[],_=>by decide
 |x::l,h=>by have:=h.head;have:=Nd h.tail;simp only[val,zb9,B];omega
theorem Po:∀(l m:List Int),val (l++m)=val l+B l.length*val m
 |[],m=>by simp[val,B]
 |x::l,m=>by
  simp only[List.cons_append,val,zb9,B,Po l m];rw[ze0,zg1];omega
theorem EX:∀n,val (List.replicate n 0)=0
 |0=>rfl
 |n+1=>by simp only[List.replicate_succ,val,EX n];omega
theorem KU(l:List Int)(x:Int):val (l++[x])=val l+B l.length*x:=by rw[Po];simp[val]
theorem Sy(l:List Int)(n:Nat)(h:n<=l.length):val l=val (l.take n)+B n*val (l.drop n):=by
 have:=Po (l.take n) (l.drop n);rw[List.take_append_drop,List.length_take,Nat.min_eq_left h]at this;exact this
theorem FA:∀{l:List Int}{k:Nat}{x y:Int},l[k]? =some x->val (l.set k y)=val l+B k*(y-x)
 |[],k,x,y,h=>by simp at h
 |a::l,0,x,y,h=>by
  simp at h;subst h;simp only[List.set_cons_zero,val,B];omega
 |a::l,k+1,x,y,h=>by
  simp only[List.getElem?_cons_succ]at h;simp only[List.set_cons_succ,val,B,FA (y:=y) h];rw[ze0,zg1];omega
def NB(l:List Int):Prop:=∀x,l.getLast?=some x->x≠0
theorem NB.nil:NB []:=fun x h=>by simp at h
theorem NB.tail{x:Int}{l:List Int}(h:NB (x::l)):NB l:=fun y hy=>by
 cases l with
 |nil=>simp at hy
 |cons a t=>exact h y (by rw[List.getLast?_cons_cons];exact hy)
theorem Ae2:∀{l:List Int},LB l->NB l->l≠[]->B (l.length-1)<=val l
 |[],_,_,h=>absurd rfl h
 |[x],h,hn,_=>by
  have h1:=h.head;have h2:=hn x rfl;simp only[val,zb9,zf3,B];simp[B];omega
 |x::y::l,h,hn,_=>by
  have h1:=h.head;have h2:=Ae2 h.tail hn.tail (by simp);simp only[zb9,Nat.add_sub_cancel]at h2⊢
  rw[val];simp only[B];omega
theorem Aq9{l:List Int}(h:LB l)(hn:NB l)(h0:val l=0):l=[]:=by
 cases l with
 |nil=>rfl
 |cons x l=>
  have h1:=Ae2 h hn (by simp);have h2:=FZ ((x::l).length-1);omega
theorem AI5:∀{l m:List Int},LB l->NB l->LB m->NB m->val l=val m->l=m
 |[],m,_,_,hm,nm,h=>by
  have:val m=0:=by rw[<-h];rfl
  exact(Aq9 hm nm this).symm
 |x::l,[],hl,nl,_,_,h=>Aq9 hl nl (by rw[h];rfl)
 |x::l,y::m,hl,nl,hm,nm,h=>by
  have h1:=hl.head;have h2:=hm.head;simp only[val]at h;have hx:x=y:=by omega
  have hv:val l=val m:=by omega
  rw[hx,AI5 hl.tail nl.tail hm.tail nm.tail hv]
def lim(n:Nat):List Int:=if h:n=0 then []else((n%65536:Nat):Int)::lim (n/65536)
termination_by n
decreasing_by omega
theorem Cc:lim 0=[]:=by unfold lim;simp
theorem AE(n:Nat):LB (lim n):=by
 induction n using Nat.strongRecOn with
 |_ n ih=>
  unfold lim
  split
  ·exact LB.nil
  ·exact LB.cons (by omega) (ih (n/65536) (by omega))
theorem Ar(n:Nat):val (lim n)=n:=by
 induction n using Nat.strongRecOn with
 |_ n ih=>
  unfold lim
  split
  ·rename_i h;rw[h];rfl
  ·simp only[val,ih (n/65536) (by omega)];omega
theorem It{n:Nat}:lim n=[]↔n=0:=by
 constructor
 ·intro h;have:=Ar n;rw[h]at this;simp only[val]at this;omega
 ·rintro rfl;exact Cc
theorem RG(n:Nat):NB (lim n):=by
 induction n using Nat.strongRecOn with
 |_ n ih=>
  unfold lim
  split
  ·exact NB.nil
  ·rename_i hn;intro x hx;by_cases h0:n/65536=0
   ·rw[h0,Cc]at hx;simp at hx;omega
   ·have hne:lim (n/65536)≠[]:=fun h=>h0 (It.1 h)
    cases hl:lim (n/65536)with
    |nil=>exact absurd hl hne
    |cons a t=>
     rw[hl,List.getLast?_cons_cons]at hx;exact ih (n/65536) (by omega) x (by rw[hl];exact hx)
theorem A0A{l:List Int}(h:LB l)(hn:NB l):l=lim (val l).toNat:=AI5 h hn (AE _) (RG _) (by rw[Ar];have:=AP h;omega)
theorem An{n k:Nat}:(lim n).length<=k↔(n:Int)<B k:=by
 constructor
 ·intro h;have h1:=Nd (AE n);rw[Ar]at h1;have:=JI h;omega
 ·intro h;rcases zd6 k (lim n).length with hk|hk
  ·exfalso
   have hne:lim n≠[]:=by intro h0;rw[h0]at hk;simp at hk
   have h1:=Ae2 (AE n) (RG n) hne;rw[Ar]at h1;have:=JI (show k<=(lim n).length-1 by omega);omega
  ·exact hk
def Ez:List Int->List Int
 |[]=>[]
 |x::l=>match Ez l with|[]=>if x=0 then []else [x]|m=>x::m
theorem WM:∀{l:List Int},LB l->LB (Ez l)/\NB (Ez l)/\val (Ez l)=val l
 |[],_=>⟨LB.nil,NB.nil,rfl⟩
 |x::l,h=>by
  obtain⟨h1,h2,h3⟩:=WM h.tail;simp only[Ez];cases hs:Ez l with
  |nil=>
   rw[hs]at h3;simp only[val]at h3;simp only
   split
   ·rename_i hx;subst hx;exact⟨LB.nil,NB.nil,by simp only[val];omega⟩
   ·rename_i hx;exact⟨LB.cons h.head LB.nil,fun y hy=>by simp at hy;subst hy;exact hx,by simp only[val];omega⟩
  |cons a t=>
   rw[hs]at h1 h2 h3;simp only;exact⟨LB.cons h.head h1,fun y hy=>h2 y (by rw[List.getLast?_cons_cons]at hy;exact hy),by rw[val,h3];rfl⟩
theorem Cj{l:List Int}(h:LB l):Ez l=lim (val l).toNat:=by
 obtain⟨h1,h2,h3⟩:=WM h;rw[A0A h1 h2,h3]
theorem Ib:∀(l:List Int),Ez (l++[0])=Ez l
 |[]=>rfl
 |x::l=>by simp only[List.cons_append,Ez,Ib l]
theorem Ns:∀{l:List Int},NB l->Ez l=l
 |[],_=>rfl
 |x::l,h=>by
  simp only[Ez,Ns h.tail];cases l with
  |nil=>simp only;rw[zw (h x rfl)]
  |cons a t=>rfl
theorem SQ:∀(l:List Int),(Ez l).length<=l.length
 |[]=>za7 _
 |x::l=>by
  have:=SQ l;simp only[Ez]
  split
  ·split<;>simp
  ·rename_i m hm;simp only[zb9]at*;omega
end
section
open Go
def Ax(l:List Int):Prop:=l.length<=100000000
theorem AM4{l:List Int}(h:l≠[]):∃m x,l=m++[x]:=⟨l.dropLast,l.getLast h,(List.dropLast_concat_getLast h).symm⟩
theorem AJ2{m:List Int}{x:Int}(h:x≠0):NB (m++[x]):=fun y hy=>by
 rw[List.getLast?_append]at hy;simp at hy;subst hy;exact h
theorem A4b{n:Nat}(h:n<=200000000):Y9 n 8 1=true:=by unfold Y9;rw[zp (by unfold Ab;omega),zp (by unfold Ab;omega)];rfl
theorem Gx{l:List Int}(hb:Ax l):Cx l=some (Ez l):=by
 have key:∀(n:Nat)(l:List Int),l.length=n->n<=100000000->Ad (fun(s:(List Int))=>J7 s) l=some (Ez l):=by
  intro n
  induction n with
  |zero=>
   intro l hl _;have:l=[]:=zb2 hl;subst this;exact Aj rfl
  |succ n ih=>
   intro l hl hn;obtain⟨m,x,rfl⟩:=AM4 (l:=l) (by intro h;subst h;simp at hl);have hm:m.length=n:=by simpa using hl
   have hlen:(((m++[x]).length:Nat):Int)=(n:Int)+1:=by simp[hm]
   have hg:AI (m++[x]) (n:Int)=some x:=by rw[Ah,<-hm];simp
   have hstep:J7 (m++[x])=if x=0 then some (Sum.inl m)else some (Sum.inr (m++[x])):=by
    unfold J7;rw[hlen,Ae (by omega) (by omega),show(n:Int)+1-1=(n:Int) by omega,hg,zp (by omega)];simp only[cond_true,za0];by_cases hx:x=0
    ·rw[zr hx,beq_iff_eq.2 hx];have:Kr 0 (n:Int) (m++[x]).length=some (0,n):=by unfold Kr;simp[hm];omega
     rw[this];simp[<-hm]
    ·rw[zw hx,beq_eq_false_iff_ne.2 hx];rfl
   by_cases hx:x=0
   ·rw[zr hx]at hstep;rw[AM hstep,ih m hm (by omega),hx,Ib]
   ·rw[zw hx]at hstep;rw[Aj hstep,Ns (AJ2 hx)]
 unfold Cx;have h:=SQ l;unfold Ax at hb;rw[key _ l rfl hb];simp only[za0,A4b (show(Ez l).length<=200000000 by omega),cond_true]
theorem Yp{l:List Int}(hb:Ax l):Iy l=some (Ez l):=by
 unfold Ax at hb;have key:∀(n:Nat),n<=l.length->Ez (l.take n)=Ez l->∃k:Nat,k<=l.length/\l.take k=Ez l/\Ad (fun(s:((List Int)×Int))=>Ow s.1 s.2) (l,(n:Int))=some (l,(k:Int)):=by
  intro n
  induction n with
  |zero=>
   intro _ h;exact⟨0,by omega,by simpa[Ez]using h,Aj rfl⟩
  |succ n ih=>
   intro hn h;have hlt:n<l.length:=by omega
   have hg:AI l (n:Int)=some l[n]:=by rw[Ah,za1 hlt]
   have ht:l.take (n+1)=l.take n++[l[n]]:=by rw[List.take_add_one,za1 hlt];rfl
   have hstep:Ow l ((n+1:Nat):Int)=if l[n]=0 then some (Sum.inl (l,(n:Int)))else some (Sum.inr (l,((n+1:Nat):Int))):=by
    unfold Ow;rw[Ae (by omega) (by omega),show((n+1:Nat):Int)-1=(n:Int) by omega,hg,zp (by omega)];simp only[cond_true,za0];by_cases hx:l[n]=0
    ·rw[zr hx,beq_iff_eq.2 hx];rfl
    ·rw[zw hx,beq_eq_false_iff_ne.2 hx];rfl
   by_cases hx:l[n]=0
   ·rw[zr hx]at hstep;obtain⟨k,h1,h2,h3⟩:=ih (by omega) (by rw[<-h,ht,hx,Ib]);exact⟨k,h1,h2,by rw[AM hstep];exact h3⟩
   ·rw[zw hx]at hstep;refine⟨n+1,hn,?_,Aj hstep⟩
    rw[<-h,ht,Ns (AJ2 hx)]
 obtain⟨k,h1,h2,h3⟩:=key l.length (za7 _) (by rw[List.take_length]);unfold Iy;rw[h3];have:Kr 0 (k:Int) l.length=some (0,k):=by unfold Kr;simp[h1]
 simp only[za0,this,zf0,h2]
theorem Za{l:List Int}(hb:Ax l):BM l=some l:=by
 unfold BM A1m;cases l with
 |nil=>rfl
 |cons a t=>
  unfold Ax at hb;simp only[BS,neL,za0,A4b (show(a::t).length<=200000000 by omega),cond_true]
theorem Am2{l:List Int}(h:Ax l):Ax (Ez l):=by have:=SQ l;unfold Ax at*;omega
theorem NI(l:List Int):decide (((l.length:Nat):Int)>0)= !l.isEmpty:=by cases l<;>simp<;>omega
theorem KC(n:Nat):(!(lim n).isEmpty)=decide (n≠0):=by
 cases h:lim n with
 |nil=>rw[It.1 h];rfl
 |cons a t=>simp;intro h0;rw[h0,Cc]at h;cases h
theorem HI{l:List Int}(h:LB l)(hb:Ax l)(neg:Bool):Bg neg l=some (lim (val l).toNat,neg&&decide ((val l).toNat≠0)):=by
 unfold Bg;simp only[Yp hb,za0,Za (Am2 hb),NI];rw[Cj h,KC];cases neg<;>rfl
theorem Fm{l:List Int}(h:LB l)(hb:Ax l)(neg:Bool):Bq neg l=some (lim (val l).toNat,neg&&decide ((val l).toNat≠0)):=by
 unfold Bq;simp only[Gx hb,za0,NI];rw[Cj h,KC];cases neg<;>rfl
def big(z:Int):Bool×List Int:=(decide (z<0),lim z.natAbs)
theorem AG1{x y:Int}(h:big x=big y):x=y:=by
 unfold big at h;have h1:=congrArg Prod.fst h;have h2:=congrArg Prod.snd h;simp only at h1 h2;have h3:x.natAbs=y.natAbs:=by
  have:=congrArg val h2;rw[Ar,Ar]at this;omega
 by_cases hx:x<0<;>by_cases hy:y<0<;>simp[hx,hy]at h1<;>omega
def F3(b:Bool×List Int):Bool:=(b.2.all fun x=>decide (0<=x)&&decide (x<=65535))&&(match b.2.getLast? with|none=> !b.1|some x=>decide (b.2.length<=40)&&(x != 0))
theorem Hk{b:Bool×List Int}:F3 b=true↔∃z:Int,(z.natAbs:Int)<B 40/\b=big z:=by
 obtain⟨neg,l⟩:=b;unfold F3;simp only[za2,za5,decide_eq_true_eq];constructor
 ·rintro⟨h1,h2⟩;have hl:LB l:=fun x hx=>by have:=h1 x hx;omega
  cases hg:l.getLast? with
  |none=>
   rw[hg]at h2;have:l=[]:=List.getLast?_eq_none_iff.1 hg;subst this;have hn:neg=false:=by simpa using h2
   subst hn;exact⟨0,by decide,by unfold big;simp[Cc]⟩
  |some x=>
   rw[hg]at h2;simp only[za2,decide_eq_true_eq,bne_iff_ne]at h2;have hn:NB l:=fun y hy=>by rw[hg]at hy;cases hy;exact h2.2
   have hv:=A0A hl hn;have h0:(val l).toNat≠0:=by
    intro h0;rw[h0,Cc]at hv;rw[hv]at hg;simp at hg
   have hlt:((val l).toNat:Int)<B 40:=An.1 (by rw[<-hv];exact h2.1);refine⟨if neg then-((val l).toNat:Int)else((val l).toNat:Int),?_,?_⟩
   ·cases neg<;>simp<;>omega
   ·unfold big;cases neg
    ·simp only[zc3,if_false];rw[zq (by omega),ze9,<-hv]
    ·simp only[if_true];rw[zp (by omega),Int.natAbs_neg,ze9,<-hv]
 ·rintro⟨z,hz,h⟩;unfold big at h;have hn:neg=decide (z<0):=congrArg Prod.fst h;have hl:l=lim z.natAbs:=congrArg Prod.snd h;subst hl;refine⟨fun x hx=>by have:=AE _ x hx;omega,?_⟩
  cases hg:(lim z.natAbs).getLast? with
  |none=>
   have:lim z.natAbs=[]:=List.getLast?_eq_none_iff.1 hg;have:=It.1 this;rw[hn];simp;omega
  |some x=>
   simp only[za2,decide_eq_true_eq,bne_iff_ne];exact⟨An.2 hz,RG _ x hg⟩
theorem IS{z:Int}(h:(z.natAbs:Int)<B 40):F3 (big z)=true:=Hk.2 ⟨z,h,rfl⟩
theorem Zh(a b c:Int):AO a b c=some (decide (b<=a)&&decide (a<=c)):=by
 unfold AO;by_cases h:a>=b<;>simp[h]
theorem AJ9(a b c:Int):BP a b c=some (decide (b<=a)&&decide (a<=c)):=by
 unfold BP;by_cases h:a>=b<;>simp[h]
theorem HC{k:Nat}{α:Type}{l:List α}{a:α}(h:l[k]? =some a):decide ((k:Int)<(l.length:Int))=true:=by have:=DY h;simpa using this
theorem QH{α:Type}(l:List α):decide ((l.length:Int)<(l.length:Int))=false:=by simp
theorem ZS{l:List Int}(hb:Ax l):AH l=some (!(l.all fun x=>decide (0<=x)&&decide (x<=65535))):=by
 unfold AH CH;unfold Ax at hb;have key:=Gd (body:=fun(s:((List Int)×(Int×Int)))=>A6 s.1 s.2.1 s.2.2) (l:=l) (st:=fun k=>(l,(l.length:Int),(k:Int))) (p:=fun x=>decide (0<=x)&&decide (x<=65535)) (fin:=.inl ()) (bad:=fun k=>.inr (k:Int))
  (fun k a hk hp=>by
   have:=DY hk;unfold A6 HH;simp only[HC hk,cond_true,Ah,hk,za0,Zh,hp,zg0,cond_false,AJ (show k<4611686018427387904 by omega)])
  (fun k a hk hp=>by
   unfold A6 HH;simp only[HC hk,cond_true,Ah,hk,za0,Zh,hp,Bool.not_false])
  (by unfold A6;simp only[QH,cond_false])
 cases hall:l.all fun x=>decide (0<=x)&&decide (x<=65535)with
 |true=>
  have h:=key.1 hall;rw[show((0:Nat):Int)=0 from rfl]at h;simp only[h,za0,Sum.elim_inl];rfl
 |false=>
  obtain⟨k,_,h⟩:=key.2 hall;rw[show((0:Nat):Int)=0 from rfl]at h;simp only[h,za0,za8];have:decide ((k:Int)>=0)=true:=by simp
  rw[this];rfl
theorem TE{l:List Int}{x:Int}(h:l.getLast?=some x):l.length≠0/\AI l ((l.length:Int)-1)=some x:=by
 have hne:l≠[]:=by intro h0;subst h0;simp at h
 obtain⟨m,y,rfl⟩:=AM4 hne;rw[List.getLast?_append]at h;simp at h;subst h;refine⟨by simp,?_⟩
 have:(((m++[y]).length:Nat):Int)-1=(m.length:Int):=by simp
 rw[this,Ah];simp
theorem Su{b:Bool×List Int}(hb:Ax b.2):H4 b=some (F3 b):=by
 obtain⟨neg,l⟩:=b;unfold H4 F3;have hb':=hb;unfold Ax at hb';simp only at hb hb'⊢
 rw[Ae (by omega) (by omega),ZS hb];cases hg:l.getLast? with
 |none=>
  have:l=[]:=List.getLast?_eq_none_iff.1 hg;subst this;cases neg<;>rfl
 |some x=>
  obtain⟨h0,h1⟩:=TE hg;have e0:(((l.length:Nat):Int)==0)=false:=beq_eq_false_iff_ne.2 (by omega);have e1:decide (((l.length:Nat):Int)>0)=true:=zp (by omega);by_cases h40:l.length<=40
  ·have e2:decide (((l.length:Nat):Int)>40)=false:=zq (by omega);simp only[e2,e0,e1,cond_false,cond_true,h1,za0,Bool.not_not,zp h40,ze1];by_cases hx:x=0
   ·subst hx;simp
   ·rw[beq_eq_false_iff_ne.2 hx];simp[hx]
  ·have e2:decide (((l.length:Nat):Int)>40)=true:=zp (by omega);simp only[e2,cond_true,zq h40,zf8,Bool.and_false]
theorem RY{b:Bool×List Int}(hb:Ax b.2):F1 b=some (F3 b):=by
 obtain⟨neg,l⟩:=b;unfold F1 F3;have hb':=hb;unfold Ax at hb';simp only at hb hb'⊢
 have key:=Gd (body:=fun(s:((Bool×(List Int))×((List Int)×(Int×Int))))=>Fs s.1 s.2.1 s.2.2.1 s.2.2.2) (l:=l) (st:=fun k=>((neg,l),(l,((l.length:Int),(k:Int))))) (p:=fun x=>decide (0<=x)&&decide (x<=65535)) (fin:=.inl (neg,l)) (bad:=fun k=>.inr false)
  (fun k a hk hp=>by
   have:=DY hk;unfold Fs;simp only[HC hk,cond_true,Ah,hk,za0,AJ9,hp,zg0,cond_false,AJ (show k<4611686018427387904 by omega)])
  (fun k a hk hp=>by
   unfold Fs;simp only[HC hk,cond_true,Ah,hk,za0,AJ9,hp,Bool.not_false])
  (by unfold Fs;simp only[QH,cond_false])
 rw[show((0:Nat):Int)=0 from rfl]at key;cases hall:l.all fun x=>decide (0<=x)&&decide (x<=65535)with
 |false=>obtain⟨k,_,h⟩:=key.2 hall;rw[h];rfl
 |true=>
  rw[key.1 hall];simp only[za0,Sum.elim_inl,ze1];rw[Ae (by omega) (by omega)];cases hg:l.getLast? with
  |none=>
   have:l=[]:=List.getLast?_eq_none_iff.1 hg;subst this;rfl
  |some x=>
   obtain⟨h0,h1⟩:=TE hg;have e0:(((l.length:Nat):Int)==0)=false:=beq_eq_false_iff_ne.2 (by omega);simp only[e0,cond_false,h1,za0];by_cases h40:l.length<=40
   ·rw[zp (show((l.length:Nat):Int)<=40 by omega),zp h40];rfl
   ·rw[zq (show ¬((l.length:Nat):Int)<=40 by omega),zq h40];rfl
theorem A1p{l:List (Bool×List Int)}(hl:l.length<=1000)(hb:∀b∈l,Ax b.2):Jp l=some (l.all F3):=by
 unfold Jp BI B7;have key:=Gd (body:=fun(s:((List (Bool×(List Int)))×(Int×Int)))=>AR s.1 s.2.1 s.2.2) (l:=l) (st:=fun k=>(l,(l.length:Int),(k:Int))) (p:=F3) (fin:=.inl ()) (bad:=fun k=>.inr (k:Int))
  (fun k a hk hp=>by
   have:=DY hk;unfold AR IK;simp only[HC hk,cond_true,Ah,hk,za0,Su (hb a (za4 hk)),hp,zg0,cond_false,AJ (show k<4611686018427387904 by omega)])
  (fun k a hk hp=>by
   unfold AR IK;simp only[HC hk,cond_true,Ah,hk,za0,Su (hb a (za4 hk)),hp,Bool.not_false])
  (by unfold AR;simp only[QH,cond_false])
 rw[show((0:Nat):Int)=0 from rfl]at key;cases hall:l.all F3 with
 |true=>rw[key.1 hall];rfl
 |false=>
  obtain⟨k,_,h⟩:=key.2 hall;rw[h];simp only[za0,za8];have:decide ((k:Int)>=0)=true:=by simp
  rw[this];rfl
end
section
open Go
def CQ(a b:Int):Int:=if a<b then-1 else if b<a then 1 else 0
theorem DP{a b:Int}(h:a<b):CQ a b= -1:=by unfold CQ;rw[zr h]
theorem FC{a b:Int}(h:b<a):CQ a b=1:=by unfold CQ;rw[zw (by omega),zr h]
theorem Oi(a:Int):CQ a a=0:=by unfold CQ;simp
theorem BT(a b:Int):(CQ a b= -1/\a<b)\/(CQ a b=1/\b<a)\/(CQ a b=0/\a=b):=by unfold CQ;split<;>(try split)<;>omega
theorem SD(a b:Int):Cv a b=some (CQ a b):=by
 unfold Cv Fz CQ;by_cases h1:a<b<;>by_cases h2:b<a<;>simp[h1,h2]
theorem As9{k:Nat}{d:Int}(h:d<= -1):B k*d<= -B k:=by
 have:=zb3 h (ze2 (FZ k));omega
theorem AJ8{l m:List Int}(hl:LB l)(hm:LB m){k:Nat}{x y:Int}(hx:l[k]? =some x)(hy:m[k]? =some y)(hd:l.drop (k+1)=m.drop (k+1)):(x<y->val l<val m)/\(y<x->val m<val l):=by
 have kl:=DY hx;have km:=DY hy;have e1:=Sy l k (by omega);have e2:=Sy m k (by omega);have d1:l.drop k=x::l.drop (k+1):=by rw[zb0 kl];congr 1;rw[za1 kl]at hx;exact zv hx
 have d2:m.drop k=y::m.drop (k+1):=by rw[zb0 km];congr 1;rw[za1 km]at hy;exact zv hy
 rw[d1]at e1;rw[d2,<-hd]at e2;simp only[val]at e1 e2;have t1:=AP (hl.take k);have t2:=AP (hm.take k);have t3:=Nd (hl.take k);have t4:=Nd (hm.take k);rw[List.length_take,Nat.min_eq_left (by omega)]at t3 t4;rw[ze0]at e1 e2;constructor
 ·intro h;have:=As9 (k:=k) (show x-y<= -1 by omega);rw[Int.mul_sub]at this;omega
 ·intro h;have:=As9 (k:=k) (show y-x<= -1 by omega);rw[Int.mul_sub]at this;omega
theorem UP{a b:Nat}:((lim a).length<(lim b).length->a<b):=by
 intro h;rcases zd6 a b with h1|h1
 ·exact h1
 ·exfalso
  have h2:=(An (n:=a) (k:=(lim a).length)).1 (za7 _);have:=(An (n:=b) (k:=(lim a).length)).2 (by omega);omega
section
variable {l m:List Int} (hl:LB l) (hm:LB m) (hlen:l.length=m.length) (hb:Ax l)
include hl hm hlen hb
theorem AA4:(val l=val m->Ad (fun(s:((List Int)×((List Int)×Int)))=>A9 s.1 s.2.1 s.2.2) (l,(m,(l.length:Int)-1))=some (.inl ()))/\
  (val l≠val m->Ad (fun(s:((List Int)×((List Int)×Int)))=>A9 s.1 s.2.1 s.2.2) (l,(m,(l.length:Int)-1))=some (.inr (CQ (val l) (val m)))):=by
 unfold Ax at hb;have key:∀(n:Nat),n<=l.length->l.drop n=m.drop n->(l=m->Ad (fun(s:((List Int)×((List Int)×Int)))=>A9 s.1 s.2.1 s.2.2) (l,(m,(n:Int)-1))=some (.inl ()))/\(l≠m->Ad (fun(s:((List Int)×((List Int)×Int)))=>A9 s.1 s.2.1 s.2.2) (l,(m,(n:Int)-1))=some (.inr (CQ (val l) (val m)))/\val l≠val m):=by
  intro n
  induction n with
  |zero=>
   intro _ h;simp only[zf0]at h;refine⟨fun _=>Aj rfl,fun hn=>absurd h hn⟩
  |succ n ih=>
   intro hn h;have k1:n<l.length:=by omega
   have k2:n<m.length:=by omega
   have hx:l[n]? =some l[n]:=za1 k1;have hy:m[n]? =some m[n]:=za1 k2;have hs:((n+1:Nat):Int)-1=(n:Int):=by omega
   rw[hs];by_cases he:l[n]=m[n]
   ·have hd:l.drop n=m.drop n:=by rw[zb0 k1,zb0 k2,he,h]
    have hstep:A9 l m (n:Int)=some (.inl (l,(m,(n:Int)-1))):=by
     unfold A9;rw[zp (show(n:Int)>=0 by omega),Ah,Ah,hx,hy,Ae (by omega) (by omega)];simp only[cond_true,za0,he,bne_self_eq_false,cond_false]
    obtain⟨i1,i2⟩:=ih (by omega) hd;exact⟨fun hh=>by rw[AM hstep];exact i1 hh,fun hh=>by rw[AM hstep];exact i2 hh⟩
   ·obtain⟨c1,c2⟩:=AJ8 hl hm hx hy h;have hne:l≠m:=fun hh=>he (by subst hh;rfl)
    have hc:CQ l[n] m[n]=CQ (val l) (val m):=by
     rcases Int.lt_or_gt_of_ne he with h1|h1
     ·rw[DP h1,DP (c1 h1)]
     ·rw[FC h1,FC (c2 h1)]
    have hstep:A9 l m (n:Int)=some (.inr (.inr (CQ (val l) (val m)))):=by
     unfold A9;rw[zp (show(n:Int)>=0 by omega),Ah,Ah,hx,hy];have hb:(l[n] != m[n])=true:=by simpa using he
     simp only[cond_true,za0,hb,SD,hc]
    refine⟨fun hh=>absurd hh hne,fun _=>⟨Aj hstep,?_⟩⟩
    rcases Int.lt_or_gt_of_ne he with h1|h1
    ·have:=c1 h1;omega
    ·have:=c2 h1;omega
 obtain⟨h1,h2⟩:=key l.length (za7 _) (by rw[List.drop_length,hlen,List.drop_length]);constructor
 ·intro hv;by_cases he:l=m
  ·exact h1 he
  ·exact absurd hv (h2 he).2
 ·intro hv;exact(h2 fun he=>hv (by rw[he])).1
theorem AA7:(val l=val m->Ad (fun(s:((List Int)×((List Int)×Int)))=>Di s.1 s.2.1 s.2.2) (l,(m,(l.length:Int)-1))=some (.inl ()))/\
  (val l≠val m->Ad (fun(s:((List Int)×((List Int)×Int)))=>Di s.1 s.2.1 s.2.2) (l,(m,(l.length:Int)-1))=some (.inr (CQ (val l) (val m)))):=by
 unfold Ax at hb;have key:∀(n:Nat),n<=l.length->l.drop n=m.drop n->(l=m->Ad (fun(s:((List Int)×((List Int)×Int)))=>Di s.1 s.2.1 s.2.2) (l,(m,(n:Int)-1))=some (.inl ()))/\(l≠m->Ad (fun(s:((List Int)×((List Int)×Int)))=>Di s.1 s.2.1 s.2.2) (l,(m,(n:Int)-1))=some (.inr (CQ (val l) (val m)))/\val l≠val m):=by
  intro n
  induction n with
  |zero=>
   intro _ h;simp only[zf0]at h;refine⟨fun _=>Aj rfl,fun hn=>absurd h hn⟩
  |succ n ih=>
   intro hn h;have k1:n<l.length:=by omega
   have k2:n<m.length:=by omega
   have hx:l[n]? =some l[n]:=za1 k1;have hy:m[n]? =some m[n]:=za1 k2;have hs:((n+1:Nat):Int)-1=(n:Int):=by omega
   rw[hs];by_cases he:l[n]=m[n]
   ·have hd:l.drop n=m.drop n:=by rw[zb0 k1,zb0 k2,he,h]
    have hstep:Di l m (n:Int)=some (.inl (l,(m,(n:Int)-1))):=by
     unfold Di;rw[zp (show(n:Int)>=0 by omega),Ah,Ah,hx,hy,Ae (by omega) (by omega)];simp only[cond_true,za0,he];rw[zq (Int.lt_irrefl _)];rfl
    obtain⟨i1,i2⟩:=ih (by omega) hd;exact⟨fun hh=>by rw[AM hstep];exact i1 hh,fun hh=>by rw[AM hstep];exact i2 hh⟩
   ·obtain⟨c1,c2⟩:=AJ8 hl hm hx hy h;have hne:l≠m:=fun hh=>he (by subst hh;rfl)
    have hstep:Di l m (n:Int)=some (.inr (.inr (CQ (val l) (val m)))):=by
     unfold Di;rw[zp (show(n:Int)>=0 by omega),Ah,Ah,hx,hy];simp only[cond_true,za0];rcases Int.lt_or_gt_of_ne he with h1|h1
     ·rw[zp h1,DP (c1 h1)];rfl
     ·rw[zq (by omega),zp h1,FC (c2 h1)];rfl
    refine⟨fun hh=>absurd hh hne,fun _=>⟨Aj hstep,?_⟩⟩
    rcases Int.lt_or_gt_of_ne he with h1|h1
    ·have:=c1 h1;omega
    ·have:=c2 h1;omega
 obtain⟨h1,h2⟩:=key l.length (za7 _) (by rw[List.drop_length,hlen,List.drop_length]);constructor
 ·intro hv;by_cases he:l=m
  ·exact h1 he
  ·exact absurd hv (h2 he).2
 ·intro hv;exact(h2 fun he=>hv (by rw[he])).1
end
theorem Gq{a b:Nat}(ha:Ax (lim a))(hb:Ax (lim b)):BO (lim a) (lim b)=some (CQ a b):=by
 unfold BO;have ha':=ha;have hb':=hb;unfold Ax at ha' hb';by_cases h:(lim a).length=(lim b).length
 ·have e:((((lim a).length:Nat):Int) != (((lim b).length:Nat):Int))=false:=by simp[h]
  rw[e,Ae (by omega) (by omega)];simp only[cond_false];obtain⟨h1,h2⟩:=AA4 (AE a) (AE b) h ha;rw[Ar,Ar]at h1 h2;by_cases hv:(a:Int)=b
  ·rw[h1 hv,hv,Oi];rfl
  ·rw[h2 hv];rfl
 ·have e:((((lim a).length:Nat):Int) != (((lim b).length:Nat):Int))=true:=by simp;omega
  rw[e];simp only[cond_true,SD,za0];rcases Nat.lt_or_gt_of_ne h with h1|h1
  ·have:=UP h1;rw[DP (by omega),DP (by omega)]
  ·have:=UP h1;rw[FC (by omega),FC (by omega)]
theorem Oe{a b:Nat}(ha:Ax (lim a))(hb:Ax (lim b)):Ch (lim a) (lim b)=some (CQ a b):=by
 unfold Ch;have ha':=ha;have hb':=hb;unfold Ax at ha' hb';by_cases h:(lim a).length=(lim b).length
 ·have e:((((lim a).length:Nat):Int) != (((lim b).length:Nat):Int))=false:=by simp[h]
  rw[e,Ae (by omega) (by omega)];simp only[cond_false];obtain⟨h1,h2⟩:=AA7 (AE a) (AE b) h ha;rw[Ar,Ar]at h1 h2;by_cases hv:(a:Int)=b
  ·rw[h1 hv,hv,Oi];rfl
  ·rw[h2 hv];rfl
 ·have e:((((lim a).length:Nat):Int) != (((lim b).length:Nat):Int))=true:=by simp;omega
  rw[e];simp only[cond_true];rcases Nat.lt_or_gt_of_ne h with h1|h1
  ·have:=UP h1;rw[zp (by omega),DP (by omega)];rfl
  ·have:=UP h1;rw[zq (by omega),FC (by omega)];rfl
def dg(l:List Int)(k:Nat):Int:=l.getD k 0
theorem FE{l:List Int}{k:Nat}{x:Int}(h:l[k]? =some x):dg l k=x:=by unfold dg;rw[zb7,h];rfl
theorem Ih{l:List Int}{k:Nat}(h:l.length<=k):dg l k=0:=by unfold dg;rw[zb7,List.getElem?_eq_none h];rfl
theorem A7{l:List Int}(h:LB l)(k:Nat):0<=dg l k/\dg l k<65536:=by
 rcases zd6 k l.length with hk|hk
 ·rw[FE (za1 hk)];exact h _ (List.getElem_mem _)
 ·rw[Ih hk];omega
theorem AY(l:List Int)(k:Nat):val (l.take (k+1))=val (l.take k)+B k*dg l k:=by
 rcases zd6 k l.length with hk|hk
 ·have he:=za1 hk;rw[List.take_add_one,he,FE he,Option.toList_some,KU,List.length_take,Nat.min_eq_left (by omega)]
 ·rw[Ih hk,zc4 (by omega),zc4 hk];omega
theorem KM{l:List Int}(k:Nat):Ds l (k:Int)=some (dg l k):=by
 unfold Ds;rcases zd6 k l.length with hk|hk
 ·rw[zp (by omega),Ah,za1 hk,FE (za1 hk)];rfl
 ·rw[zq (by omega),Ih hk];rfl
theorem Au5{l:List Int}{x:Int}(h:l.length<=100000000):C3 8 1 l [x]=some (l++[x]):=Fy (by simp[Ab];omega) (by simp[Ab];omega)
theorem ZW{a b:List Int}(ha:LB a)(hb:LB b)(na:a.length<=10000000)(nb:b.length<=10000000):
  ∃r,GA a b=some r/\LB r/\val r=val a+val b/\r.length<=max a.length b.length+1/\(r.length<=max a.length b.length\/B (max a.length b.length)<=val a+val b):=by
 unfold GA;obtain⟨r,h1,h2⟩:=HN (f:=fun(s:((List Int)×((List Int)×((List Int)×(Int×Int)))))=>DD s.1 s.2.1 s.2.2.1 s.2.2.2.1 s.2.2.2.2)
  (I:=fun s=>∃(k:Nat)(out:List Int)(c:Int),s=(out,(a,(b,(c,(k:Int)))))/\out.length=k/\k<=max a.length b.length+1/\LB out/\(c=0\/c=1)/\(k=max a.length b.length+1->c=0/\B (max a.length b.length)<=val a+val b)/\val out+B k*c=val (a.take k)+val (b.take k))
  (R:=fun r=>LB r/\val r=val a+val b/\r.length<=max a.length b.length+1/\(r.length<=max a.length b.length\/B (max a.length b.length)<=val a+val b)) (fun s=>max a.length b.length+2-s.1.length) (by
   rintro s ⟨k,out,c,rfl,h1,h2,h3,h4,h4',h5⟩;simp only;have da:=A7 ha k;have db:=A7 hb k;have go:k<max a.length b.length\/c=1->∃c',DD out a b c (k:Int)=some (.inl (out++[(dg a k+dg b k+c)%65536],(a,(b,(c',((k+1:Nat):Int))))))/\c'=(dg a k+dg b k+c)/65536:=by
    intro hgo;refine⟨_,?_,rfl⟩
    have hkk:k<=max a.length b.length:=by rcases hgo with h|h<;>omega
    unfold DD;have hcond:(bif decide ((k:Int)<((a.length:Nat):Int))then some (Sum.inr (α:=(List Int×List Int×List Int×Int×Int)⊕List Int) (out,(a,(b,(c,(k:Int))))))else bif decide ((k:Int)<((b.length:Nat):Int))then some (Sum.inr (out,(a,(b,(c,(k:Int))))))else bif decide (c>0)then some (Sum.inr (out,(a,(b,(c,(k:Int))))))else some (Sum.inl (Sum.inr out)))=some (Sum.inr (out,(a,(b,(c,(k:Int)))))):=by
     by_cases c1:(k:Int)<(a.length:Int)
     ·rw[zp c1];rfl
     ·by_cases c2:(k:Int)<(b.length:Int)
      ·rw[zq c1,zp c2];rfl
      ·have:c>0:=by rcases hgo with h|h<;>omega
       rw[zq c1,zq c2,zp this];rfl
    rw[hcond];simp only[za0,za8,KM];rw[Ae (n:=dg a k+dg b k) (by omega) (by omega),Ae (n:=dg a k+dg b k+c) (by omega) (by omega),zc6 (by omega),zc5 (by omega),Ae (by omega) (by omega),Au5 (by omega),AJ (by omega)];rfl
   by_cases hgo:k<max a.length b.length\/c=1
   ·obtain⟨c',e1,e2⟩:=go hgo
    clear go
    have hkk:k<=max a.length b.length:=by
     rcases hgo with h|h
     ·omega
     ·rcases zd6 (max a.length b.length) k with h6|h6
      ·have:=h4' (by omega);omega
      ·exact h6
    refine .inl ⟨_,e1,⟨k+1,_,c',rfl,by simp[h1],by omega,h3.append (LB.cons (by omega) LB.nil),by omega,?_,?_⟩,by simp;omega⟩
    ·intro hk;have:k=max a.length b.length:=by omega
     rw[Ih (by omega),Ih (by omega)]at e2;refine⟨by omega,?_⟩
     have hc1:c=1:=by omega
     rw[hc1,zc4 (by omega),zc4 (by omega),this]at h5;have:=AP h3;omega
    ·rw[KU,h1,AY,AY];have:B (k+1)*c'=B k*(65536*c'):=by simp only[B];rw[zf9 65536 (B k),zg1]
     rw[this];have hq:(dg a k+dg b k+c)%65536+65536*c'=dg a k+dg b k+c:=by omega
     have:B k*((dg a k+dg b k+c)%65536)+B k*(65536*c')=B k*dg a k+B k*dg b k+B k*c:=by rw[<-ze0,hq,ze0,ze0]
     omega
   ·clear go
    have hc:c=0:=by omega
    have hk:max a.length b.length<=k:=by omega
    subst hc;refine .inr ⟨out,?_,h3,?_,by omega,?_⟩
    ·unfold DD;rw[zq (by omega),zq (by omega)];rfl
    ·rw[zc4 (by omega),zc4 (by omega)]at h5;omega
    ·rcases zd6 (max a.length b.length) k with h6|h6
     ·exact .inr (h4' (by omega)).2
     ·left;omega) ([],(a,(b,(0,0)))) ⟨0,[],0,rfl,rfl,by omega,LB.nil,.inl rfl,by omega,by simp[val,B]⟩
 exact⟨r,by rw[h1];rfl,h2⟩
theorem AF1{a b:List Int}(ha:LB a)(hb:LB b)(na:a.length<=10000000)(nb:b.length<=10000000):
  ∃r,ID a b=some r/\LB r/\val r=val a+val b/\r.length<=max a.length b.length+1:=by
 unfold ID;have hM:A2a [((a.length:Nat):Int),((b.length:Nat):Int)]=((max a.length b.length:Nat):Int):=by simp only[A2a,List.foldl];split<;>omega
 obtain⟨r,h1,h2⟩:=HN (f:=fun(s:((List Int)×((List Int)×((List Int)×(Int×Int)))))=>EW s.1 s.2.1 s.2.2.1 s.2.2.2.1 s.2.2.2.2)
  (I:=fun s=>∃(k:Nat)(out:List Int)(c:Int),s=(out,(a,(b,(c,(k:Int)))))/\out.length=k/\k<=max a.length b.length+1/\LB out/\(c=0\/c=1)/\(k=max a.length b.length+1->c=0)/\val out+B k*c=val (a.take k)+val (b.take k))
  (R:=fun r=>LB r/\val r=val a+val b/\r.length<=max a.length b.length+1) (fun s=>max a.length b.length+2-s.1.length) (by
   rintro s ⟨k,out,c,rfl,h1,h2,h3,h4,h4',h5⟩;simp only;have da:=A7 ha k;have db:=A7 hb k;have go:k<max a.length b.length\/c=1->∃c',EW out a b c (k:Int)=some (.inl (out++[(dg a k+dg b k+c)%65536],(a,(b,(c',((k+1:Nat):Int))))))/\c'=(dg a k+dg b k+c)/65536:=by
    intro hgo;refine⟨_,?_,rfl⟩
    have hkk:k<=max a.length b.length:=by rcases hgo with h|h<;>omega
    unfold EW;rw[hM];have hcond:(bif decide ((k:Int)<((max a.length b.length:Nat):Int))then some (Sum.inr (α:=(List Int×List Int×List Int×Int×Int)⊕List Int) (out,(a,(b,(c,(k:Int))))))else bif decide (c>0)then some (Sum.inr (out,(a,(b,(c,(k:Int))))))else some (Sum.inl (Sum.inr out)))=some (Sum.inr (out,(a,(b,(c,(k:Int)))))):=by
     by_cases c1:(k:Int)<((max a.length b.length:Nat):Int)
     ·rw[zp c1];rfl
     ·have:c>0:=by rcases hgo with h|h<;>omega
      rw[zq c1,zp this];rfl
    rw[hcond];simp only[za0,za8];have s1:(bif decide ((k:Int)<((a.length:Nat):Int))then(AI a (k:Int)).bind fun x3=>some (Sum.inr (α:=(List Int×List Int×List Int×Int×Int)⊕List Int) (out,(a,(b,(zi zj (c+x3),(k:Int))))))else some (Sum.inr (out,(a,(b,(c,(k:Int)))))))=some (Sum.inr (out,(a,(b,(c+dg a k,(k:Int)))))):=by
     rcases zd6 k a.length with hk|hk
     ·rw[zp (by omega),Ah,za1 hk,<-FE (za1 hk)];simp only[cond_true,za0];rw[Ae (by omega) (by omega)]
     ·rw[zq (by omega),Ih hk];simp
    rw[s1];simp only[za0,za8];have s2:(bif decide ((k:Int)<((b.length:Nat):Int))then(AI b (k:Int)).bind fun x3=>some (Sum.inr (α:=(List Int×List Int×List Int×Int×Int)⊕List Int) (out,(a,(b,(zi zj (c+dg a k+x3),(k:Int))))))else some (Sum.inr (out,(a,(b,(c+dg a k,(k:Int)))))))=some (Sum.inr (out,(a,(b,(dg a k+dg b k+c,(k:Int)))))):=by
     rcases zd6 k b.length with hk|hk
     ·rw[zp (by omega),Ah,za1 hk,<-FE (za1 hk)];simp only[cond_true,za0];rw[Ae (by omega) (by omega),show c+dg a k+dg b k=dg a k+dg b k+c by omega]
     ·rw[zq (by omega),Ih hk,show dg a k+0+c=c+dg a k by omega];rfl
    rw[s2];simp only[za0,za8];rw[zc6 (by omega),zc5 (by omega),Ae (by omega) (by omega),Au5 (by omega),AJ (by omega)];rfl
   by_cases hgo:k<max a.length b.length\/c=1
   ·obtain⟨c',e1,e2⟩:=go hgo
    clear go
    have hkk:k<=max a.length b.length:=by
     rcases hgo with h|h
     ·omega
     ·rcases zd6 (max a.length b.length) k with h6|h6
      ·have:=h4' (by omega);omega
      ·exact h6
    refine .inl ⟨_,e1,⟨k+1,_,c',rfl,by simp[h1],by omega,h3.append (LB.cons (by omega) LB.nil),by omega,?_,?_⟩,by simp;omega⟩
    ·intro hk;have:k=max a.length b.length:=by omega
     rw[Ih (by omega),Ih (by omega)]at e2;omega
    ·rw[KU,h1,AY,AY];have:B (k+1)*c'=B k*(65536*c'):=by simp only[B];rw[zf9 65536 (B k),zg1]
     rw[this];have hq:(dg a k+dg b k+c)%65536+65536*c'=dg a k+dg b k+c:=by omega
     have:B k*((dg a k+dg b k+c)%65536)+B k*(65536*c')=B k*dg a k+B k*dg b k+B k*c:=by rw[<-ze0,hq,ze0,ze0]
     omega
   ·clear go
    have hc:c=0:=by omega
    have hk:max a.length b.length<=k:=by omega
    subst hc;refine .inr ⟨out,?_,h3,?_,by omega⟩
    ·unfold EW;rw[hM,zq (by omega)];rfl
    ·rw[zc4 (by omega),zc4 (by omega)]at h5;omega) ([],(a,(b,(0,0)))) ⟨0,[],0,rfl,rfl,by omega,LB.nil,.inl rfl,by omega,by simp[val,B]⟩
 exact⟨r,by rw[h1];rfl,h2⟩
end
section
open Go
theorem Ur{v:Int}(h: -65536<=v/\v<65536):0<=(if v<0 then v+65536 else v)/\(if v<0 then v+65536 else v)<65536/\(if v<0 then v+65536 else v)-65536*(if v<0 then 1 else 0)=v/\((if v<0 then 1 else 0:Int)=0\/(if v<0 then 1 else 0:Int)=1):=by
 split<;>omega
theorem Vu{k:Nat}{A Bv out d br br' v x y:Int}(h1:out-B k*br=A-Bv)(h2:d-65536*br'=v)(h3:v=x-y-br):out+B k*d-B (k+1)*br'=A+B k*x-(Bv+B k*y):=by
 have e1:B (k+1)*br'=B k*(65536*br'):=by simp only[B];rw[zf9 65536 (B k),zg1]
 have e2:B k*d-B k*(65536*br')=B k*x-B k*y-B k*br:=by rw[<-Int.mul_sub,h2,h3,Int.mul_sub,Int.mul_sub]
 rw[e1];omega
theorem Qj{a b:List Int}(ha:LB a)(hb:LB b)(hlen:b.length<=a.length)(na:a.length<=10000000)(hle:val b<=val a):
  EL a b=some (lim (val a-val b).toNat):=by
 unfold EL;obtain⟨r,h1,h2⟩:=HN (f:=fun(s:((List Int)×((List Int)×((List Int)×(Int×(Int×Int))))))=>E9 s.1 s.2.1 s.2.2.1 s.2.2.2.1 s.2.2.2.2.1 s.2.2.2.2.2)
  (I:=fun s=>∃(k:Nat)(out:List Int)(c:Int),s=(out,(a,(b,(c,((a.length:Int),(k:Int))))))/\out.length=k/\k<=a.length/\LB out/\(c=0\/c=1)/\val out-B k*c=val (a.take k)-val (b.take k))
  (R:=fun r=>LB r/\val r=val a-val b/\r.length=a.length) (fun s=>a.length+1-s.1.length) (by
   rintro s ⟨k,out,c,rfl,h1,h2,h3,h4,h5⟩;simp only;by_cases hk:k<a.length
   ·have da:=A7 ha k;have db:=A7 hb k;have hg:=za1 hk;have hx:a[k]=dg a k:=(FE hg).symm;have hv:=Ur (v:=dg a k-dg b k-c) (by omega);refine .inl ⟨(out++[if dg a k-dg b k-c<0 then dg a k-dg b k-c+65536 else dg a k-dg b k-c],(a,(b,((if dg a k-dg b k-c<0 then 1 else 0),((a.length:Int),((k+1:Nat):Int)))))),?_,⟨k+1,_,_,rfl,by simp[h1],by omega,h3.append (LB.cons (by omega) LB.nil),hv.2.2.2,?_⟩,by simp;omega⟩
    ·unfold E9;rw[zp (by omega),Ah,hg];simp only[cond_true,za0,KM,hx];rw[Ae (n:=dg a k-dg b k) (by omega) (by omega),Ae (n:=dg a k-dg b k-c) (by omega) (by omega),Ae (n:=dg a k-dg b k-c+65536) (by omega) (by omega),AJ (by omega)];by_cases hneg:dg a k-dg b k-c<0
     ·rw[zp hneg,zr hneg,zr hneg];simp only[cond_true];rw[Au5 (by omega)];rfl
     ·rw[zq hneg,zw hneg,zw hneg];simp only[cond_false];rw[Au5 (by omega)];rfl
    ·rw[KU,h1,AY,AY];exact Vu h5 hv.2.2.1 rfl
   ·have hk':k=a.length:=by omega
    refine .inr ⟨out,?_,h3,?_,by omega⟩
    ·unfold E9;rw[zq (by omega)];rfl
    ·rw[zc4 (by omega),zc4 (by omega)]at h5;have b1:=Nd h3;have b2:=AP h3;rw[h1]at b1;rcases h4 with h4|h4
     ·subst h4;omega
     ·subst h4;omega) ([],(a,(b,(0,((a.length:Int),0))))) ⟨0,[],0,rfl,rfl,by omega,LB.nil,.inl rfl,by simp[val,B]⟩
 rw[h1];simp only[za0];rw[Gx (by unfold Ax;omega)];simp only[za0];rw[Cj h2.1,h2.2.1]
theorem WV{a b:List Int}(ha:LB a)(hb:LB b)(hlen:b.length<=a.length)(na:a.length<=10000000)(hle:val b<=val a):
  GD a b=some (lim (val a-val b).toNat):=by
 unfold GD;rw[Za (by unfold Ax;omega)];simp only[za0];obtain⟨r,h1,h2⟩:=HN (f:=fun(s:((List Int)×((List Int)×(Int×(Int×Int)))))=>GJ s.1 s.2.1 s.2.2.1 s.2.2.2.1 s.2.2.2.2)
  (I:=fun s=>∃(k:Nat)(out:List Int)(c:Int),s=(out,(b,(c,((a.length:Int),(k:Int)))))/\out.length=a.length/\k<=a.length/\LB (out.take k)/\out.drop k=a.drop k/\(c=0\/c=1)/\val (out.take k)-B k*c=val (a.take k)-val (b.take k))
  (R:=fun r=>LB r/\val r=val a-val b/\r.length=a.length) (fun s=>(a.length+1-s.2.2.2.2).toNat) (by
   rintro s ⟨k,out,c,rfl,h1,h2,h3,h3',h4,h5⟩;simp only;by_cases hk:k<a.length
   ·have da:=A7 ha k;have db:=A7 hb k;have hg:=za1 hk;have hx:a[k]=dg a k:=(FE hg).symm;have hko:k<out.length:=by omega
    have hox:out[k]? =some (dg a k):=by
     have e1:out.drop k=out[k]::out.drop (k+1):=zb0 hko;have e2:a.drop k=a[k]::a.drop (k+1):=zb0 hk;rw[za1 hko];rw[e1,e2]at h3';rw[(List.cons.inj h3').1,hx]
    have hv:=Ur (v:=dg a k-dg b k-c) (by omega);have hset:∀y:Int,(out.set k y)[k]? =some y:=fun y=>by rw[List.getElem?_set_self hko]
    have hdg:dg (out.set k (if dg a k-dg b k-c<0 then dg a k-dg b k-c+65536 else dg a k-dg b k-c)) k=(if dg a k-dg b k-c<0 then dg a k-dg b k-c+65536 else dg a k-dg b k-c):=FE (hset _);have htk:(out.set k (if dg a k-dg b k-c<0 then dg a k-dg b k-c+65536 else dg a k-dg b k-c)).take k=out.take k:=List.take_set_of_le (za7 _);refine .inl ⟨(out.set k (if dg a k-dg b k-c<0 then dg a k-dg b k-c+65536 else dg a k-dg b k-c),(b,((if dg a k-dg b k-c<0 then 1 else 0),((a.length:Int),((k+1:Nat):Int))))),?_,⟨k+1,_,_,rfl,by simp[h1],by omega,?_,?_,hv.2.2.2,?_⟩,by simp;omega⟩
    ·unfold GJ AX;have i1:A1 (k:Int) out.length=some k:=A0 hko;have i2:∀y:Int,A1 (k:Int) (out.set k y).length=some k:=fun y=>by rw[List.length_set];exact i1
     rw[zp (by omega)];simp only[cond_true,i1,za0,hox,i2,hset,Ah];have hw1:=AJ (show k<4611686018427387904 by omega);rw[Ae (n:=dg a k-c) (by omega) (by omega)];have s1:(bif decide ((k:Int)<((b.length:Nat):Int))then(b[k]?).bind fun x6=>some (Sum.inr (α:=(List Int×List Int×Int×Int×Int)⊕List Int) ((out.set k (dg a k-c)).set k (zi zj (dg a k-c-x6)),(b,((k:Int),((a.length:Int),(k:Int))))))else some (Sum.inr (out.set k (dg a k-c),(b,((k:Int),((a.length:Int),(k:Int)))))))=some (Sum.inr (out.set k (dg a k-dg b k-c),(b,((k:Int),((a.length:Int),(k:Int)))))):=by
      rcases zd6 k b.length with hkb|hkb
      ·rw[zp (by omega),za1 hkb,<-FE (za1 hkb)];simp only[cond_true,za0,List.set_set];rw[Ae (by omega) (by omega),show dg a k-c-dg b k=dg a k-dg b k-c by omega]
      ·rw[zq (by omega),Ih hkb,show dg a k-0-c=dg a k-c by omega];rfl
     rw[s1];simp only[za0,za8,i2,hset,List.set_set,hw1];by_cases hneg:dg a k-dg b k-c<0
     ·rw[zp hneg,zr hneg,zr hneg,Ae (by omega) (by omega)];rfl
     ·rw[zq hneg,zw hneg,zw hneg];rfl
    ·rw[List.take_add_one,htk,hset];exact h3.append (LB.cons (by omega) LB.nil)
    ·rw[List.drop_set_of_lt (by omega)];have:out.drop (k+1)=(out.drop k).drop 1:=by rw[List.drop_drop]
     rw[this,h3',List.drop_drop]
    ·rw[AY (out.set k _),AY a,AY b,htk,hdg];exact Vu h5 hv.2.2.1 rfl
   ·have hk':k=a.length:=by omega
    refine .inr ⟨out,?_,?_,?_,h1⟩
    ·unfold GJ;rw[zq (by omega)];rfl
    ·rw[zc4 (by omega)]at h3;exact h3
    ·rw[zc4 (by omega)]at h3 h5;rw[zc4 (by omega),zc4 (by omega)]at h5;have b1:=Nd h3;have b2:=AP h3;rw[h1,<-hk']at b1;rcases h4 with h4|h4
     ·subst h4;omega
     ·subst h4;omega) (a,(b,(0,((a.length:Int),0)))) ⟨0,a,0,rfl,rfl,by omega,by rw[List.take_zero];exact LB.nil,rfl,.inl rfl,by simp[val,B]⟩
 rw[h1];simp only[za0];rw[Yp (by unfold Ax;omega)];simp only[za0];rw[Cj h2.1,h2.2.1]
end
section
open Go
theorem F7{n k:Nat}(h:(n:Int)<B k)(hk:k<=1000000):(lim n).length<=1000000:=ze5 (An.2 h) hk
theorem Zp{x y:Int}{k:Nat}(hk:k<=1000000)(hx:(x.natAbs:Int)<B k)(hy:(y.natAbs:Int)<B k):H1 (big x) (big y)=some (big (x+y)):=by
 have lx:=F7 hx hk;have ly:=F7 hy hk;unfold H1 big;simp only;by_cases hs:decide (x<0)=decide (y<0)
 ·rw[hs,beq_self_eq_true];obtain⟨r,e1,e2,e3,e4⟩:=AF1 (AE x.natAbs) (AE y.natAbs) (by omega) (by omega);rw[Ar,Ar]at e3;simp only[cond_true,e1,za0];rw[HI e2 (by unfold Ax;omega)];simp only[za0];have hv:(val r).toNat=(x+y).natAbs:=by
   by_cases h1:x<0
   ·have:y<0:=by simpa[h1]using hs
    omega
   ·have:¬y<0:=by simpa[h1]using hs
    omega
  rw[hv]
  congr 2
  by_cases h2:y<0
  ·have h1:x<0:=by simpa[h2]using hs
   rw[zp h2,zp (show x+y<0 by omega),zp (show(x+y).natAbs≠0 by omega)];rfl
  ·have h1:¬x<0:=by simpa[h2]using hs
   rw[zq h2,zq (show ¬x+y<0 by omega)];rfl
 ·have hb:(decide (x<0)==decide (y<0))=false:=by simpa using hs
  rw[hb];simp only[cond_false];rw[Gq (by unfold Ax;omega) (by unfold Ax;omega)];simp only[za0];have hxy:(x<0/\¬y<0)\/(¬x<0/\y<0):=by
   by_cases h1:x<0<;>by_cases h2:y<0<;>simp[h1,h2]at hs⊢
  rcases zd6 x.natAbs y.natAbs with hlt|hge
  ·rw[DP (by omega),zq (by omega)];simp only[cond_false];have hl:(lim x.natAbs).length<=(lim y.natAbs).length:=An.2 (by have:=An.1 (za7 (lim y.natAbs).length);omega);rw[WV (AE _) (AE _) hl (by omega) (by rw[Ar,Ar];omega)];simp only[za0,Ar];have e:((y.natAbs:Int)-(x.natAbs:Int)).toNat=(x+y).natAbs:=by omega
   rw[e,HI (AE _) (by
    have:(lim (x+y).natAbs).length<=(lim y.natAbs).length:=An.2 (by have:=An.1 (za7 (lim y.natAbs).length);omega);unfold Ax;omega)]
   simp only[za0,Ar,zc2]
   congr 2
   by_cases h2:y<0
   ·rw[zp h2,zp (show x+y<0 by omega),zp (show(x+y).natAbs≠0 by omega)];rfl
   ·rw[zq h2,zq (show ¬x+y<0 by omega)];rfl
  ·have hc:CQ (x.natAbs:Int) (y.natAbs:Int)>=0:=by unfold CQ;rw[zw (by omega)];split<;>omega
   rw[zp hc];simp only[cond_true];have hl:(lim y.natAbs).length<=(lim x.natAbs).length:=An.2 (by have:=An.1 (za7 (lim x.natAbs).length);omega);rw[WV (AE _) (AE _) hl (by omega) (by rw[Ar,Ar];omega)];simp only[za0,Ar];have e:((x.natAbs:Int)-(y.natAbs:Int)).toNat=(x+y).natAbs:=by omega
   rw[e,HI (AE _) (by
    have:(lim (x+y).natAbs).length<=(lim x.natAbs).length:=An.2 (by have:=An.1 (za7 (lim x.natAbs).length);omega);unfold Ax;omega)]
   simp only[za0,Ar,zc2]
   congr 2
   by_cases h2:x<0
   ·rw[zp h2];by_cases h3:x+y<0
    ·rw[zp h3,zp (show(x+y).natAbs≠0 by omega)];rfl
    ·rw[zq h3,zq (show ¬(x+y).natAbs≠0 by omega)];rfl
   ·rw[zq h2,zq (show ¬x+y<0 by omega)];rfl
theorem PG{o x y c:Int}(ho:0<=o/\o<65536)(hx:0<=x/\x<65536)(hy:0<=y/\y<65536)(hc:0<=c/\c<65536):
  (0<=x*y/\x*y<=4294836225)/\0<=(o+x*y+c)/65536/\(o+x*y+c)/65536<65536/\0<=(o+x*y+c)%65536/\(o+x*y+c)%65536<65536/\(o+x*y+c)%65536+65536*((o+x*y+c)/65536)=o+x*y+c:=by
 have h1:0<=x*y:=zf1 hx.1 hy.1;have h2:x*y<=65535*65535:=Int.le_trans (zb3 (show y<=65535 by omega) hx.1) (za9 (show x<=65535 by omega) (by omega));omega
theorem Ak2{out:List Int}{p:Nat}{o d c c' t V:Int}(ho:out[p]? =some o)(hd:d+65536*c'=o+t+c)(hV:val out+B p*c=V):val (out.set p d)+B (p+1)*c'=V+B p*t:=by
 rw[FA ho];have e1:B (p+1)*c'=B p*(65536*c'):=by simp only[B];rw[zf9 65536 (B p),zg1]
 have e2:B p*d+B p*(65536*c')=B p*o+B p*t+B p*c:=by rw[<-ze0,hd,ze0,ze0]
 rw[e1,Int.mul_sub];omega
theorem Al{l:List Int}{k:Nat}(h:k<l.length):l[k]? =some (dg l k):=by rw[za1 h,FE (za1 h)]
theorem BX{l:List Int}{k j:Nat}{x:Int}(h:k≠j):dg (l.set k x) j=dg l j:=by
 unfold dg;rw[zb7,zb7,List.getElem?_set_ne h]
structure Row (out0 out:List Int) (i k:Nat) (c x:Int) (b:List Int):Prop where
 len:out.length=out0.length
 lb:LB out
 hi:∀j,i+k<=j->dg out j=dg out0 j
 c0:0<=c
 c1:c<65536
 v:val out+B (i+k)*c=val out0+B i*(x*val (b.take k))
theorem Row.start{out0:List Int}(h:LB out0)(i:Nat)(x:Int)(b:List Int):Row out0 out0 i 0 0 x b:=⟨rfl,h,fun _ _=>rfl,by omega,by omega,by simp[val]⟩
theorem Row.next{out0 out:List Int}{i k:Nat}{c x:Int}{b:List Int}(h:Row out0 out i k c x b)(hb:LB b)(hx:0<=x/\x<65536)(hk:i+k<out.length):
  Row out0 (out.set (i+k) ((dg out (i+k)+x*dg b k+c)%65536)) i (k+1) ((dg out (i+k)+x*dg b k+c)/65536) x b:=by
 have hs:=PG (A7 h.lb (i+k)) hx (A7 hb k) ⟨h.c0,h.c1⟩;refine⟨by rw[List.length_set];exact h.len,h.lb.set ⟨hs.2.2.2.1,hs.2.2.2.2.1⟩,fun j hj=>by rw[BX (by omega)];exact h.hi j (by omega),hs.2.1,hs.2.2.1,?_⟩
 have:=Ak2 (Al hk) hs.2.2.2.2.2 h.v;rw[show i+(k+1)=i+k+1 by omega,this,AY,ze0,ze0];have:B (i+k)*(x*dg b k)=B i*(x*(B k*dg b k)):=by rw[Qd];grind
 omega
theorem AU7{a0 a1 a2:Bool×List Int}{out0:List Int}{i:Nat}{x:Int}(hx:0<=x/\x<65536)(h0:LB out0)(hb:LB a1.2)(hlen:i+a1.2.length<=out0.length)(ho:out0.length<=10000000)(s7:List Int)(s8 s9:Int):
  ∃out c,Ad (fun(s:((Bool×(List Int))×((Bool×(List Int))×((Bool×(List Int))×((List Int)×(Int×(Int×(Int×((List Int)×(Int×(Int×((List Int)×(Int×Int)))))))))))))=>Fo s.1 s.2.1 s.2.2.1 s.2.2.2.1 s.2.2.2.2.1 s.2.2.2.2.2.1 s.2.2.2.2.2.2.1 s.2.2.2.2.2.2.2.1 s.2.2.2.2.2.2.2.2.1 s.2.2.2.2.2.2.2.2.2.1 s.2.2.2.2.2.2.2.2.2.2.1 s.2.2.2.2.2.2.2.2.2.2.2.1 s.2.2.2.2.2.2.2.2.2.2.2.2) ((a0.1,a0.2),((a1.1,a1.2),((a2.1,a2.2),(out0,((i:Int),(x,((0:Int),(s7,(s8,(s9,(a1.2,((((List.length a1.2):Nat):Int),(0:Int)))))))))))))=
   some ((a0.1,a0.2),((a1.1,a1.2),((a2.1,a2.2),(out,((i:Int),(c,(s7,(s8,s9))))))))/\Row out0 out i a1.2.length c x a1.2:=by
 obtain⟨⟨out,c⟩,h1,h2⟩:=Eo (body:=fun(s:((Bool×(List Int))×((Bool×(List Int))×((Bool×(List Int))×((List Int)×(Int×(Int×(Int×((List Int)×(Int×(Int×((List Int)×(Int×Int)))))))))))))=>Fo s.1 s.2.1 s.2.2.1 s.2.2.2.1 s.2.2.2.2.1 s.2.2.2.2.2.1 s.2.2.2.2.2.2.1 s.2.2.2.2.2.2.2.1 s.2.2.2.2.2.2.2.2.1 s.2.2.2.2.2.2.2.2.2.1 s.2.2.2.2.2.2.2.2.2.2.1 s.2.2.2.2.2.2.2.2.2.2.2.1 s.2.2.2.2.2.2.2.2.2.2.2.2)
  (st:=fun k (b:List Int×Int)=>((a0.1,a0.2),((a1.1,a1.2),((a2.1,a2.2),(b.1,((i:Int),(x,(b.2,(s7,(s8,(s9,(a1.2,((((List.length a1.2):Nat):Int),(k:Int))))))))))))))
  (fin:=fun b=>((a0.1,a0.2),((a1.1,a1.2),((a2.1,a2.2),(b.1,((i:Int),(b.2,(s7,(s8,s9)))))))))
  (I:=fun k b=>Row out0 b.1 i k b.2 x a1.2) (e:=a1.2.length)
  (by
   rintro k ⟨out,c⟩ hk hI;simp only at hI;have hl:=hI.len;have hp:i+k<out.length:=by omega
   have hs:=PG (A7 hI.lb (i+k)) hx (A7 hb k) ⟨hI.c0,hI.c1⟩;have dl:=A7 hI.lb (i+k);have c0:=hI.c0;have c1:=hI.c1;refine⟨(_,_),?_,hI.next hb hx hp⟩
   unfold Fo AX
   dsimp only
   have i1:A1 ((i:Int)+(k:Int)) out.length=some (i+k):=by rw[show(i:Int)+(k:Int)=((i+k:Nat):Int) by omega];exact A0 hp
   rw[zp (by omega),Ae (n:=(i:Int)+(k:Int)) (by omega) (by omega)];simp only[cond_true,Ah,Al hk,za0,i1,Al hp];rw[Ae (n:=x*dg a1.2 k) (by omega) (by omega),Ae (n:=dg out (i+k)+x*dg a1.2 k) (by omega) (by omega),Ae (n:=c+(dg out (i+k)+x*dg a1.2 k)) (by omega) (by omega),show c+(dg out (i+k)+x*dg a1.2 k)=dg out (i+k)+x*dg a1.2 k+c by omega,
    zc6 (by omega),zc5 (by omega),Ae (n:=(dg out (i+k)+x*dg a1.2 k+c)/65536) (by omega) (by omega),AJ (by omega)])
  (by
   rintro⟨out,c⟩ _;unfold Fo
   dsimp only
   rw[zq (by omega)];rfl) 0 (out0,0) (by omega) (Row.start h0 i x _)
 exact⟨out,c,h1,h2⟩
theorem DF{x y:Int}{k:Nat}(hk:k<=100000)(hx:(x.natAbs:Int)<B k)(hy:(y.natAbs:Int)<B k):∃r,Bx (big x) (big y)=some r/\(r.2,r.1)=big (x*y):=by
 have lx:=ze5 (An.2 hx) hk;have ly:=ze5 (An.2 hy) hk;unfold Bx;generalize ha:lim x.natAbs=a at lx;generalize hb':lim y.natAbs=b at ly;have la:LB a:=ha▸AE _;have lb:LB b:=hb'▸AE _;have e1:(big x).2=a:=ha;have e2:(big y).2=b:=hb';rw[e1,e2,Ae (by omega) (by omega),show((a.length:Nat):Int)+((b.length:Nat):Int)=((a.length+b.length:Nat):Int) by omega,HZ (by unfold Ab;omega) (by unfold Ab;omega)];simp only[za0]
 obtain⟨out,h1,h2⟩:=Eo (body:=fun(s:((Bool×(List Int))×((Bool×(List Int))×((Bool×(List Int))×((List Int)×((List Int)×(Int×Int)))))))=>Hu s.1 s.2.1 s.2.2.1 s.2.2.2.1 s.2.2.2.2.1 s.2.2.2.2.2.1 s.2.2.2.2.2.2)
  (st:=fun i (o:List Int)=>(((big x).1,a),(((big y).1,b),((false,([]:List Int)),(o,(a,(((a.length:Nat):Int),(i:Int))))))))
  (fin:=fun o=>(((big x).1,a),(((big y).1,b),((false,([]:List Int)),o))))
  (I:=fun i o=>o.length=a.length+b.length/\LB o/\(∀j,i+b.length<=j->dg o j=0)/\val o=val (a.take i)*val b) (e:=a.length)
  (by
   rintro i o hi ⟨h1,h2,h3,h4⟩;have hd:=A7 la i;obtain⟨o1,c,q1,q2⟩:=AU7 (a0:=((big x).1,a)) (a1:=((big y).1,b)) (a2:=(false,[])) hd h2 lb (show i+b.length<=o.length by omega) (show o.length<=10000000 by omega) a ((a.length:Nat):Int) (i:Int);simp only at q1 q2;have hl1:=q2.len;have hp:i+b.length<o1.length:=by omega
   have hz:dg o1 (i+b.length)=0:=by rw[q2.hi _ (za7 _),h3 _ (by omega)]
   have c0:=q2.c0;have c1:=q2.c1;refine⟨o1.set (i+b.length) c,?_,by rw[List.length_set];omega,q2.lb.set ⟨c0,c1⟩,fun j hj=> ?_,?_⟩
   ·unfold Hu AX
    dsimp only
    rw[zp (by omega),Ah,Al hi];simp only[cond_true,za0];rw[q1];simp only[za0];have i1:A1 ((i:Int)+((b.length:Nat):Int)) o1.length=some (i+b.length):=by rw[show(i:Int)+((b.length:Nat):Int)=((i+b.length:Nat):Int) by omega];exact A0 hp
    rw[Ae (n:=(i:Int)+((b.length:Nat):Int)) (by omega) (by omega),i1];simp only[za0,Al hp,hz];rw[Ae (n:=0+c) (by omega) (by omega),AJ (by omega),Int.zero_add]
   ·rw[BX (by omega),q2.hi j (by omega),h3 j (by omega)]
   ·rw[FA (Al hp),hz,Int.sub_zero];have hv:=q2.v;rw[List.take_length]at hv;rw[AY,Int.add_mul,<-h4];have:B i*dg a i*val b=B i*(dg a i*val b):=zg1 ..
    omega)
  (by
   rintro o _;unfold Hu
   dsimp only
   rw[zq (by omega)];rfl) 0 (List.replicate (a.length+b.length) 0) (by omega) ⟨by simp,LB.zeros _,fun j _=>by
    unfold dg;rw[zb7,ze7];split<;>rfl,by rw[EX];simp[val]⟩
 rw[show((0:Nat):Int)=0 from rfl]at h1;rw[h1];obtain⟨g1,g2,g3,g4⟩:=h2;rw[List.take_length]at g4;simp only[za0];rw[HI g2 (by unfold Ax;omega)];simp only[za0];refine⟨_,rfl,?_⟩
 have hv:(val out).toNat=(x*y).natAbs:=by rw[g4,<-ha,<-hb',Ar,Ar,Int.natAbs_mul];omega
 rw[hv];unfold big
 congr 1
 by_cases hx0:x=0
 ·subst hx0;simp
 ·by_cases hy0:y=0
  ·subst hy0;simp
  ·have hne:(x*y).natAbs≠0:=by
    rw[Int.natAbs_mul];intro h;rcases Nat.mul_eq_zero.1 h with h|h<;>omega
   rw[zp hne];by_cases h1:x<0
   ·by_cases h2:y<0
    ·have:=Int.mul_pos_of_neg_of_neg h1 h2;rw[zp h1,zp h2,zq (by omega)];rfl
    ·have:=Int.mul_neg_of_neg_of_pos h1 (show 0<y by omega);rw[zp h1,zq h2,zp (by omega)];rfl
   ·by_cases h2:y<0
    ·have:=Int.mul_neg_of_pos_of_neg (show 0<x by omega) h2;rw[zq h1,zp h2,zp (by omega)];rfl
    ·have:=Int.mul_pos (show 0<x by omega) (show 0<y by omega);rw[zq h1,zq h2,zq (by omega)];rfl
end
section
open Go
theorem AV6{out0 b:List Int}{i:Nat}{x:Int}(hx:0<=x/\x<65536)(h0:LB out0)(hb:LB b)(hlen:i+b.length<out0.length)(hz:∀j,i+b.length<=j->dg out0 j=0)(ho:out0.length<=10000000)(s6:List Int)(s7 s8:Int):
  ∃out,Ad (fun(s:((List Int)×((List Int)×(Int×(Int×(Int×(Int×((List Int)×(Int×Int)))))))))=>DK s.1 s.2.1 s.2.2.1 s.2.2.2.1 s.2.2.2.2.1 s.2.2.2.2.2.1 s.2.2.2.2.2.2.1 s.2.2.2.2.2.2.2.1 s.2.2.2.2.2.2.2.2) (out0,(b,((i:Int),(x,((0:Int),((0:Int),(s6,(s7,s8))))))))=some (out,(b,(s6,(s7,s8))))/\
   out.length=out0.length/\LB out/\(∀j,i+1+b.length<=j->dg out j=0)/\val out=val out0+B i*(x*val b):=by
 obtain⟨r,h1,out,rfl,h2⟩:=HN (f:=fun(s:((List Int)×((List Int)×(Int×(Int×(Int×(Int×((List Int)×(Int×Int)))))))))=>DK s.1 s.2.1 s.2.2.1 s.2.2.2.1 s.2.2.2.2.1 s.2.2.2.2.2.1 s.2.2.2.2.2.2.1 s.2.2.2.2.2.2.2.1 s.2.2.2.2.2.2.2.2)
  (I:=fun s=>∃(k:Nat)(out:List Int)(c:Int),s=(out,(b,((i:Int),(x,(c,((k:Int),(s6,(s7,s8))))))))/\k<=b.length+1/\Row out0 out i k c x b/\(k=b.length+1->c=0))
  (R:=fun r=>∃out,r=(out,(b,(s6,(s7,s8))))/\out.length=out0.length/\LB out/\(∀j,i+1+b.length<=j->dg out j=0)/\val out=val out0+B i*(x*val b)) (fun s=>(b.length+2-s.2.2.2.2.2.1).toNat) (by
   rintro s ⟨k,out,c,rfl,hk,hR,hc⟩;simp only;have hl:=hR.len;have c0:=hR.c0;have c1:=hR.c1;by_cases hgo:k<b.length\/c>0
   ·have hkb:k<=b.length:=by
     rcases hgo with h|h
     ·omega
     ·rcases zd6 b.length k with h6|h6
      ·have:=hc (by omega);omega
      ·exact h6
    have hp:i+k<out.length:=by omega
    have hs:=PG (A7 hR.lb (i+k)) hx (A7 hb k) ⟨c0,c1⟩;have dl:=A7 hR.lb (i+k);refine .inl ⟨(out.set (i+k) ((dg out (i+k)+x*dg b k+c)%65536),(b,((i:Int),(x,((dg out (i+k)+x*dg b k+c)/65536,(((k+1:Nat):Int),(s6,(s7,s8)))))))),?_,⟨k+1,_,_,rfl,by omega,hR.next hb hx hp,fun he=> ?_⟩,by simp only;omega⟩
    ·unfold DK AX;have hcond:(bif decide ((k:Int)<((b.length:Nat):Int))then some (Sum.inr (α:=(List Int×List Int×Int×Int×Int×Int×List Int×Int×Int)⊕(List Int×List Int×List Int×Int×Int)) (out,(b,((i:Int),(x,(c,((k:Int),(s6,(s7,s8)))))))))else bif decide (c>0)then some (Sum.inr (out,(b,((i:Int),(x,(c,((k:Int),(s6,(s7,s8)))))))))else some (Sum.inl (Sum.inr (out,(b,(s6,(s7,s8)))))))=some (Sum.inr (out,(b,((i:Int),(x,(c,((k:Int),(s6,(s7,s8))))))))):=by
      by_cases g1:(k:Int)<(b.length:Int)
      ·rw[zp g1];rfl
      ·have:c>0:=by rcases hgo with h|h<;>omega
       rw[zq g1,zp this];rfl
     rw[hcond];have i1:A1 ((i:Int)+(k:Int)) out.length=some (i+k):=by rw[show(i:Int)+(k:Int)=((i+k:Nat):Int) by omega];exact A0 hp
     simp only[za0,za8];rw[Ae (n:=(i:Int)+(k:Int)) (by omega) (by omega),i1];simp only[za0,Al hp,KM];rw[Ae (n:=x*dg b k) (by omega) (by omega),Ae (n:=dg out (i+k)+x*dg b k) (by omega) (by omega),Ae (n:=dg out (i+k)+x*dg b k+c) (by omega) (by omega),
      zc6 (by omega),zc5 (by omega),Ae (n:=(dg out (i+k)+x*dg b k+c)/65536) (by omega) (by omega),AJ (by omega)]
    ·have hkb':k=b.length:=by omega
     have z1:dg b k=0:=Ih (by omega);have z2:dg out (i+k)=0:=by rw[hR.hi _ (za7 _),hz _ (by omega)]
     rw[z1,z2,Int.mul_zero];omega
   ·have hkb:b.length<=k:=by omega
    have hcz:c=0:=by omega
    subst hcz;refine .inr ⟨_,?_,out,rfl,hl,hR.lb,fun j hj=> ?_,?_⟩
    ·unfold DK;rw[zq (by omega),zq (by omega)];rfl
    ·rw[hR.hi j (by omega),hz j (by omega)]
    ·have:=hR.v;rw[zc4 hkb]at this;omega) (out0,(b,((i:Int),(x,((0:Int),((0:Int),(s6,(s7,s8)))))))) ⟨0,out0,0,rfl,by omega,Row.start h0 i x b,by omega⟩
 exact⟨out,h1,h2⟩
theorem Aa4{a b:List Int}(ha:LB a)(hb:LB b)(na:a.length<=100000)(nb:b.length<=100000):GM a b=some (lim (val a*val b).toNat):=by
 unfold GM;rw[Ae (n:=((a.length:Nat):Int)+((b.length:Nat):Int)) (by omega) (by omega),Ae (by omega) (by omega),show((a.length:Nat):Int)+((b.length:Nat):Int)+1=((a.length+b.length+1:Nat):Int) by omega,HZ (by unfold Ab;omega) (by unfold Ab;omega)];simp only[za0];obtain⟨out,h1,h2⟩:=Eo (body:=fun(s:((List Int)×((List Int)×((List Int)×(Int×Int)))))=>E8 s.1 s.2.1 s.2.2.1 s.2.2.2.1 s.2.2.2.2)
  (st:=fun i (o:List Int)=>(o,(b,(a,(((a.length:Nat):Int),(i:Int)))))) (fin:=fun o=>o)
  (I:=fun i o=>o.length=a.length+b.length+1/\LB o/\(∀j,i+b.length<=j->dg o j=0)/\val o=val (a.take i)*val b) (e:=a.length)
  (by
   rintro i o hi ⟨h1,h2,h3,h4⟩;have hd:=A7 ha i;obtain⟨o1,q1,q2,q3,q4,q5⟩:=AV6 hd h2 hb (show i+b.length<o.length by omega) h3 (by omega) a ((a.length:Nat):Int) (i:Int);refine⟨o1,?_,by omega,q3,q4,?_⟩
   ·unfold E8
    dsimp only
    rw[zp (by omega),Ah,Al hi];simp only[cond_true,za0];rw[q1];simp only[za0];rw[AJ (by omega)]
   ·rw[q5,h4,AY,Int.add_mul];have:B i*dg a i*val b=B i*(dg a i*val b):=zg1 ..
    omega)
  (by
   rintro o _;unfold E8
   dsimp only
   rw[zq (by omega)];rfl) 0 (List.replicate (a.length+b.length+1) 0) (by omega) ⟨by simp,LB.zeros _,fun j _=>by
    unfold dg;rw[zb7,ze7];split<;>rfl,by rw[EX];simp[val]⟩
 rw[show((0:Nat):Int)=0 from rfl]at h1;rw[h1];obtain⟨g1,g2,g3,g4⟩:=h2;rw[List.take_length]at g4;simp only[za0];rw[Gx (by unfold Ax;omega)];simp only[za0];rw[Cj g2,g4]
theorem A1n{x y:Int}(h:(x*y).natAbs≠0):(!(decide (x<0)==decide (y<0)))=decide (x*y<0):=by
 have hx:x≠0:=by rintro rfl;simp at h
 have hy:y≠0:=by rintro rfl;simp at h
 by_cases h1:x<0
 ·by_cases h2:y<0
  ·have:=Int.mul_pos_of_neg_of_neg h1 h2;rw[zp h1,zp h2,zq (by omega)];rfl
  ·have:=Int.mul_neg_of_neg_of_pos h1 (show 0<y by omega);rw[zp h1,zq h2,zp (by omega)];rfl
 ·by_cases h2:y<0
  ·have:=Int.mul_neg_of_pos_of_neg (show 0<x by omega) h2;rw[zq h1,zp h2,zp (by omega)];rfl
  ·have:=Int.mul_pos (show 0<x by omega) (show 0<y by omega);rw[zq h1,zq h2,zq (by omega)];rfl
theorem XC(x y:Int):((!(decide (x<0)==decide (y<0)))&&decide ((x*y).natAbs≠0),lim (x*y).natAbs)=big (x*y):=by
 unfold big
 congr 1
 by_cases h:(x*y).natAbs≠0
 ·rw[A1n h,zp h,Bool.and_true]
 ·rw[zq h,Bool.and_false,zq (by omega)]
theorem Ix{x y:Int}{k:Nat}(hk:k<=100000)(hx:(x.natAbs:Int)<B k)(hy:(y.natAbs:Int)<B k):C8 (big x) (big y)=some (big (x*y)):=by
 have lx:=ze5 (An.2 hx) hk;have ly:=ze5 (An.2 hy) hk;unfold C8;rw[show(big x).2=lim x.natAbs from rfl,show(big y).2=lim y.natAbs from rfl,Aa4 (AE _) (AE _) lx ly];have e:(val (lim x.natAbs)*val (lim y.natAbs)).toNat=(x*y).natAbs:=by rw[Ar,Ar,Int.natAbs_mul];omega
 have hl:(lim (x*y).natAbs).length<=k+k:=by
  rw[An,Int.natAbs_mul,Qd];have h1:=FZ k;have:((x.natAbs*y.natAbs:Nat):Int)=(x.natAbs:Int)*(y.natAbs:Int):=by simp
  rw[this];exact Int.lt_of_le_of_lt (za9 (ze2 hx) (by omega)) (Int.mul_lt_mul_of_pos_left hy h1)
 simp only[za0];rw[e,Fm (AE _) (by unfold Ax;omega)];simp only[za0,Ar,zc2];rw[<-XC];rfl
end
section
open Go
theorem BY(l:List Int)(h:Nat):val l=val (l.take h)+B h*val (l.drop h):=by
 rcases Nat.le_or_ge h l.length with hc|hc
 ·exact Sy l h hc
 ·rw[zc4 hc,zc9 hc];simp[val]
theorem A6f{x y:Nat}{p q:Nat}(h1:(x:Int)<B p)(h2:(y:Int)<B q):((x*y:Nat):Int)<B (p+q):=by
 rw[Qd,show((x*y:Nat):Int)=(x:Int)*(y:Int) by simp];exact Int.lt_of_le_of_lt (za9 (ze2 h1) (by omega)) (Int.mul_lt_mul_of_pos_left h2 (FZ p))
end
section
open Go
theorem VN{n:Nat}(h:n≠0):lim n=((n%65536:Nat):Int)::lim (n/65536):=by
 conv=>lhs;unfold lim
 rw[dif_neg h]
theorem Qh(s:Bool×List Int)(neg:Bool):∀(f:Nat)(n:Nat)(acc:List Int),n<=f->n<18446744073709551616->acc.length+(lim n).length<=10000->
  Ad (fun(s:((Bool×(List Int))×((List Int)×(Bool×Int))))=>Kk s.1 s.2.1 s.2.2.1 s.2.2.2) (s,(acc,(neg,(n:Int))))=some (s,(acc++lim n,neg)):=by
 intro f
 induction f with
 |zero=>
  intro n acc hn _ _;have:n=0:=by omega
  subst this;rw[Cc,ze8];exact Aj rfl
 |succ f ih=>
  intro n acc hn h64 h2;by_cases h0:n=0
  ·subst h0;rw[Cc,ze8];exact Aj rfl
  ·rw[VN h0]at h2⊢
   simp only[zb9]at h2;have hstep:Kk s acc neg (n:Int)=some (.inl (s,(acc++[((n%65536:Nat):Int)],(neg,((n/65536:Nat):Int))))):=by
    unfold Kk;rw[zp (by omega),zc6 (by omega),zc5 (by omega),Ae (by omega) (by omega),YJ (by omega) (by omega)];simp only[cond_true];rw[Au5 (by omega)];simp only[za0];rw[show(n:Int)%65536=((n%65536:Nat):Int) by omega,show(n:Int)/65536=((n/65536:Nat):Int) by omega]
   have:=ih (n/65536) (acc++[((n%65536:Nat):Int)]) (by omega) (by omega) (by simp;omega);rw[AM hstep,this,List.append_assoc];rfl
theorem Aq6{n:Nat}(h:n<18446744073709551616):(lim n).length<=4:=An.2 (by have:B 4=18446744073709551616:=rfl;omega)
theorem UW{n:Int}(h1: -9223372036854775808<=n)(h2:n<=9223372036854775807):DE n=some (big n):=by
 unfold DE;have hl:=Aq6 (n:=n.natAbs) (by omega);by_cases h:n<0
 ·have e:zi zk (0-zi zk n)=(n.natAbs:Int):=by rw[IntKind.wrap_u64,IntKind.wrap_u64];omega
  rw[zp h];simp only[cond_true,za0,za8];rw[e,Qh (false,[]) true n.natAbs n.natAbs [] (za7 _) (by omega) (by simp;omega)];unfold big;rw[zp h];rfl
 ·have e:zi zk n=(n.natAbs:Int):=by rw[IntKind.wrap_u64];omega
  rw[zq h];simp only[cond_false,za0,za8];rw[e,Qh (false,[]) false n.natAbs n.natAbs [] (za7 _) (by omega) (by simp;omega)];unfold big;rw[zq h];rfl
theorem Ad4(s:Bool×List Int)(m:Int):∀(f:Nat)(n:Int)(acc:List Int),n.natAbs<=f-> -9223372036854775808<=n->n<=9223372036854775807->acc.length+(lim n.natAbs).length<=10000->
  Ad (fun(s:((Bool×(List Int))×((List Int)×(Int×Int))))=>J3 s.1 s.2.1 s.2.2.1 s.2.2.2) (s,(acc,(m,n)))=some (s,(acc++lim n.natAbs,m)):=by
 intro f
 induction f with
 |zero=>
  intro n acc hn _ _ _;have:n=0:=by omega
  subst this;rw[show(0:Int).natAbs=0 from rfl,Cc,ze8];exact Aj rfl
 |succ f ih=>
  intro n acc hn h1 h2 h3;by_cases h0:n=0
  ·subst h0;rw[show(0:Int).natAbs=0 from rfl,Cc,ze8];exact Aj rfl
  ·rw[VN (show n.natAbs≠0 by omega)]at h3⊢
   simp only[zb9]at h3;have hq:(Int.tdiv n 65536).natAbs=n.natAbs/65536:=by rw[Int.natAbs_tdiv];rfl
   have hq1: -9223372036854775808<=Int.tdiv n 65536/\Int.tdiv n 65536<=9223372036854775807:=by omega
   have hr:((Int.tmod n 65536).natAbs:Int)=((n.natAbs%65536:Nat):Int):=by rw[Int.natAbs_tmod];rfl
   have hstep:J3 s acc m n=some (.inl (s,(acc++[((n.natAbs%65536:Nat):Int)],(m,Int.tdiv n 65536)))):=by
    unfold J3;have:(n != 0)=true:=by simpa using h0
    rw[this,Ae (n:=Int.tdiv n 65536) (by omega) (by omega)];simp only[cond_true];by_cases hneg:Int.tmod n 65536<0
    ·rw[zp hneg,Ae (by omega) (by omega)];simp only[cond_true];rw[Au5 (by omega),show(0:Int)-Int.tmod n 65536=((n.natAbs%65536:Nat):Int) by omega];rfl
    ·rw[zq hneg];simp only[cond_false];rw[Au5 (by omega),show Int.tmod n 65536=((n.natAbs%65536:Nat):Int) by omega];rfl
   have:=ih (Int.tdiv n 65536) (acc++[((n.natAbs%65536:Nat):Int)]) (by omega) hq1.1 hq1.2 (by rw[hq];simp;omega);rw[AM hstep,this,List.append_assoc,hq];rfl
theorem Qa{n:Int}(h1: -9223372036854775808<=n)(h2:n<=9223372036854775807):D6 n=some (big n):=by
 unfold D6;have hl:=Aq6 (n:=n.natAbs) (by omega);rw[Ad4 (false,[]) n n.natAbs n [] (za7 _) h1 h2 (by simp;omega)];simp only[za0,List.nil_append];rw[Fm (AE _) (by unfold Ax;omega)];simp only[za0,Ar,zc2];unfold big;by_cases h:n<0
 ·rw[zp h,zp (show n.natAbs≠0 by omega)];rfl
 ·rw[zq h];rfl
theorem Z2(z:Int):BG (big z)=some (CQ z 0):=by
 unfold BG big;by_cases h0:z=0
 ·subst h0;rw[show(0:Int).natAbs=0 from rfl,Cc];rfl
 ·have:((((lim z.natAbs).length:Nat):Int)==0)=false:=beq_eq_false_iff_ne.2 (by
   intro h;have h2:lim z.natAbs=[]:=zb2 (by omega);have:=It.1 h2;omega)
  rw[this];by_cases h:z<0
  ·rw[zp h,DP h];rfl
  ·rw[zq h,FC (by omega)];rfl
theorem Ra{x y:Int}{k:Nat}(hk:k<=1000000)(hx:(x.natAbs:Int)<B k)(hy:(y.natAbs:Int)<B k):ED (big x) (big y)=some (CQ x y):=by
 have lx:=F7 hx hk;have ly:=F7 hy hk;unfold ED;have e1:BG ((big x).1,(big x).2)=some (CQ x 0):=Z2 x;have e2:BG ((big y).1,(big y).2)=some (CQ y 0):=Z2 y;simp only[e1,e2,za0,SD];have e3:BO (big x).2 (big y).2=some (CQ (x.natAbs:Int) (y.natAbs:Int)):=Gq (by unfold Ax;omega) (by unfold Ax;omega);rw[e3];have cx:=BT x 0;have cy:=BT y 0;have c3:=BT (x.natAbs:Int) (y.natAbs:Int);have cxy:=BT x y;have cs:=BT (CQ x 0) (CQ y 0);by_cases h:CQ x 0=CQ y 0
 ·rw[h,bne_self_eq_false];simp only[cond_false,za0];rcases cy with⟨cy,_⟩|⟨cy,_⟩|⟨cy,_⟩<;>rw[cy]at h⊢ <;>rcases c3 with⟨c3,_⟩|⟨c3,_⟩|⟨c3,_⟩<;>rw[c3]<;>rw[Ae (by omega) (by omega)]<;>congr 1<;>omega
 ·have hb:(CQ x 0 != CQ y 0)=true:=by simpa using h
  rw[hb];simp only[cond_true]
  congr 1
  omega
end
section
open Go
theorem R9{a q r by_:Int}(h:q*by_+r=a)(h0:0<=r)(h1:r<by_):q=a/by_/\r=a%by_:=by
 have:a=r+by_*q:=by rw[<-h,zf9];omega
 subst this;constructor
 ·rw[Int.add_mul_ediv_left _ _ (by omega),Int.ediv_eq_zero_of_lt h0 h1];omega
 ·rw[Int.add_mul_emod_self_left,Int.emod_eq_of_lt h0 h1]
theorem UA{a:List Int}{d:Int}(ha:LB a)(hd:1<=d/\d<=65536)(na:a.length<=10000000):
  ∃q r,Ad (fun(s:((List Int)×((List Int)×(Int×(Int×Int)))))=>Ey s.1 s.2.1 s.2.2.1 s.2.2.2.1 s.2.2.2.2) (List.replicate a.length 0,(a,(d,(0,(a.length:Int)-1))))=some (q,r)/\LB q/\q.length=a.length/\0<=r/\r<d/\val q*d+r=val a:=by
 obtain⟨⟨q,r⟩,h1,h2⟩:=KX (body:=fun(s:((List Int)×((List Int)×(Int×(Int×Int)))))=>Ey s.1 s.2.1 s.2.2.1 s.2.2.2.1 s.2.2.2.2)
  (st:=fun n (b:List Int×Int)=>(b.1,(a,(d,(b.2,(n:Int)-1))))) (fin:=fun b=>b)
  (I:=fun n b=>n<=a.length/\LB b.1/\b.1.length=a.length/\(∀j,j<n->dg b.1 j=0)/\0<=b.2/\b.2<d/\val b.1*d+B n*b.2=B n*val (a.drop n))
  (by
   rintro n ⟨q,r⟩ ⟨h1,h2,h3,h4,h5,h6,h7⟩;simp only at h2 h3 h4 h5 h6 h7;have hn:n<a.length:=by omega
   have hg:=za1 hn;have dx:=A7 ha n;have hx:a[n]=dg a n:=(FE hg).symm;have hq:q[n]? =some 0:=by rw[Al (by omega),h4 n (by omega)]
   have ht0:0<=r*65536+dg a n:=by omega
   have hdd:=Int.emod_add_mul_ediv (r*65536+dg a n) d;have m0:=Int.emod_nonneg (r*65536+dg a n) (show d≠0 by omega);have m1:=Int.emod_lt_of_pos (r*65536+dg a n) (show 0<d by omega);have q0:=Int.ediv_nonneg ht0 (show 0<=d by omega);have q1:(r*65536+dg a n)/d<65536:=by
    refine Int.ediv_lt_of_lt_mul (by omega) ?_
    have:r*65536+dg a n<d*65536:=by omega
    rw[zf9 65536 d];exact this
   refine⟨(q.set n ((r*65536+dg a n)/d),(r*65536+dg a n)%d),?_,by omega,h2.set ⟨q0,q1⟩,by simp[h3],fun j hj=>by simp only;rw[BX (by omega)];exact h4 j (by omega),m0,m1,?_⟩
   ·unfold Ey AX
    dsimp only
    have hz:(d==0)=false:=beq_eq_false_iff_ne.2 (by omega);have hs:((n+1:Nat):Int)-1=(n:Int):=by omega
    have i1:A1 (n:Int) q.length=some n:=A0 (by omega);rw[hs,zp (by omega),Ah,hg];simp only[cond_true,za0,hz,cond_false,i1,hq,hx];rw[Ae (n:=r*65536) (by omega) (by omega),Ae (n:=r*65536+dg a n) (by omega) (by omega),zc5 ht0,zc6 ht0,Ae (n:=(r*65536+dg a n)/d) (by omega) (by omega),Ae (n:=(n:Int)-1) (by omega) (by omega)]
   ·simp only;rw[FA hq,zb0 hn,hx];simp only[val,Int.sub_zero];have e1:B (n+1)*r=B n*(r*65536):=by simp only[B];grind
    have e2:B (n+1)*val (a.drop (n+1))=B n*(65536*val (a.drop (n+1))):=by simp only[B];grind
    rw[e1,e2]at h7;have e3:B n*((r*65536+dg a n)/d)*d+B n*((r*65536+dg a n)%d)=B n*(r*65536)+B n*dg a n:=by
     rw[zg1,<-ze0,<-ze0]
     congr 1
     rw[zf9 _ d];omega
    rw[Int.add_mul,ze0];omega)
  (by
   rintro⟨q,r⟩ _;unfold Ey;rfl) a.length (List.replicate a.length 0,0) ⟨za7 _,LB.zeros _,by simp,fun j _=>by
    unfold dg;rw[zb7,ze7];split<;>rfl,by omega,by simp only;omega,by simp[EX,val]⟩
 obtain⟨g1,g2,g3,g4,g5,g6,g7⟩:=h2;simp only[B,Int.one_mul,zf0]at g7;exact⟨q,r,h1,g2,g3,g5,g6,g7⟩
theorem Xb{a:List Int}{d:Int}(ha:LB a)(hd:1<=d/\d<=65536)(na:a.length<=10000000):
  ∃q r,Ad (fun(s:((List Int)×((List Int)×(Int×(Int×Int)))))=>Fv s.1 s.2.1 s.2.2.1 s.2.2.2.1 s.2.2.2.2) (List.replicate a.length 0,(a,(d,(0,(a.length:Int)-1))))=some (q,r)/\LB q/\q.length=a.length/\0<=r/\r<d/\val q*d+r=val a:=by
 obtain⟨⟨q,r⟩,h1,h2⟩:=KX (body:=fun(s:((List Int)×((List Int)×(Int×(Int×Int)))))=>Fv s.1 s.2.1 s.2.2.1 s.2.2.2.1 s.2.2.2.2)
  (st:=fun n (b:List Int×Int)=>(b.1,(a,(d,(b.2,(n:Int)-1))))) (fin:=fun b=>b)
  (I:=fun n b=>n<=a.length/\LB b.1/\b.1.length=a.length/\(∀j,j<n->dg b.1 j=0)/\0<=b.2/\b.2<d/\val b.1*d+B n*b.2=B n*val (a.drop n))
  (by
   rintro n ⟨q,r⟩ ⟨h1,h2,h3,h4,h5,h6,h7⟩;simp only at h2 h3 h4 h5 h6 h7;have hn:n<a.length:=by omega
   have hg:=za1 hn;have dx:=A7 ha n;have hx:a[n]=dg a n:=(FE hg).symm;have hq:q[n]? =some 0:=by rw[Al (by omega),h4 n (by omega)]
   have ht0:0<=r*65536+dg a n:=by omega
   have hdd:=Int.emod_add_mul_ediv (r*65536+dg a n) d;have m0:=Int.emod_nonneg (r*65536+dg a n) (show d≠0 by omega);have m1:=Int.emod_lt_of_pos (r*65536+dg a n) (show 0<d by omega);have q0:=Int.ediv_nonneg ht0 (show 0<=d by omega);have q1:(r*65536+dg a n)/d<65536:=by
    refine Int.ediv_lt_of_lt_mul (by omega) ?_
    have:r*65536+dg a n<d*65536:=by omega
    rw[zf9 65536 d];exact this
   refine⟨(q.set n ((r*65536+dg a n)/d),(r*65536+dg a n)%d),?_,by omega,h2.set ⟨q0,q1⟩,by simp[h3],fun j hj=>by simp only;rw[BX (by omega)];exact h4 j (by omega),m0,m1,?_⟩
   ·unfold Fv AX
    dsimp only
    have hz:(d==0)=false:=beq_eq_false_iff_ne.2 (by omega);have hs:((n+1:Nat):Int)-1=(n:Int):=by omega
    have i1:A1 (n:Int) q.length=some n:=A0 (by omega);rw[hs,zp (by omega),Ah,hg];simp only[cond_true,za0,hz,cond_false,i1,hq,hx];rw[Ae (n:=r*65536) (by omega) (by omega),Ae (n:=r*65536+dg a n) (by omega) (by omega),zc5 ht0,zc6 ht0,Ae (n:=(r*65536+dg a n)/d) (by omega) (by omega),Ae (n:=(n:Int)-1) (by omega) (by omega)]
   ·simp only;rw[FA hq,zb0 hn,hx];simp only[val,Int.sub_zero];have e1:B (n+1)*r=B n*(r*65536):=by simp only[B];grind
    have e2:B (n+1)*val (a.drop (n+1))=B n*(65536*val (a.drop (n+1))):=by simp only[B];grind
    rw[e1,e2]at h7;have e3:B n*((r*65536+dg a n)/d)*d+B n*((r*65536+dg a n)%d)=B n*(r*65536)+B n*dg a n:=by
     rw[zg1,<-ze0,<-ze0]
     congr 1
     rw[zf9 _ d];omega
    rw[Int.add_mul,ze0];omega)
  (by
   rintro⟨q,r⟩ _;unfold Fv;rfl) a.length (List.replicate a.length 0,0) ⟨za7 _,LB.zeros _,by simp,fun j _=>by
    unfold dg;rw[zb7,ze7];split<;>rfl,by omega,by simp only;omega,by simp[EX,val]⟩
 obtain⟨g1,g2,g3,g4,g5,g6,g7⟩:=h2;simp only[B,Int.one_mul,zf0]at g7;exact⟨q,r,h1,g2,g3,g5,g6,g7⟩
theorem Wr{n:Nat}{d:Int}(hd:1<=d/\d<=65536)(hn:(lim n).length<=10000000):Gv (lim n) d=some (lim (n/d.toNat),((n%d.toNat:Nat):Int)):=by
 obtain⟨q,r,h1,h2,h3,h4,h5,h6⟩:=UA (AE n) hd hn;rw[Ar]at h6;unfold Gv;rw[HZ (by unfold Ab;omega) (by unfold Ab;omega),Ae (by omega) (by omega)];simp only[za0,h1];rw[Yp (by unfold Ax;omega)];simp only[za0];rw[Cj h2];obtain⟨e1,e2⟩:=R9 h6 h4 h5;have hdn:d=(d.toNat:Int):=by omega
 have hv:=AP h2;have q1:(val q).toNat=n/d.toNat:=by
  have:val q=((n/d.toNat:Nat):Int):=by rw[e1,hdn];simp
  omega
 have q2:r=((n%d.toNat:Nat):Int):=by rw[e2,hdn];simp
 rw[q1,q2]
theorem AX6{n:Nat}{d:Int}(hd:1<=d/\d<=65535)(hn:(lim n).length<=10000000):J6 (lim n) d=some (lim (n/d.toNat),lim (n%d.toNat)):=by
 obtain⟨q,r,h1,h2,h3,h4,h5,h6⟩:=Xb (AE n) (show 1<=d/\d<=65536 by omega) hn;rw[Ar]at h6;unfold J6;rw[HZ (by unfold Ab;omega) (by unfold Ab;omega),Ae (by omega) (by omega)];simp only[za0,h1];rw[Gx (by unfold Ax;omega)];simp only[za0];rw[Gx (by unfold Ax;simp)];simp only[za0];rw[Cj h2,Cj (LB.cons (by omega) LB.nil)];obtain⟨e1,e2⟩:=R9 h6 h4 h5;have hdn:d=(d.toNat:Int):=by omega
 have hv:=AP h2;have q1:(val q).toNat=n/d.toNat:=by
  have:val q=((n/d.toNat:Nat):Int):=by rw[e1,hdn];simp
  omega
 have q2:(val [r]).toNat=n%d.toNat:=by
  have:r=((n%d.toNat:Nat):Int):=by rw[e2,hdn];simp
  simp only[val];omega
 rw[q1,q2]
end
section
open Go
section
variable {P v1 v2 vr top u2 ur q r v U:Int} (hP:0<P) (hv1:1<=v1) (hv1':v1<65536) (hv2:0<=v2/\v2<65536) (hvr:0<=vr/\vr<P) (hu2:0<=u2/\u2<65536) (hur:0<=ur/\ur<P)
 (hv:v=(v1*65536+v2)*P+vr) (hU:U=(top*65536+u2)*P+ur) (hq:q*v1+r=top) (hq0:0<=q)
include hP hv1 hv2 hvr hu2 hur hv hU hq hq0
theorem Xt(h:q*v2>r*65536+u2):U<q*v:=by
 have h1:q*(v1*65536+v2)=(q*v1)*65536+q*v2:=by grind
 have h2:top*65536+u2+1<=q*(v1*65536+v2):=by omega
 have h3:=za9 h2 (ze2 hP);have h4:0<=q*vr:=zf1 hq0 hvr.1;have h5:q*v=q*(v1*65536+v2)*P+q*vr:=by rw[hv];grind
 rw[Int.add_mul]at h3;omega
theorem YZ(hq1:q<65536)(h:q*v2<=r*65536+u2):q*v<U+v:=by
 have h1:q*(v1*65536+v2)=(q*v1)*65536+q*v2:=by grind
 have h2:q*(v1*65536+v2)<=top*65536+u2:=by omega
 have h3:=za9 h2 (ze2 hP);have h4:q*vr<=65535*P:=Int.le_trans (zb3 (ze2 hvr.2) hq0) (za9 (by omega) (ze2 hP));have h5:q*v=q*(v1*65536+v2)*P+q*vr:=by rw[hv];grind
 have h6:65536*P<=(v1*65536+v2)*P:=za9 (by omega) (ze2 hP);omega
theorem WK(hq1:q<65536)(h:65536<=r):q*v<=U:=by
 have h1:q*(v1*65536+v2)=(q*v1)*65536+q*v2:=by grind
 have h7:q*v2<=q*65535:=zb3 (by omega) hq0;have h2:q*(v1*65536+v2)+65536<=top*65536+u2:=by omega
 have h3:=za9 h2 (ze2 hP);have h4:q*vr<=65535*P:=Int.le_trans (zb3 (ze2 hvr.2) hq0) (za9 (by omega) (ze2 hP));have h5:q*v=q*(v1*65536+v2)*P+q*vr:=by rw[hv];grind
 rw[Int.add_mul]at h3;omega
end
theorem Ao0{P' v1 vt top ut v U Q:Int}(hP:0<P')(hv1:1<=v1)(hvt:0<=vt)(hut:ut<P')(hv:v=v1*P'+vt)(hU:U=top*P'+ut)(hQ:Q*v<=U)(hQ0:0<=Q):Q<=top/v1:=by
 rw[Int.le_ediv_iff_mul_le (by omega)];by_cases h:Q*v1<=top
 ·exact h
 ·exfalso
  have h1:top+1<=Q*v1:=by omega
  have h2:=za9 h1 (ze2 hP);have h3:0<=Q*vt:=zf1 hQ0 hvt;have h4:Q*v=Q*v1*P'+Q*vt:=by rw[hv];grind
  rw[Int.add_mul]at h2;omega
end
section
open Go
theorem AP6{x c:Int}(hx:x<65536)(hlo: -4294967296<=x)(hc:c=if x<0 then(-x+65536-1)/65536 else 0):
  0<=x+c*65536/\x+c*65536<65536/\0<=c/\c<=65536:=by
 subst hc
 split<;>omega
structure Off (u0 u:List Int) (j k:Nat) (c q:Int) (v:List Int):Prop where
 len:u.length=u0.length
 lb:LB u
 hi:∀i,j+k<=i->dg u i=dg u0 i
 c0:0<=c
 c1:c<=65536
 v:val u-B (j+k)*c=val u0-B j*(q*val (v.take k))
theorem Off.start{u0:List Int}(h:LB u0)(j:Nat)(q:Int)(v:List Int):Off u0 u0 j 0 0 q v:=⟨rfl,h,fun _ _=>rfl,by omega,by omega,by simp[val]⟩
theorem Off.next{u0 u:List Int}{j k:Nat}{c q:Int}{v:List Int}(h:Off u0 u j k c q v)(hv:LB v)(hq:0<=q/\q<65536)(hk:j+k<u.length){c':Int}(hc:c'=if dg u (j+k)-q*dg v k-c<0 then(-(dg u (j+k)-q*dg v k-c)+65536-1)/65536 else 0):
  Off u0 (u.set (j+k) (dg u (j+k)-q*dg v k-c+c'*65536)) j (k+1) c' q v:=by
 have du:=A7 h.lb (j+k);have dv:=A7 hv k;have m0:0<=q*dg v k:=zf1 hq.1 dv.1;have m1:q*dg v k<=65535*65535:=Int.le_trans (zb3 (show dg v k<=65535 by omega) hq.1) (za9 (show q<=65535 by omega) (by omega));have hc0:=h.c0;have hc1:=h.c1;obtain⟨s1,s2,s3,s4⟩:=AP6 (x:=dg u (j+k)-q*dg v k-c) (by omega) (by omega) hc;refine⟨by rw[List.length_set];exact h.len,h.lb.set ⟨s1,s2⟩,fun i hi=>by rw[BX (by omega)];exact h.hi i (by omega),s3,s4,?_⟩
 rw[FA (Al hk),AY,show j+(k+1)=j+k+1 by omega];have hv2:=h.v;have e1:B (j+k+1)*c'=B (j+k)*(c'*65536):=by simp only[B];grind
 have e2:B j*(q*(val (v.take k)+B k*dg v k))=B j*(q*val (v.take k))+B (j+k)*(q*dg v k):=by rw[Qd];grind
 have e3:B (j+k)*(dg u (j+k)-q*dg v k-c+c'*65536-dg u (j+k))=B (j+k)*(c'*65536)-B (j+k)*(q*dg v k)-B (j+k)*c:=by grind
 rw[e1,e2,e3];omega
theorem A45{u0 v out:List Int}{n by_ q:Int}{j:Nat}(hu:LB u0)(hv:LB v)(hq:0<=q/\q<65536)(hn:n=(v.length:Int))(hlen:j+v.length<u0.length)(hl:u0.length<=1000000):
  ∃u c,Ad (fun(s:((List Int)×((List Int)×((List Int)×(Int×(Int×(Int×(Int×(Int×(Int×Int))))))))))=>EG s.1 s.2.1 s.2.2.1 s.2.2.2.1 s.2.2.2.2.1 s.2.2.2.2.2.1 s.2.2.2.2.2.2.1 s.2.2.2.2.2.2.2.1 s.2.2.2.2.2.2.2.2.1 s.2.2.2.2.2.2.2.2.2) (u0,(v,(out,(n,(by_,((j:Int),(q,(0,(n,0)))))))))=
   some (u,(v,(out,(n,(by_,((j:Int),(q,c)))))))/\Off u0 u j v.length c q v:=by
 subst hn;obtain⟨⟨u,c⟩,h1,h2⟩:=Eo (body:=fun(s:((List Int)×((List Int)×((List Int)×(Int×(Int×(Int×(Int×(Int×(Int×Int))))))))))=>EG s.1 s.2.1 s.2.2.1 s.2.2.2.1 s.2.2.2.2.1 s.2.2.2.2.2.1 s.2.2.2.2.2.2.1 s.2.2.2.2.2.2.2.1 s.2.2.2.2.2.2.2.2.1 s.2.2.2.2.2.2.2.2.2)
  (st:=fun k (b:List Int×Int)=>(b.1,(v,(out,((v.length:Int),(by_,((j:Int),(q,(b.2,((v.length:Int),(k:Int))))))))))) (fin:=fun b=>(b.1,(v,(out,((v.length:Int),(by_,((j:Int),(q,b.2)))))))) (I:=fun k b=>Off u0 b.1 j k b.2 q v) (e:=v.length)
  (by
   rintro k ⟨u,c⟩ hk hI;simp only at hI;have hul:=hI.len;have hp:j+k<u.length:=by omega
   have du:=A7 hI.lb (j+k);have dv:=A7 hv k;have c0:=hI.c0;have c1:=hI.c1;have m0:0<=q*dg v k:=zf1 hq.1 dv.1;have m1:q*dg v k<=65535*65535:=Int.le_trans (zb3 (show dg v k<=65535 by omega) hq.1) (za9 (show q<=65535 by omega) (by omega));refine⟨(u.set (j+k) (dg u (j+k)-q*dg v k-c+(if dg u (j+k)-q*dg v k-c<0 then(-(dg u (j+k)-q*dg v k-c)+65536-1)/65536 else 0)*65536),if dg u (j+k)-q*dg v k-c<0 then(-(dg u (j+k)-q*dg v k-c)+65536-1)/65536 else 0),?_,hI.next hv hq hp rfl⟩
   unfold EG AX
   dsimp only
   have i1:A1 ((j:Int)+(k:Int)) u.length=some (j+k):=by rw[show(j:Int)+(k:Int)=((j+k:Nat):Int) by omega];exact A0 hp
   have hw1:=AJ (show k<4611686018427387904 by omega);have hjk:=Ae (n:=(j:Int)+(k:Int)) (by omega) (by omega);rw[zp (by omega),hjk];simp only[cond_true,i1,A0 hk,za0,Al hp,Al hk];rw[Ae (n:=q*dg v k) (by omega) (by omega),Ae (n:=dg u (j+k)-q*dg v k) (by omega) (by omega),Ae (n:=dg u (j+k)-q*dg v k-c) (by omega) (by omega)];have hxb: -4294967296<=dg u (j+k)-q*dg v k-c/\dg u (j+k)-q*dg v k-c<65536:=by omega
   generalize dg u (j+k)-q*dg v k-c=x at*
   by_cases hx:x<0
   ·rw[zp hx,zr hx,Ae (n:=0-x) (by omega) (by omega),Ae (n:=0-x+65536) (by omega) (by omega),Ae (n:=0-x+65536-1) (by omega) (by omega),zc5 (by omega),show 0-x+65536-1= -x+65536-1 by omega];rw[Ae (n:=(-x+65536-1)/65536) (by omega) (by omega),Ae (n:=(-x+65536-1)/65536*65536) (by omega) (by omega),Ae (n:=x+(-x+65536-1)/65536*65536) (by omega) (by omega)];simp only[cond_true,za0,za8,hjk,i1,Al hp,hw1]
   ·rw[zq hx,zw hx];simp only[cond_false,za0,za8,hjk,i1,Al hp,hw1,Int.zero_mul,Int.add_zero])
  (by
   rintro⟨u,c⟩ _;unfold EG
   dsimp only
   rw[zq (Int.lt_irrefl _)];rfl) 0 (u0,0) (by omega) (Off.start hu j q v)
 exact⟨u,c,h1,h2⟩
structure Back (u0 u:List Int) (j k:Nat) (c:Int) (v:List Int):Prop where
 len:u.length=u0.length
 lb:∀i,i<j+v.length->0<=dg u i/\dg u i<65536
 hi:∀i,j+k<=i->dg u i=dg u0 i
 c0:0<=c
 c1:c<65536
 v:val u+B (j+k)*c=val u0+B j*val (v.take k)
theorem Aw6{l:List Int}{k j:Nat}{x:Int}(hk:k<l.length):dg (l.set k x) j=if j=k then x else dg l j:=by
 split
 ·rename_i h;subst h;exact FE (by rw[List.getElem?_set_self hk])
 ·rename_i h;exact BX (fun hh=>h hh.symm)
theorem Back.next{u0 u:List Int}{j k:Nat}{c:Int}{v:List Int}(h:Back u0 u j k c v)(hv:LB v)(hkv:k<v.length)(hk:j+k<u.length):
  Back u0 (u.set (j+k) ((dg u (j+k)+dg v k+c)%65536)) j (k+1) ((dg u (j+k)+dg v k+c)/65536) v:=by
 have du:=h.lb (j+k) (by omega);have dv:=A7 hv k;have c0:=h.c0;have c1:=h.c1;refine⟨by rw[List.length_set];exact h.len,fun i hi=> ?_,fun i hi=>by rw[BX (by omega)];exact h.hi i (by omega),by omega,by omega,?_⟩
 ·rw[Aw6 hk]
  split
  ·omega
  ·exact h.lb i hi
 ·have:=Ak2 (out:=u) (p:=j+k) (o:=dg u (j+k)) (d:=(dg u (j+k)+dg v k+c)%65536) (c:=c) (c':=(dg u (j+k)+dg v k+c)/65536) (t:=dg v k) (V:=val u0+B j*val (v.take k)) (Al hk) (by omega) h.v;rw[show j+(k+1)=j+k+1 by omega,this,AY,ze0];have:B (j+k)*dg v k=B j*(B k*dg v k):=by rw[Qd];grind
  omega
theorem A48{u0 v out:List Int}{n by_ q:Int}{j:Nat}(hu:∀i,i<j+v.length->0<=dg u0 i/\dg u0 i<65536)(hv:LB v)(hn:n=(v.length:Int))(hlen:j+v.length<u0.length)(hl:u0.length<=1000000):
  ∃u c,Ad (fun(s:((List Int)×((List Int)×((List Int)×(Int×(Int×(Int×(Int×(Int×(Int×Int))))))))))=>EE s.1 s.2.1 s.2.2.1 s.2.2.2.1 s.2.2.2.2.1 s.2.2.2.2.2.1 s.2.2.2.2.2.2.1 s.2.2.2.2.2.2.2.1 s.2.2.2.2.2.2.2.2.1 s.2.2.2.2.2.2.2.2.2) (u0,(v,(out,(n,(by_,((j:Int),(q,(0,(n,0)))))))))=
   some (u,(v,(out,(n,(by_,((j:Int),(q,c)))))))/\Back u0 u j v.length c v:=by
 subst hn;obtain⟨⟨u,c⟩,h1,h2⟩:=Eo (body:=fun(s:((List Int)×((List Int)×((List Int)×(Int×(Int×(Int×(Int×(Int×(Int×Int))))))))))=>EE s.1 s.2.1 s.2.2.1 s.2.2.2.1 s.2.2.2.2.1 s.2.2.2.2.2.1 s.2.2.2.2.2.2.1 s.2.2.2.2.2.2.2.1 s.2.2.2.2.2.2.2.2.1 s.2.2.2.2.2.2.2.2.2)
  (st:=fun k (b:List Int×Int)=>(b.1,(v,(out,((v.length:Int),(by_,((j:Int),(q,(b.2,((v.length:Int),(k:Int))))))))))) (fin:=fun b=>(b.1,(v,(out,((v.length:Int),(by_,((j:Int),(q,b.2)))))))) (I:=fun k b=>Back u0 b.1 j k b.2 v) (e:=v.length)
  (by
   rintro k ⟨u,c⟩ hk hI;simp only at hI;have hul:=hI.len;have hp:j+k<u.length:=by omega
   have du:=hI.lb (j+k) (by omega);have dv:=A7 hv k;have c0:=hI.c0;have c1:=hI.c1;refine⟨(u.set (j+k) ((dg u (j+k)+dg v k+c)%65536),(dg u (j+k)+dg v k+c)/65536),?_,hI.next hv hk hp⟩
   unfold EE AX
   dsimp only
   have i1:A1 ((j:Int)+(k:Int)) u.length=some (j+k):=by rw[show(j:Int)+(k:Int)=((j+k:Nat):Int) by omega];exact A0 hp
   have hw1:=AJ (show k<4611686018427387904 by omega);have hjk:=Ae (n:=(j:Int)+(k:Int)) (by omega) (by omega);rw[zp (by omega),hjk];simp only[cond_true,i1,A0 hk,za0,Al hp,Al hk];rw[Ae (n:=dg u (j+k)+dg v k) (by omega) (by omega),Ae (n:=c+(dg u (j+k)+dg v k)) (by omega) (by omega),show c+(dg u (j+k)+dg v k)=dg u (j+k)+dg v k+c by omega,zc6 (by omega),zc5 (by omega),Ae (n:=(dg u (j+k)+dg v k+c)/65536) (by omega) (by omega),hw1])
  (by
   rintro⟨u,c⟩ _;unfold EE
   dsimp only
   rw[zq (Int.lt_irrefl _)];rfl) 0 (u0,0) (by omega) ⟨rfl,hu,fun _ _=>rfl,by simp only;omega,by simp only;omega,by simp[val]⟩
 exact⟨u,c,h1,h2⟩
structure Guess (P v1 v2 vr top u2 ur V U Q:Int):Prop where
 hP:0<P
 hv1:1<=v1
 hv1':v1<65536
 hv2:0<=v2/\v2<65536
 hvr:0<=vr/\vr<P
 hu2:0<=u2/\u2<65536
 hur:0<=ur/\ur<P
 hV:V=(v1*65536+v2)*P+vr
 hU:U=(top*65536+u2)*P+ur
 htop:0<=top/\top<4294967296
 hQ:Q*V<=U
 hQ0:0<=Q
 hQ1:Q<65536
 hV0:0<V
theorem A3H{u v out:List Int}{n by_:Int}{j m:Nat}{P v1 v2 vr top u2 ur V U Q:Int}(G:Guess P v1 v2 vr top u2 ur V U Q)(hn:n=((m+2:Nat):Int))(hm:m<=1000000)(hj:j<=1000000)
  (hv:v.length=m+2) (e1:dg v (m+1)=v1) (e2:dg v m=v2) (hu:j+m<u.length) (e3:dg u (j+m)=u2) {q0 r0:Int} (h0:q0*v1+r0=top) (hr0:0<=r0) (hq0:Q<=q0) (hq4:q0<4294967296):
  ∃q,Ad (fun(s:((List Int)×((List Int)×((List Int)×(Int×(Int×(Int×(Int×Int))))))))=>CY s.1 s.2.1 s.2.2.1 s.2.2.2.1 s.2.2.2.2.1 s.2.2.2.2.2.1 s.2.2.2.2.2.2.1 s.2.2.2.2.2.2.2) (u,(v,(out,(n,(by_,((j:Int),(q0,r0)))))))=some (u,(v,(out,(n,(by_,((j:Int),q))))))/\Q<=q/\q<65536/\q*V<U+V:=by
 subst hn;obtain⟨r,h1,q,rfl,h2⟩:=HN (f:=fun(s:((List Int)×((List Int)×((List Int)×(Int×(Int×(Int×(Int×Int))))))))=>CY s.1 s.2.1 s.2.2.1 s.2.2.2.1 s.2.2.2.2.1 s.2.2.2.2.2.1 s.2.2.2.2.2.2.1 s.2.2.2.2.2.2.2)
  (I:=fun s=>∃q r:Int,s=(u,(v,(out,(((m+2:Nat):Int),(by_,((j:Int),(q,r)))))))/\q*v1+r=top/\0<=r/\Q<=q/\q<4294967296)
  (R:=fun s=>∃q:Int,s=(u,(v,(out,(((m+2:Nat):Int),(by_,((j:Int),q))))))/\Q<=q/\q<65536/\q*V<U+V) (fun s=>s.2.2.2.2.2.2.1.toNat) (by
   rintro s ⟨q,r,rfl,g1,g2,g3,g4⟩;simp only;have hQ0:=G.hQ0;have hQ1:=G.hQ1;have hv1:=G.hv1;have hv1':=G.hv1';have hv2:=G.hv2;have hu2:=G.hu2;have htop:=G.htop;have hqv:0<=q*v1:=zf1 (by omega) (by omega);have hqv2:0<=q*v2:=zf1 (by omega) hv2.1;have hqv2':q*v2<=4294967296*65536:=Int.le_trans (zb3 (show v2<=65536 by omega) (by omega)) (za9 (show q<=4294967296 by omega) (by omega));have iv1:A1 (((m+2:Nat):Int)-1) v.length=some (m+1):=by rw[show((m+2:Nat):Int)-1=((m+1:Nat):Int) by omega];exact A0 (by omega)
   have iv2:A1 (((m+2:Nat):Int)-2) v.length=some m:=by rw[show((m+2:Nat):Int)-2=((m:Nat):Int) by omega];exact A0 (by omega)
   have iu:A1 ((j:Int)+((m+2:Nat):Int)-2) u.length=some (j+m):=by rw[show(j:Int)+((m+2:Nat):Int)-2=((j+m:Nat):Int) by omega];exact A0 (by omega)
   have w1:=Ae (n:=((m+2:Nat):Int)-1) (by omega) (by omega);have w2:=Ae (n:=((m+2:Nat):Int)-2) (by omega) (by omega);have w3:=Ae (n:=(j:Int)+((m+2:Nat):Int)) (by omega) (by omega);have w4:=Ae (n:=(j:Int)+((m+2:Nat):Int)-2) (by omega) (by omega);have w5:=Ae (n:=q*v2) (by omega) (by omega);have w6:=Ae (n:=r*65536) (by omega) (by omega);have w7:=Ae (n:=r*65536+u2) (by omega) (by omega);have w8:=Ae (n:=q-1) (by omega) (by omega);have w9:=Ae (n:=r+v1) (by omega) (by omega)
   have less:∀(hgo:Q<=q-1),∃q' r':Int,(u,(v,(out,(((m+2:Nat):Int),(by_,((j:Int),(q-1,r+v1)))))))=(u,(v,(out,(((m+2:Nat):Int),(by_,((j:Int),(q',r')))))))/\q'*v1+r'=top/\0<=r'/\Q<=q'/\q'<4294967296:=by
    intro hgo;exact⟨q-1,r+v1,rfl,by rw[Int.sub_mul];omega,by omega,hgo,by omega⟩
   by_cases c1:q>=65536
   ·refine .inl ⟨(u,(v,(out,(((m+2:Nat):Int),(by_,((j:Int),(q-1,r+v1))))))),?_,less (by omega),by simp only;omega⟩
    unfold CY AX;rw[zp c1];simp only[cond_true,za0,za8,w1,iv1,Al (show m+1<v.length by omega),e1,w8,w9]
   ·by_cases c2:r<65536
    ·by_cases c3:q*v2>r*65536+u2
     ·have hlt:=Xt G.hP G.hv1 G.hv2 G.hvr G.hu2 G.hur G.hV G.hU g1 (by omega) c3;have hne:Q<=q-1:=by
       rcases Int.lt_or_le (q-1) Q with h|h
       ·have:q=Q:=by omega
        subst this;have:=G.hQ;omega
       ·exact h
      refine .inl ⟨(u,(v,(out,(((m+2:Nat):Int),(by_,((j:Int),(q-1,r+v1))))))),?_,less hne,by simp only;omega⟩
      unfold CY AX;rw[zq c1,zp c2];simp only[cond_true,cond_false,za0,w2,iv2,Al (show m<v.length by omega),e2,w3,w4,iu,Al hu,e3,w5,w6,w7,zp c3,za8,w1,iv1,Al (show m+1<v.length by omega),e1,w8,w9]
     ·refine .inr ⟨_,?_,q,rfl,g3,by omega,YZ G.hP G.hv1 G.hv2 G.hvr G.hu2 G.hur G.hV G.hU g1 (by omega) (by omega) (by omega)⟩
      unfold CY AX;rw[zq c1,zp c2];simp only[cond_true,cond_false,za0,w2,iv2,Al (show m<v.length by omega),e2,w3,w4,iu,Al hu,e3,w5,w6,w7,zq c3,Sum.elim_inl]
    ·have hle:=WK G.hP G.hv1 G.hv2 G.hvr G.hu2 G.hur G.hV G.hU g1 (by omega) (by omega) (by omega);have hV0:=G.hV0;refine .inr ⟨_,?_,q,rfl,g3,by omega,by omega⟩
     unfold CY AX;rw[zq c1,zq c2];rfl) (u,(v,(out,(((m+2:Nat):Int),(by_,((j:Int),(q0,r0))))))) ⟨q0,r0,rfl,h0,hr0,hq0,hq4⟩
 exact⟨q,h1,h2⟩
end
end Go.Proofs.YtiijheppiboglaaGreatDoor.Ev
