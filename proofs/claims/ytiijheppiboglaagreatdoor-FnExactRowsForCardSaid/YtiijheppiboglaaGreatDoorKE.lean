/- What the theorem of this claim leans on, part 5. -/
import Derived.Test.YtiijheppiboglaaGreatDoorKD
import Derived.Test.YtiijheppiboglaaGreatDoorProg
import Derived.KernelRfl
import Derived.Lib.ItoaNum
import Derived.Lib.ItoaLen
import Derived.Lib.AtoiAll
import Derived.Lib.Split
import Derived.Lib.SplitLaws
import Derived.Lib.IndexMore
import Derived.Lib.Join
set_option maxHeartbeats 2000000
open Option renaming bind_some → za0, map_eq_some_iff → zb6, map_some → zd9
open List renaming getElem?_eq_getElem → za1, getElem?_eq_some_iff → za3, mem_of_getElem? → za4, all_eq_true → za5, drop_eq_getElem_cons → zb0, mem_flatMap → zb1, mem_append → zb3, eq_nil_of_length_eq_zero → zb4, flatMap_cons → zb5, getD_eq_getElem?_getD → zb7, length_cons → zb8, map_cons → zb9, getElem?_take → zc0, take_of_length_le → zc4, length_append → zc7, mem_cons → zc8, getElem?_map → zc9, all_cons → zd0, length_map → zd1, length_pos_iff → zd2, getElem?_drop → zd3, mem_map → zd4, drop_eq_nil_of_le → zd5, mem_singleton → zd8, append_nil → ze5, length_nil → ze7, drop_zero → ze8
open Bool renaming and_eq_true → za2, false_eq_true → zc3, true_and → ze2
open Nat renaming eq_of_beq_eq_true → za6, le_refl → za7, mul_le_mul_right → zd6, lt_of_lt_of_le → zd7, lt_or_ge → ze0, zero_add → ze4, le_trans → ze6, add_mul → zf1
open Sum renaming elim_inr → za8
open Int renaming mul_le_mul_of_nonneg_right → za9, mul_le_mul_of_nonneg_left → zb2, tdiv_eq_ediv_of_nonneg → zc1, toNat_natCast → zc5, tmod_eq_emod_of_nonneg → zc6, mul_add → ze1, le_of_lt → ze3, mul_nonneg → ze9, natCast_mul → zf0
open Array renaming getD_eq_getD_getElem? → zc2
set_option linter.unusedVariables false
set_option linter.unusedSimpArgs false
set_option linter.unusedSectionVars false
namespace Go.Proofs.YtiijheppiboglaaGreatDoor.Ev
noncomputable section
open Go
set_option maxRecDepth 100000
def PT:Ent:=⟨Kp,fun x=>D7 x.1 x.2⟩
theorem Zu:Ai RR PT:=fnDq (l:=[SE,Yj]) ⟨⟨An6,rfl⟩,⟨⟨AO4,rfl⟩,trivial⟩⟩ (by kernel_rfl) ⟨Tryz.func38,rfl,by kernel_rfl,rfl⟩ (fun _=>by kernel_rfl)
def DH (s0:Tq3) (s1:(List Int)) (s2:Int) (s3:Int):Option ((Tq3×Tq10) ⊕ Tq3) :=
 bif decide (s3<s2) then
  ((AP s1 s3)).bind fun x0 =>
  bif decide ((((List.length s0):Nat):Int)>(0:Int)) then
   ((A2 (IntKind.wrap .i64 ((((List.length s0):Nat):Int)-(1:Int))) (List.length s0))).bind fun x1 =>
   ((AV s0 x1)).bind fun x2 =>
   bif (x2.1==x0) then
    ((A2 (IntKind.wrap .i64 ((((List.length s0):Nat):Int)-(1:Int))) (List.length s0))).bind fun x3 =>
    ((AV s0 x3)).bind fun x4 =>
    ((A2 (IntKind.wrap .i64 ((((List.length s0):Nat):Int)-(1:Int))) (List.length s0))).bind fun x5 =>
    ((AV s0 x5)).bind fun x6 =>
    some (Sum.inl ((List.set s0 x5 (x6.1,(IntKind.wrap .i64 (x4.2 + (1:Int))))),(s1,(s2,(IntKind.wrap .i64 (s3 + (1:Int)))))))
   else
   ((Ct 16 2 s0 (List.cons (x0,(1:Int)) (List.nil:List (Int×Int))))).bind fun x7 =>
   some (Sum.inl (x7,(s1,(s2,(IntKind.wrap .i64 (s3 + (1:Int)))))))
  else
  ((Ct 16 2 s0 (List.cons (x0,(1:Int)) (List.nil:List (Int×Int))))).bind fun x8 =>
  some (Sum.inl (x8,(s1,(s2,(IntKind.wrap .i64 (s3 + (1:Int)))))))
 else
 some (Sum.inr s0)
def GY (a0:(List Int)):Option Tq23 :=
 (Ah (fun (s:(Tq3×Tq10))=>DH s.1 s.2.1 s.2.2.1 s.2.2.2) ((List.nil:List (Int×Int)),(a0,((((List.length a0):Nat):Int),(0:Int))))).bind fun x0 =>
 some x0
def Yb:Ent:=⟨Pw,fun x=>GY x⟩
theorem AK2:Ai RR Yb:=fnDq (l:=[]) trivial (by kernel_rfl) ⟨Tryz.func111,rfl,by kernel_rfl,rfl⟩ (fun _=>by kernel_rfl)
def WS (self:(Int)->Option (List UInt8)) (a0:Int):Option (List UInt8) :=
 bif decide (a0<(10:Int)) then
  some (Mc (List.cons (Go.IntKind.wrap Go.IntKind.u8 (IntKind.wrap .i64 ((48:Int) + a0))) (List.nil:List Int)))
 else
 ((self (IntKind.wrap .i64 (Int.tdiv a0 (10:Int))))).bind fun x0 =>
 ((WQ x0 (Mc (List.cons (Go.IntKind.wrap Go.IntKind.u8 (IntKind.wrap .i64 ((48:Int) + (Int.tmod a0 (10:Int))))) (List.nil:List Int))))).bind fun x1 =>
 some x1
def Il:Nat->(Int)->Option (List UInt8)
 | 0=>fun _=>none
 | n + 1=>WS (Il n)
def As3 (self:(Int)->Option (List UInt8)):Ent:=⟨RK,fun x=>self x⟩
def AC4 (self:(Int)->Option (List UInt8)):TX:=⟨Ak,Af,[],[4],[As3 self],RK⟩
theorem A7j (self:(Int)->Option (List UInt8)) (a0:Int):wtF (AC4 self) Tryz.f163 (a0)=WS self a0:=by kernel_rfl
theorem Y8:∀ n,Ai RR (As3 (Il n))
 | 0=>fun x y _ _ _ h=>by cases h
 | n + 1=>Aa (X:=AC4 (Il n)) ⟨Ay,Ae,Az⟩ (Ab (by exact ⟨⟨Y8 n,rfl⟩,trivial⟩)) (Al (by kernel_rfl)) ⟨Tryz.func163,rfl,by kernel_rfl,rfl⟩ (fun x=>by exact A7j (Il n) x)
def Ke (a0:Int):Option (List UInt8):=Il (a0.toNat + 1) a0
def Az1:Ent:=⟨RK,fun x=>Ke x⟩
theorem A2M:Ai RR Az1:=fun x=>Y8 _ x
def Ge (s0:(List UInt8)) (s1:Tq3) (s2:Int) (s3:Int):Option (((List UInt8)×Tq24) ⊕ (List UInt8)) :=
 bif decide (s3<s2) then
  ((AP s1 s3)).bind fun x0 =>
  (bif decide (s3>(0:Int)) then
    ((WQ s0 (List.cons 44 (List.nil:List UInt8)))).bind fun x1 =>
    some (Sum.inr ((x0.1,x0.2),(x1,(s1,(s2,s3)))))
   else
   some (Sum.inr ((x0.1,x0.2),(s0,(s1,(s2,s3)))))).bind fun x2 =>
  Sum.elim
   (fun x3 =>
   some x3)
   (fun x4 =>
   ((Ke x4.1.2)).bind fun x5 =>
   ((WQ x5 (List.cons 120 (List.nil:List UInt8)))).bind fun x6 =>
   ((Ke x4.1.1)).bind fun x7 =>
   ((WQ x6 x7)).bind fun x8 =>
   ((WQ x4.2.1 x8)).bind fun x9 =>
   some (Sum.inl (x9,(x4.2.2.1,(x4.2.2.2.1,(IntKind.wrap .i64 (x4.2.2.2.2 + (1:Int))))))))
   x2
 else
 some (Sum.inr s0)
def I6 (a0:Tq3):Option (List UInt8) :=
 (Ah (fun (s:((List UInt8)×Tq24))=>Ge s.1 s.2.1 s.2.2.1 s.2.2.2) ((List.nil:List UInt8),(a0,((((List.length a0):Nat):Int),(0:Int))))).bind fun x0 =>
 some x0
def X0:Ent:=⟨P1,fun x=>I6 x⟩
theorem AR9:Ai RR X0:=fnDq (l:=[Az1]) ⟨⟨A2M,rfl⟩,trivial⟩ (by kernel_rfl) ⟨Tryz.func110,rfl,by kernel_rfl,rfl⟩ (fun _=>by kernel_rfl)
def C0 (s0:Tq2) (s1:(List Int)) (s2:Tq9) (s3:Int):Option ((Tq2×((List Int)×(Tq9×Int))) ⊕ Tq9) :=
 bif decide (s3<s0.2.2.2) then
  ((JL (IntKind.wrap .i64 (s3*s0.2.2.1)) (IntKind.wrap .i64 ((IntKind.wrap .i64 (s3 + (1:Int)))*s0.2.2.1)) (List.length s1))).bind fun x0 =>
  ((GY (List.drop x0.1 (List.take (x0.1 + (x0.2-x0.1)) s1)))).bind fun x1 =>
  ((I6 x1)).bind fun x2 =>
  ((Ct 16 1 s2 (List.cons x2 (List.nil:List (List UInt8))))).bind fun x3 =>
  some (Sum.inl ((s0.1,(s0.2.1,(s0.2.2.1,s0.2.2.2))),(s1,(x3,(IntKind.wrap .i64 (s3 + (1:Int)))))))
 else
 some (Sum.inr s2)
def IZ (a0:(List UInt8)) (a1:Tq2):Option (List (List UInt8)×Bool) :=
 ((D7 a0 (a1.1,(a1.2.1,(a1.2.2.1,a1.2.2.2))))).bind fun x0 =>
 bif (!x0.2) then
  some ((List.nil:List (List UInt8)),false)
 else
 (Ah (fun (s:(Tq2×((List Int)×(Tq9×Int))))=>C0 s.1 s.2.1 s.2.2.1 s.2.2.2) ((a1.1,(a1.2.1,(a1.2.2.1,a1.2.2.2))),(x0.1,((List.nil:List (List UInt8)),(0:Int))))).bind fun x1 =>
 some (x1,true)
def YD:Ent:=⟨Pq,fun x=>IZ x.1 x.2⟩
theorem AN2:Ai RR YD:=fnDq (l:=[PT,Yb,X0]) ⟨⟨Zu,rfl⟩,⟨⟨AK2,rfl⟩,⟨⟨AR9,rfl⟩,trivial⟩⟩⟩ (by kernel_rfl) ⟨Tryz.func44,rfl,by kernel_rfl,rfl⟩ (fun _=>by kernel_rfl)
def Bm (a0:Int) (a1:Int) (a2:Int):Option (Bool) :=
 bif decide (a0>=a1) then
  some (decide (a0<=a2))
 else
 some false
def Iz:Ent:=⟨SQ,fun x=>Bm x.1 x.2.1 x.2.2⟩
theorem I4:Ai RR Iz:=fnDq (l:=[]) trivial (by kernel_rfl) ⟨Tryz.func85,rfl,by kernel_rfl,rfl⟩ (fun _=>by kernel_rfl)
def JC (a0:List UInt8) (a1:List UInt8):Option Tq9:=Ru a0 a1
def Pc:Ent:=⟨OV,fun x=>JC x.1 x.2⟩
theorem WE:Ai RR Pc:=A67 fun _ _ _ _ _ h=>Or.inr (Or.inl h)
def Ba (s0:Tq9) (s1:(List UInt8)) (s2:Int) (s3:Int):Option ((Tq9×Tq26) ⊕ (Unit ⊕ Int)) :=
 bif decide (s3<s2) then
  ((AP s0 s3)).bind fun x0 =>
  bif (s1==x0) then
   some (Sum.inr (Sum.inr s3))
  else
  some (Sum.inl (s0,(s1,(s2,(IntKind.wrap .i64 (s3 + (1:Int)))))))
 else
 some (Sum.inr (Sum.inl ()))
def BM (a0:Tq9) (a1:(List UInt8)):Option (Int) :=
 (Ah (fun (s:(Tq9×Tq26))=>Ba s.1 s.2.1 s.2.2.1 s.2.2.2) (a0,(a1,((((List.length a0):Nat):Int),(0:Int))))).bind fun x0 =>
 Sum.elim
  (fun x1 =>
  some (-(1:Int)))
  (fun x2 =>
  some x2)
  x0
def Ei:Ent:=⟨CI,fun x=>BM x.1 x.2⟩
theorem Io:Ai RR Ei:=fnDq (l:=[]) trivial (by kernel_rfl) ⟨Tryz.func259,rfl,by kernel_rfl,rfl⟩ (fun _=>by kernel_rfl)
def A8 (a0:Tq9) (a1:(List UInt8)):Option (Bool) :=
 ((BM a0 a1)).bind fun x0 =>
 some (decide (x0>=(0:Int)))
def DE:Ent:=⟨Cb,fun x=>A8 x.1 x.2⟩
theorem Hj:Ai RR DE:=fnDq (l:=[Ei]) ⟨⟨Io,rfl⟩,trivial⟩ (by kernel_rfl) ⟨Tryz.func208,rfl,by kernel_rfl,rfl⟩ (fun _=>by kernel_rfl)
def Bq (a0:Tq21) (a1:(List Tq3)) (a2:Tq3) (a3:(List UInt8)):Option ((List (List UInt8)×Int×Bool)×List Tq23×List ((Int×Int))×Int) :=
 ((A8 (List.cons (List.cons 77 (List.nil:List UInt8)) (List.cons (List.cons 76 (List.nil:List UInt8)) (List.cons (List.cons 108 (List.nil:List UInt8)) (List.cons (List.cons 72 (List.nil:List UInt8)) (List.cons (List.cons 86 (List.nil:List UInt8)) (List.cons (List.cons 104 (List.nil:List UInt8)) (List.cons (List.cons 118 (List.nil:List UInt8)) (List.cons (List.cons 90 (List.nil:List UInt8)) (List.nil:List (List UInt8)))))))))) a3)).bind fun x0 =>
 bif (!x0) then
  some ((a0.1,(a0.2.1,a0.2.2)),(a1,(a2,(2:Int))))
 else
 bif ((a3==(List.cons 77 (List.nil:List UInt8)))==a0.2.2) then
  some ((a0.1,(a0.2.1,a0.2.2)),(a1,(a2,(4:Int))))
 else
 bif (a3==(List.cons 77 (List.nil:List UInt8))) then
  bif ((((List.length a1):Nat):Int)==(4:Int)) then
   bif ((((List.length a1):Nat):Int)==(4:Int)) then
    some ((a0.1,(a0.2.1,a0.2.2)),(a1,(a2,(5:Int))))
   else
   some ((a0.1,(a0.2.1,a0.2.2)),(a1,(a2,(0:Int))))
  else
  bif (a3==(List.cons 90 (List.nil:List UInt8))) then
   bif decide ((((List.length a2):Nat):Int)<(3:Int)) then
    bif decide ((((List.length a2):Nat):Int)<(3:Int)) then
     some ((a0.1,(a0.2.1,a0.2.2)),(a1,(a2,(5:Int))))
    else
    some ((a0.1,(a0.2.1,a0.2.2)),(a1,(a2,(0:Int))))
   else
   bif (!(a3==(List.cons 77 (List.nil:List UInt8)))) then
    bif (!(a3==(List.cons 90 (List.nil:List UInt8)))) then
     bif ((((List.length a2):Nat):Int)==(12:Int)) then
      some ((a0.1,(a0.2.1,a0.2.2)),(a1,(a2,(5:Int))))
     else
     some ((a0.1,(a0.2.1,a0.2.2)),(a1,(a2,(0:Int))))
    else
    some ((a0.1,(a0.2.1,a0.2.2)),(a1,(a2,(0:Int))))
   else
   some ((a0.1,(a0.2.1,a0.2.2)),(a1,(a2,(0:Int))))
  else
  bif (!(a3==(List.cons 77 (List.nil:List UInt8)))) then
   bif (!(a3==(List.cons 90 (List.nil:List UInt8)))) then
    bif ((((List.length a2):Nat):Int)==(12:Int)) then
     some ((a0.1,(a0.2.1,a0.2.2)),(a1,(a2,(5:Int))))
    else
    some ((a0.1,(a0.2.1,a0.2.2)),(a1,(a2,(0:Int))))
   else
   some ((a0.1,(a0.2.1,a0.2.2)),(a1,(a2,(0:Int))))
  else
  some ((a0.1,(a0.2.1,a0.2.2)),(a1,(a2,(0:Int))))
 else
 bif (a3==(List.cons 90 (List.nil:List UInt8))) then
  bif decide ((((List.length a2):Nat):Int)<(3:Int)) then
   bif decide ((((List.length a2):Nat):Int)<(3:Int)) then
    some ((a0.1,(a0.2.1,a0.2.2)),(a1,(a2,(5:Int))))
   else
   some ((a0.1,(a0.2.1,a0.2.2)),(a1,(a2,(0:Int))))
  else
  bif (!(a3==(List.cons 77 (List.nil:List UInt8)))) then
   bif (!(a3==(List.cons 90 (List.nil:List UInt8)))) then
    bif ((((List.length a2):Nat):Int)==(12:Int)) then
     some ((a0.1,(a0.2.1,a0.2.2)),(a1,(a2,(5:Int))))
    else
    some ((a0.1,(a0.2.1,a0.2.2)),(a1,(a2,(0:Int))))
   else
   some ((a0.1,(a0.2.1,a0.2.2)),(a1,(a2,(0:Int))))
  else
  some ((a0.1,(a0.2.1,a0.2.2)),(a1,(a2,(0:Int))))
 else
 bif (!(a3==(List.cons 77 (List.nil:List UInt8)))) then
  bif (!(a3==(List.cons 90 (List.nil:List UInt8)))) then
   bif ((((List.length a2):Nat):Int)==(12:Int)) then
    some ((a0.1,(a0.2.1,a0.2.2)),(a1,(a2,(5:Int))))
   else
   some ((a0.1,(a0.2.1,a0.2.2)),(a1,(a2,(0:Int))))
  else
  some ((a0.1,(a0.2.1,a0.2.2)),(a1,(a2,(0:Int))))
 else
 some ((a0.1,(a0.2.1,a0.2.2)),(a1,(a2,(0:Int))))
def PW:Ent:=⟨K1,fun x=>Bq x.1 x.2.1 x.2.2.1 x.2.2.2⟩
theorem ZQ:Ai RR PW:=fnDq (l:=[DE]) ⟨⟨Hj,rfl⟩,trivial⟩ (by kernel_rfl) ⟨Tryz.func154,rfl,by kernel_rfl,rfl⟩ (fun _=>by kernel_rfl)
def Em (a0:List UInt8) (a1:List UInt8):Option (Bool):=Lb a0 a1
def KN:Ent:=⟨KA,fun x=>Em x.1 x.2⟩
theorem R9:Ai RR KN:=AU4 fun _ _ _ _ _ h=>Or.inr (Or.inr (Or.inl h))
def Le (a0:List UInt8):Option (Int×Bool):=Ar1 a0
def PL:Ent:=⟨PG,fun x=>Le x⟩
theorem ZR:Ai RR PL:=A8W fun _ _ _ _ _ h=>Or.inr (Or.inr (Or.inr (Or.inl h)))
def Hn (a0:Int):Option (Bool) :=
 ((Bm a0 (-(9999:Int)) (9999:Int))).bind fun x0 =>
 some x0
def V4:Ent:=⟨N7,fun x=>Hn x⟩
theorem Aw7:Ai RR V4:=fnDq (l:=[Iz]) ⟨⟨I4,rfl⟩,trivial⟩ (by kernel_rfl) ⟨Tryz.func98,rfl,by kernel_rfl,rfl⟩ (fun _=>by kernel_rfl)
def D1 (a0:Int):Option (List UInt8):=Ar9 a0
def Ko:Ent:=⟨P6,fun x=>D1 x⟩
theorem OZ:Ai RR Ko:=A8o fun _ _ _ _ _ h=>Or.inr (Or.inr (Or.inr (Or.inr (Or.inl h))))
def Fm (a0:(List UInt8)):Option (Int×Bool) :=
 ((Le a0)).bind fun x0 =>
 bif x0.2 then
  some ((0:Int),false)
 else
 ((Hn x0.1)).bind fun x1 =>
 bif (!x1) then
  some ((0:Int),false)
 else
 ((D1 x0.1)).bind fun x2 =>
 bif (!(x2==a0)) then
  some ((0:Int),false)
 else
 some (x0.1,true)
def Q6:Ent:=⟨KF,fun x=>Fm x⟩
theorem Zw:Ai RR Q6:=fnDq (l:=[PL,V4,Ko]) ⟨⟨ZR,rfl⟩,⟨⟨Aw7,rfl⟩,⟨⟨OZ,rfl⟩,trivial⟩⟩⟩ (by kernel_rfl) ⟨Tryz.func30,rfl,by kernel_rfl,rfl⟩ (fun _=>by kernel_rfl)
def EK (a0:Tq21) (a1:(List Tq3)) (a2:Tq3):Option ((List (List UInt8)×Int×Bool)×List Tq23×List ((Int×Int))×Int×Bool) :=
 bif (a0.2.1==(((List.length a0.1):Nat):Int)) then
  some ((a0.1,(a0.2.1,a0.2.2)),(a1,(a2,((0:Int),false))))
 else
 ((AP a0.1 a0.2.1)).bind fun x0 =>
 ((Fm x0)).bind fun x1 =>
 bif x1.2 then
  some ((a0.1,((IntKind.wrap .i64 (a0.2.1 + (1:Int))),a0.2.2)),(a1,(a2,(x1.1,x1.2))))
 else
 some ((a0.1,(a0.2.1,a0.2.2)),(a1,(a2,(x1.1,x1.2))))
def O7:Ent:=⟨Jy,fun x=>EK x.1 x.2.1 x.2.2⟩
theorem XD:Ai RR O7:=fnDq (l:=[Q6]) ⟨⟨Zw,rfl⟩,trivial⟩ (by kernel_rfl) ⟨Tryz.func156,rfl,by kernel_rfl,rfl⟩ (fun _=>by kernel_rfl)
def Bf (a0:Tq21) (a1:(List Tq3)) (a2:Tq3) (a3:(List UInt8)) (a4:(List Int)):Option ((List (List UInt8)×Int×Bool)×List Tq23×List ((Int×Int))×(Int×Int)) :=
 (bif decide ((((List.length a2):Nat):Int)>(0:Int)) then
   ((A2 (IntKind.wrap .i64 ((((List.length a2):Nat):Int)-(1:Int))) (List.length a2))).bind fun x0 =>
   ((AV a2 x0)).bind fun x1 =>
   some (Sum.inr ((a0.1,(a0.2.1,a0.2.2)),(((0:Int),(0:Int)),((x1.1,x1.2),(a1,(a2,(a3,a4)))))))
  else
  some (Sum.inr ((a0.1,(a0.2.1,a0.2.2)),(((0:Int),(0:Int)),(((0:Int),(0:Int)),(a1,(a2,(a3,a4)))))))).bind fun x2 =>
 Sum.elim
  (fun x3 =>
  some x3)
  (fun x4 =>
  bif (x4.2.2.2.2.2.1==(List.cons 108 (List.nil:List UInt8))) then
   ((AP x4.2.2.2.2.2.2 (0:Int))).bind fun x5 =>
   ((AP x4.2.2.2.2.2.2 (1:Int))).bind fun x6 =>
   some ((x4.1.1,(x4.1.2.1,x4.1.2.2)),(x4.2.2.2.1,(x4.2.2.2.2.1,((IntKind.wrap .i64 (x4.2.2.1.1 + x5)),(IntKind.wrap .i64 (x4.2.2.1.2 + x6))))))
  else
  bif (x4.2.2.2.2.2.1==(List.cons 72 (List.nil:List UInt8))) then
   ((AP x4.2.2.2.2.2.2 (0:Int))).bind fun x7 =>
   some ((x4.1.1,(x4.1.2.1,x4.1.2.2)),(x4.2.2.2.1,(x4.2.2.2.2.1,(x7,x4.2.2.1.2))))
  else
  bif (x4.2.2.2.2.2.1==(List.cons 86 (List.nil:List UInt8))) then
   ((AP x4.2.2.2.2.2.2 (0:Int))).bind fun x8 =>
   some ((x4.1.1,(x4.1.2.1,x4.1.2.2)),(x4.2.2.2.1,(x4.2.2.2.2.1,(x4.2.2.1.1,x8))))
  else
  bif (x4.2.2.2.2.2.1==(List.cons 104 (List.nil:List UInt8))) then
   ((AP x4.2.2.2.2.2.2 (0:Int))).bind fun x9 =>
   some ((x4.1.1,(x4.1.2.1,x4.1.2.2)),(x4.2.2.2.1,(x4.2.2.2.2.1,((IntKind.wrap .i64 (x4.2.2.1.1 + x9)),x4.2.2.1.2))))
  else
  bif (x4.2.2.2.2.2.1==(List.cons 118 (List.nil:List UInt8))) then
   ((AP x4.2.2.2.2.2.2 (0:Int))).bind fun x10 =>
   some ((x4.1.1,(x4.1.2.1,x4.1.2.2)),(x4.2.2.2.1,(x4.2.2.2.2.1,(x4.2.2.1.1,(IntKind.wrap .i64 (x4.2.2.1.2 + x10))))))
  else
  ((AP x4.2.2.2.2.2.2 (0:Int))).bind fun x11 =>
  ((AP x4.2.2.2.2.2.2 (1:Int))).bind fun x12 =>
  some ((x4.1.1,(x4.1.2.1,x4.1.2.2)),(x4.2.2.2.1,(x4.2.2.2.2.1,(x11,x12)))))
  x2
def So:Ent:=⟨Mt,fun x=>Bf x.1 x.2.1 x.2.2.1 x.2.2.2.1 x.2.2.2.2⟩
theorem Ao0:Ai RR So:=fnDq (l:=[]) trivial (by kernel_rfl) ⟨Tryz.func157,rfl,by kernel_rfl,rfl⟩ (fun _=>by kernel_rfl)
def IB (a0:(Int×Int)):Option (Bool) :=
 ((Bm a0.1 (-(1000:Int)) (1000:Int))).bind fun x0 =>
 bif x0 then
  ((Bm a0.2 (-(1000:Int)) (1000:Int))).bind fun x1 =>
  some x1
 else
 some false
def Al9:Ent:=⟨TK,fun x=>IB x⟩
theorem A0l:Ai RR Al9:=fnDq (l:=[Iz]) ⟨⟨I4,rfl⟩,trivial⟩ (by kernel_rfl) ⟨Tryz.func104,rfl,by kernel_rfl,rfl⟩ (fun _=>by kernel_rfl)
def Eu (s0:Tq21) (s1:(List Int)) (s2:(List Tq3)) (s3:Tq3) (s4:(List UInt8)) (s5:Int) (s6:Int):Option ((Tq21×((List Int)×((List Tq3)×(Tq3×Tq26)))) ⊕ ((Tq21×((List Int)×((List Tq3)×(Tq3×(List UInt8))))) ⊕ (Tq21×((List Tq3)×Tq24)))) :=
 bif decide (s6<s5) then
  ((EK (s0.1,(s0.2.1,s0.2.2)) s2 s3)).bind fun x0 =>
  bif (!x0.2.2.2.2) then
   some (Sum.inr (Sum.inr ((x0.1.1,(x0.1.2.1,x0.1.2.2)),(x0.2.1,(x0.2.2.1,((3:Int),x0.1.2.1))))))
  else
  ((Ct 8 1 s1 (List.cons x0.2.2.2.1 (List.nil:List Int)))).bind fun x1 =>
  some (Sum.inl ((x0.1.1,(x0.1.2.1,x0.1.2.2)),(x1,(x0.2.1,(x0.2.2.1,(s4,(s5,(IntKind.wrap .i64 (s6 + (1:Int))))))))))
 else
 some (Sum.inr (Sum.inl ((s0.1,(s0.2.1,s0.2.2)),(s1,(s2,(s3,s4))))))
def AA (a0:Tq21) (a1:(List Tq3)) (a2:Tq3):Option ((List (List UInt8)×Int×Bool)×List Tq23×List ((Int×Int))×Int×Int) :=
 ((AP a0.1 a0.2.1)).bind fun x0 =>
 ((Bq (a0.1,(a0.2.1,a0.2.2)) a1 a2 x0)).bind fun x1 =>
 bif (x1.2.2.2 != (0:Int)) then
  some ((x1.1.1,(x1.1.2.1,x1.1.2.2)),(x1.2.1,(x1.2.2.1,(x1.2.2.2,x1.1.2.1))))
 else
 bif (x0==(List.cons 90 (List.nil:List UInt8))) then
  ((Ct 24 1 x1.2.1 (List.cons x1.2.2.1 (List.nil:List Tq3)))).bind fun x2 =>
  some ((x1.1.1,((IntKind.wrap .i64 (x1.1.2.1 + (1:Int))),false)),(x2,((List.nil:List (Int×Int)),((0:Int),(0:Int)))))
 else
 (((Em (List.cons 72 (List.cons 86 (List.cons 104 (List.cons 118 (List.nil:List UInt8))))) x0)).bind fun x3 =>
  bif x3 then
   some (Sum.inr ((x1.1.1,((IntKind.wrap .i64 (x1.1.2.1 + (1:Int))),x1.1.2.2)),(x1.2.1,(x1.2.2.1,(x0,(1:Int))))))
  else
  some (Sum.inr ((x1.1.1,((IntKind.wrap .i64 (x1.1.2.1 + (1:Int))),x1.1.2.2)),(x1.2.1,(x1.2.2.1,(x0,(2:Int))))))).bind fun x4 =>
 Sum.elim
  (fun x5 =>
  some x5)
  (fun x6 =>
  (Ah (fun (s:(Tq21×((List Int)×((List Tq3)×(Tq3×Tq26)))))=>Eu s.1 s.2.1 s.2.2.1 s.2.2.2.1 s.2.2.2.2.1 s.2.2.2.2.2.1 s.2.2.2.2.2.2) ((x6.1.1,(x6.1.2.1,x6.1.2.2)),((List.nil:List Int),(x6.2.1,(x6.2.2.1,(x6.2.2.2.1,(x6.2.2.2.2,(0:Int)))))))).bind fun x7 =>
  Sum.elim
   (fun x8 =>
   ((Bf (x8.1.1,(x8.1.2.1,x8.1.2.2)) x8.2.2.1 x8.2.2.2.1 x8.2.2.2.2 x8.2.1)).bind fun x9 =>
   ((IB (x9.2.2.2.1,x9.2.2.2.2))).bind fun x10 =>
   bif (!x10) then
    some ((x9.1.1,(x9.1.2.1,x9.1.2.2)),(x9.2.1,(x9.2.2.1,((6:Int),(IntKind.wrap .i64 (x9.1.2.1-(1:Int)))))))
   else
   ((Ct 16 2 x9.2.2.1 (List.cons (x9.2.2.2.1,x9.2.2.2.2) (List.nil:List (Int×Int))))).bind fun x11 =>
   some ((x9.1.1,(x9.1.2.1,true)),(x9.2.1,(x11,((0:Int),(0:Int))))))
   (fun x12 =>
   some ((x12.1.1,(x12.1.2.1,x12.1.2.2)),(x12.2.1,(x12.2.2.1,(x12.2.2.2.1,x12.2.2.2.2)))))
   x7)
  x4
def MU:Ent:=⟨Iw,fun x=>AA x.1 x.2.1 x.2.2⟩
theorem Vh:Ai RR MU:=fnDq (l:=[PW,KN,O7,So,Al9]) ⟨⟨ZQ,rfl⟩,⟨⟨R9,rfl⟩,⟨⟨XD,rfl⟩,⟨⟨Ao0,rfl⟩,⟨⟨A0l,rfl⟩,trivial⟩⟩⟩⟩⟩ (by kernel_rfl) ⟨Tryz.func92,rfl,by kernel_rfl,rfl⟩ (fun _=>by kernel_rfl)
def EJ (s0:Tq21) (s1:(List Tq3)) (s2:Tq3):Option ((Tq21×((List Tq3)×Tq3)) ⊕ ((Tq21×((List Tq3)×Tq3)) ⊕ ((List Tq3)×(Int×(Int×Bool))))) :=
 bif decide (s0.2.1<(((List.length s0.1):Nat):Int)) then
  ((AA (s0.1,(s0.2.1,s0.2.2)) s1 s2)).bind fun x0 =>
  bif (x0.2.2.2.1 != (0:Int)) then
   some (Sum.inr (Sum.inr ((List.nil:List Tq3),(x0.2.2.2.1,(x0.2.2.2.2,false)))))
  else
  some (Sum.inl ((x0.1.1,(x0.1.2.1,x0.1.2.2)),(x0.2.1,x0.2.2.1)))
 else
 some (Sum.inr (Sum.inl ((s0.1,(s0.2.1,s0.2.2)),(s1,s2))))
def Gl (a0:(List UInt8)):Option (List Tq23×Int×Int×Bool) :=
 ((Bm (((List.length a0):Nat):Int) (1:Int) (400:Int))).bind fun x0 =>
 bif (!x0) then
  some ((List.nil:List Tq3),((1:Int),((0:Int),false)))
 else
 ((JC a0 (List.cons 32 (List.nil:List UInt8)))).bind fun x1 =>
 (Ah (fun (s:(Tq21×((List Tq3)×Tq3)))=>EJ s.1 s.2.1 s.2.2) ((x1,((0:Int),false)),((List.nil:List Tq3),(List.nil:List (Int×Int))))).bind fun x2 =>
 Sum.elim
  (fun x3 =>
  bif x3.1.2.2 then
   some ((List.nil:List Tq3),((7:Int),((((List.length x3.1.1):Nat):Int),false)))
  else
  some (x3.2.1,((0:Int),((0:Int),true))))
  (fun x4 =>
  some (x4.1,(x4.2.1,(x4.2.2.1,x4.2.2.2))))
  x2
def Sl:Ent:=⟨Ml,fun x=>Gl x⟩
theorem Ab8:Ai RR Sl:=fnDq (l:=[Iz,Pc,MU]) ⟨⟨I4,rfl⟩,⟨⟨WE,rfl⟩,⟨⟨Vh,rfl⟩,trivial⟩⟩⟩ (by kernel_rfl) ⟨Tryz.func22,rfl,by kernel_rfl,rfl⟩ (fun _=>by kernel_rfl)
def Dj (a0:Tq2):Option (Bool) :=
 ((Bm a0.1 (-(20:Int)) (20:Int))).bind fun x0 =>
 bif x0 then
  ((Bm a0.2.1 (-(20:Int)) (20:Int))).bind fun x1 =>
  bif x1 then
   ((Bm a0.2.2.1 (1:Int) (8:Int))).bind fun x2 =>
   bif x2 then
    ((Bm a0.2.2.2 (1:Int) (8:Int))).bind fun x3 =>
    some x3
   else
   some false
  else
  some false
 else
 some false
def K4:Ent:=⟨KB,fun x=>Dj x⟩
theorem Pd:Ai RR K4:=fnDq (l:=[Iz]) ⟨⟨I4,rfl⟩,trivial⟩ (by kernel_rfl) ⟨Tryz.func58,rfl,by kernel_rfl,rfl⟩ (fun _=>by kernel_rfl)
def Mi (s0:Tq5) (s1:(List Int)) (s2:Bool) (s3:Int):Option ((Tq5×((List Int)×(Bool×Int))) ⊕ (Tq5×((List Int)×Bool))) :=
 bif decide (s3>(0:Int)) then
  ((Ct 8 1 s1 (List.cons (IntKind.wrap .i64 (Int.tmod s3 (65536:Int))) (List.nil:List Int)))).bind fun x0 =>
  some (Sum.inl ((s0.1,s0.2),(x0,(s2,(IntKind.wrap .u64 (Int.tdiv s3 (65536:Int)))))))
 else
 some (Sum.inr ((s0.1,s0.2),(s1,s2)))
def Dr (a0:Int):Option Tq18 :=
 (bif decide (a0<(0:Int)) then
   some (Sum.inr ((false,(List.nil:List Int)),(decide (a0<(0:Int)),(IntKind.wrap .u64 ((0:Int)-(IntKind.wrap .u64 a0))))))
  else
  some (Sum.inr ((false,(List.nil:List Int)),(decide (a0<(0:Int)),(IntKind.wrap .u64 a0))))).bind fun x0 =>
 Sum.elim
  (fun x1 =>
  some x1)
  (fun x2 =>
  (Ah (fun (s:(Tq5×((List Int)×(Bool×Int))))=>Mi s.1 s.2.1 s.2.2.1 s.2.2.2) ((x2.1.1,x2.1.2),((List.nil:List Int),(x2.2.1,x2.2.2)))).bind fun x3 =>
  some (x3.2.2,x3.2.1))
  x0
def J5:Ent:=⟨W8,fun x=>Dr x⟩
theorem Lm:Ai RR J5:=fnDq (l:=[]) trivial (by kernel_rfl) ⟨Tryz.func137,rfl,by kernel_rfl,rfl⟩ (fun _=>by kernel_rfl)
def Bc (a0:Int):Option (Tq8) :=
 ((Dr a0)).bind fun x0 =>
 ((Dr (1:Int))).bind fun x1 =>
 some (x0.1,(x0.2,(x1.1,x1.2)))
def Ha:Ent:=⟨Xk,fun x=>Bc x⟩
theorem Gt:Ai RR Ha:=fnDq (l:=[J5]) ⟨⟨Lm,rfl⟩,trivial⟩ (by kernel_rfl) ⟨Tryz.func73,rfl,by kernel_rfl,rfl⟩ (fun _=>by kernel_rfl)
def Dy (s0:Tq4) (s1:Tq3) (s2:Int) (s3:Int):Option ((Tq4×Tq24) ⊕ Tq4) :=
 bif decide (s3<s2) then
  ((AP s1 s3)).bind fun x0 =>
  ((Bc x0.1)).bind fun x1 =>
  ((Bc x0.2)).bind fun x2 =>
  ((Ct 128 8 s0 (List.cons (((x1.1,x1.2.1),(x1.2.2.1,x1.2.2.2)),((x2.1,x2.2.1),(x2.2.2.1,x2.2.2.2))) (List.nil:List (Tq0×Tq0))))).bind fun x3 =>
  some (Sum.inl (x3,(s1,(s2,(IntKind.wrap .i64 (s3 + (1:Int)))))))
 else
 some (Sum.inr s0)
def LD (a0:Tq3):Option (List ((Tq6×Tq6))) :=
 (Ah (fun (s:(Tq4×Tq24))=>Dy s.1 s.2.1 s.2.2.1 s.2.2.2) ((List.nil:List (Tq0×Tq0)),(a0,((((List.length a0):Nat):Int),(0:Int))))).bind fun x0 =>
 some x0
def Am0:Ent:=⟨Tt,fun x=>LD x⟩
theorem A1z:Ai RR Am0:=fnDq (l:=[Ha]) ⟨⟨Gt,rfl⟩,trivial⟩ (by kernel_rfl) ⟨Tryz.func76,rfl,by kernel_rfl,rfl⟩ (fun _=>by kernel_rfl)
def Gh (a0:Int):Option (Bool) :=
 ((Bm a0 (0:Int) (65535:Int))).bind fun x0 =>
 some (!x0)
def Se:Ent:=⟨Mj,fun x=>Gh x⟩
theorem Af6:Ai RR Se:=fnDq (l:=[Iz]) ⟨⟨I4,rfl⟩,trivial⟩ (by kernel_rfl) ⟨Tryz.func293,rfl,by kernel_rfl,rfl⟩ (fun _=>by kernel_rfl)
def Bi (s0:(List Int)) (s1:Int) (s2:Int):Option (Tq10 ⊕ (Unit ⊕ Int)) :=
 bif decide (s2<s1) then
  ((AP s0 s2)).bind fun x0 =>
  ((Gh x0)).bind fun x1 =>
  bif x1 then
   some (Sum.inr (Sum.inr s2))
  else
  some (Sum.inl (s0,(s1,(IntKind.wrap .i64 (s2 + (1:Int))))))
 else
 some (Sum.inr (Sum.inl ()))
def B4 (a0:(List Int)):Option (Int) :=
 (Ah (fun (s:Tq10)=>Bi s.1 s.2.1 s.2.2) (a0,((((List.length a0):Nat):Int),(0:Int)))).bind fun x0 =>
 Sum.elim
  (fun x1 =>
  some (-(1:Int)))
  (fun x2 =>
  some x2)
  x0
def E9:Ent:=⟨CQ,fun x=>B4 x⟩
theorem Jv:Ai RR E9:=fnDq (l:=[Se]) ⟨⟨Af6,rfl⟩,trivial⟩ (by kernel_rfl) ⟨Tryz.func233,rfl,by kernel_rfl,rfl⟩ (fun _=>by kernel_rfl)
def AJ (a0:(List Int)):Option (Bool) :=
 ((B4 a0)).bind fun x0 =>
 some (decide (x0>=(0:Int)))
def D0:Ent:=⟨Cy,fun x=>AJ x⟩
theorem HZ:Ai RR D0:=fnDq (l:=[E9]) ⟨⟨Jv,rfl⟩,trivial⟩ (by kernel_rfl) ⟨Tryz.func180,rfl,by kernel_rfl,rfl⟩ (fun _=>by kernel_rfl)
def GN (a0:Tq5):Option (Bool) :=
 bif decide ((((List.length a0.2):Nat):Int)>(40:Int)) then
  some false
 else
 bif ((((List.length a0.2):Nat):Int)==(0:Int)) then
  bif a0.1 then
   some false
  else
  bif decide ((((List.length a0.2):Nat):Int)>(0:Int)) then
   ((AP a0.2 (IntKind.wrap .i64 ((((List.length a0.2):Nat):Int)-(1:Int))))).bind fun x0 =>
   bif (x0==(0:Int)) then
    some false
   else
   ((AJ a0.2)).bind fun x1 =>
   some (!x1)
  else
  ((AJ a0.2)).bind fun x2 =>
  some (!x2)
 else
 bif decide ((((List.length a0.2):Nat):Int)>(0:Int)) then
  ((AP a0.2 (IntKind.wrap .i64 ((((List.length a0.2):Nat):Int)-(1:Int))))).bind fun x3 =>
  bif (x3==(0:Int)) then
   some false
  else
  ((AJ a0.2)).bind fun x4 =>
  some (!x4)
 else
 ((AJ a0.2)).bind fun x5 =>
 some (!x5)
def Pp:Ent:=⟨Q4,fun x=>GN x⟩
theorem UJ:Ai RR Pp:=fnDq (l:=[D0]) ⟨⟨HZ,rfl⟩,trivial⟩ (by kernel_rfl) ⟨Tryz.func265,rfl,by kernel_rfl,rfl⟩ (fun _=>by kernel_rfl)
def Hl (a0:Tq5):Option (Bool) :=
 ((GN (a0.1,a0.2))).bind fun x0 =>
 some (!x0)
def V1:Ent:=⟨Og,fun x=>Hl x⟩
theorem Ax2:Ai RR V1:=fnDq (l:=[Pp]) ⟨⟨UJ,rfl⟩,trivial⟩ (by kernel_rfl) ⟨Tryz.func278,rfl,by kernel_rfl,rfl⟩ (fun _=>by kernel_rfl)
def A3 (s0:(List Tq5)) (s1:Int) (s2:Int):Option (((List Tq5)×(Int×Int)) ⊕ (Unit ⊕ Int)) :=
 bif decide (s2<s1) then
  ((AP s0 s2)).bind fun x0 =>
  ((Hl (x0.1,x0.2))).bind fun x1 =>
  bif x1 then
   some (Sum.inr (Sum.inr s2))
  else
  some (Sum.inl (s0,(s1,(IntKind.wrap .i64 (s2 + (1:Int))))))
 else
 some (Sum.inr (Sum.inl ()))
def Bz (a0:(List Tq5)):Option (Int) :=
 (Ah (fun (s:((List Tq5)×(Int×Int)))=>A3 s.1 s.2.1 s.2.2) (a0,((((List.length a0):Nat):Int),(0:Int)))).bind fun x0 =>
 Sum.elim
  (fun x1 =>
  some (-(1:Int)))
  (fun x2 =>
  some x2)
  x0
def DS:Ent:=⟨Co,fun x=>Bz x⟩
theorem HT:Ai RR DS:=fnDq (l:=[V1]) ⟨⟨Ax2,rfl⟩,trivial⟩ (by kernel_rfl) ⟨Tryz.func302,rfl,by kernel_rfl,rfl⟩ (fun _=>by kernel_rfl)
def Bl (a0:(List Tq5)):Option (Bool) :=
 ((Bz a0)).bind fun x0 =>
 some (decide (x0>=(0:Int)))
def C9:Ent:=⟨BW,fun x=>Bl x⟩
theorem Gg:Ai RR C9:=fnDq (l:=[DS]) ⟨⟨HT,rfl⟩,trivial⟩ (by kernel_rfl) ⟨Tryz.func277,rfl,by kernel_rfl,rfl⟩ (fun _=>by kernel_rfl)
def Id (a0:(List Tq5)):Option (Bool) :=
 ((Bl a0)).bind fun x0 =>
 some (!x0)
def Ar8:Ent:=⟨S8,fun x=>Id x⟩
theorem A0H:Ai RR Ar8:=fnDq (l:=[C9]) ⟨⟨Gg,rfl⟩,trivial⟩ (by kernel_rfl) ⟨Tryz.func234,rfl,by kernel_rfl,rfl⟩ (fun _=>by kernel_rfl)
def BF (a0:Tq5):Option (Int) :=
 bif ((((List.length a0.2):Nat):Int)==(0:Int)) then
  some (0:Int)
 else
 bif a0.1 then
  some (-(1:Int))
 else
 some (1:Int)
def JV:Ent:=⟨Ox,fun x=>BF x⟩
theorem Ms:Ai RR JV:=fnDq (l:=[]) trivial (by kernel_rfl) ⟨Tryz.func235,rfl,by kernel_rfl,rfl⟩ (fun _=>by kernel_rfl)
def EE (a0:Int):Option (Bool) :=
 some (a0 != a0)
def Pb:Ent:=⟨Jx,fun x=>EE x⟩
theorem Xa:Ai RR Pb:=fnDq (l:=[]) trivial (by kernel_rfl) ⟨Tryz.func284,rfl,by kernel_rfl,rfl⟩ (fun _=>by kernel_rfl)
def B9 (a0:Int) (a1:Int):Option (Int) :=
 ((EE a0)).bind fun x0 =>
 ((EE a1)).bind fun x1 =>
 bif x0 then
  bif x1 then
   some (0:Int)
  else
  some (-(1:Int))
 else
 bif x1 then
  some (1:Int)
 else
 bif decide (a0<a1) then
  some (-(1:Int))
 else
 bif decide (a0>a1) then
  some (1:Int)
 else
 some (0:Int)
def HW:Ent:=⟨HR,fun x=>B9 x.1 x.2⟩
theorem KE:Ai RR HW:=fnDq (l:=[Pb]) ⟨⟨Xa,rfl⟩,trivial⟩ (by kernel_rfl) ⟨Tryz.func248,rfl,by kernel_rfl,rfl⟩ (fun _=>by kernel_rfl)
def Bk (s0:(List Int)) (s1:(List Int)) (s2:Int):Option (Tq20 ⊕ (Unit ⊕ Int)) :=
 bif decide (s2>=(0:Int)) then
  ((AP s0 s2)).bind fun x0 =>
  ((AP s1 s2)).bind fun x1 =>
  bif (x0 != x1) then
   ((AP s0 s2)).bind fun x2 =>
   ((AP s1 s2)).bind fun x3 =>
   ((B9 x2 x3)).bind fun x4 =>
   some (Sum.inr (Sum.inr x4))
  else
  some (Sum.inl (s0,(s1,(IntKind.wrap .i64 (s2-(1:Int))))))
 else
 some (Sum.inr (Sum.inl ()))
def BH (a0:(List Int)) (a1:(List Int)):Option (Int) :=
 bif ((((List.length a0):Nat):Int) != (((List.length a1):Nat):Int)) then
  ((B9 (((List.length a0):Nat):Int) (((List.length a1):Nat):Int))).bind fun x0 =>
  some x0
 else
 (Ah (fun (s:Tq20)=>Bk s.1 s.2.1 s.2.2) (a0,(a1,(IntKind.wrap .i64 ((((List.length a0):Nat):Int)-(1:Int)))))).bind fun x1 =>
 Sum.elim
  (fun x2 =>
  some (0:Int))
  (fun x3 =>
  some x3)
  x1
def DU:Ent:=⟨IE,fun x=>BH x.1 x.2⟩
theorem E8:Ai RR DU:=fnDq (l:=[HW]) ⟨⟨KE,rfl⟩,trivial⟩ (by kernel_rfl) ⟨Tryz.func195,rfl,by kernel_rfl,rfl⟩ (fun _=>by kernel_rfl)
def Rs (s0:(List Int)) (s1:Int):Option (((List Int)×Int) ⊕ ((List Int)×Int)) :=
 bif decide (s1>(0:Int)) then
  ((AP s0 (IntKind.wrap .i64 (s1-(1:Int))))).bind fun x0 =>
  bif (x0==(0:Int)) then
   some (Sum.inl (s0,(IntKind.wrap .i64 (s1-(1:Int)))))
  else
  some (Sum.inr (s0,s1))
 else
 some (Sum.inr (s0,s1))
def IR (a0:(List Int)):Option (List (Int)) :=
 (Ah (fun (s:((List Int)×Int))=>Rs s.1 s.2) (a0,(((List.length a0):Nat):Int))).bind fun x0 =>
 ((JL (0:Int) x0.2 (List.length x0.1))).bind fun x1 =>
 some (List.drop x1.1 (List.take x1.2 x0.1))
def Vp:Ent:=⟨AQ0,fun x=>IR x⟩
theorem VH:Ai RR Vp:=fnDq (l:=[]) trivial (by kernel_rfl) ⟨Tryz.func247,rfl,by kernel_rfl,rfl⟩ (fun _=>by kernel_rfl)
def FC (s0:(List Int)) (s1:(List Int)) (s2:Int) (s3:Int) (s4:Int):Option (Tq11 ⊕ ((List Int)×Int)) :=
 bif decide (s4>=(0:Int)) then
  ((AP s1 s4)).bind fun x0 =>
  bif (s2==(0:Int)) then
   none
  else
  ((A2 s4 (List.length s0))).bind fun x1 =>
  ((AV s0 x1)).bind fun x2 =>
  bif (s2==(0:Int)) then
   none
  else
  some (Sum.inl ((List.set s0 x1 (IntKind.wrap .i64 (Int.tdiv (IntKind.wrap .i64 ((IntKind.wrap .i64 (s3*(65536:Int))) + x0)) s2))),(s1,(s2,((Int.tmod (IntKind.wrap .i64 ((IntKind.wrap .i64 (s3*(65536:Int))) + x0)) s2),(IntKind.wrap .i64 (s4-(1:Int))))))))
 else
 some (Sum.inr (s0,s3))
def FN (a0:(List Int)) (a1:Int):Option (List (Int)×Int) :=
 ((Sa (((List.length a0):Nat):Int) 8 1)).bind fun x0 =>
 (Ah (fun (s:Tq11)=>FC s.1 s.2.1 s.2.2.1 s.2.2.2.1 s.2.2.2.2) ((List.replicate x0 (0:Int)),(a0,(a1,((0:Int),(IntKind.wrap .i64 ((((List.length a0):Nat):Int)-(1:Int)))))))).bind fun x1 =>
 ((IR x1.1)).bind fun x2 =>
 some (x2,x1.2)
def VP:Ent:=⟨Ny,fun x=>FN x.1 x.2⟩
theorem Ay0:Ai RR VP:=fnDq (l:=[Vp]) ⟨⟨VH,rfl⟩,trivial⟩ (by kernel_rfl) ⟨Tryz.func283,rfl,by kernel_rfl,rfl⟩ (fun _=>by kernel_rfl)
def B7 (a0:(List Int)):Option (List (Int)) :=
 ((neL a0)).bind fun x0 =>
 bif (AD1 (List.length a0) 8 1) then
  some a0
 else
 none
def KD:Ent:=⟨BZ,fun x=>B7 x⟩
def G6:TX:=⟨Ak,Af,[],[4],[],BZ⟩
theorem M3 (a0:List (Int)):wtF G6 Tryz.f246 a0=B7 a0:=by kernel_rfl
theorem LS:Ai (Hk Tryz.prog cfC Bl1) KD:=Aa (X:=G6) ⟨Ay,Ae,Az⟩ (A9x rfl) (Al (by kernel_rfl)) ⟨Tryz.func246,rfl,by kernel_rfl,rfl⟩ (fun x=>by exact M3 x)
def BY (a0:List (Int)):Option (List (Int)):=A98 B7 a0
def Eb:Ent:=⟨BZ,fun x=>BY x⟩
theorem Gm:Ai RR Eb:=A2Z LS (.head _) fun _ _ _ _ _ h=>Or.inl h
def Bj (a0:Bool) (a1:(List Int)):Option (List (Int)×(Bool)) :=
 ((IR a1)).bind fun x0 =>
 ((BY x0)).bind fun x1 =>
 bif a0 then
  some (x1,decide ((((List.length x1):Nat):Int)>(0:Int)))
 else
 some (x1,false)
def D2:Ent:=⟨WO,fun x=>Bj x.1 x.2⟩
theorem DM:Ai RR D2:=fnDq (l:=[Vp,Eb]) ⟨⟨VH,rfl⟩,⟨⟨Gm,rfl⟩,trivial⟩⟩ (by kernel_rfl) ⟨Tryz.func193,rfl,by kernel_rfl,rfl⟩ (fun _=>by kernel_rfl)
def Gi (s0:Tq5) (s1:Tq5) (s2:Tq5) (s3:(List Int)) (s4:Int) (s5:Int) (s6:Int) (s7:(List Int)) (s8:Int) (s9:Int) (s10:(List Int)) (s11:Int) (s12:Int):Option (Tq31 ⊕ (Tq5×(Tq5×(Tq5×((List Int)×(Int×(Int×Tq10))))))) :=
 bif decide (s12<s11) then
  ((AP s10 s12)).bind fun x0 =>
  ((A2 (IntKind.wrap .i64 (s4 + s12)) (List.length s3))).bind fun x1 =>
  ((AV s3 x1)).bind fun x2 =>
  ((A2 (IntKind.wrap .i64 (s4 + s12)) (List.length s3))).bind fun x3 =>
  ((AV s3 x3)).bind fun x4 =>
  some (Sum.inl ((s0.1,s0.2),((s1.1,s1.2),((s2.1,s2.2),((List.set s3 x3 (Int.tmod (IntKind.wrap .i64 (s6 + (IntKind.wrap .i64 (x2 + (IntKind.wrap .i64 (s5*x0)))))) (65536:Int))),(s4,(s5,((IntKind.wrap .i64 (Int.tdiv (IntKind.wrap .i64 (s6 + (IntKind.wrap .i64 (x2 + (IntKind.wrap .i64 (s5*x0)))))) (65536:Int))),(s7,(s8,(s9,(s10,(s11,(IntKind.wrap .i64 (s12 + (1:Int))))))))))))))))
 else
 some (Sum.inr ((s0.1,s0.2),((s1.1,s1.2),((s2.1,s2.2),(s3,(s4,(s6,(s7,(s8,s9)))))))))
def IV (s0:Tq5) (s1:Tq5) (s2:Tq5) (s3:(List Int)) (s4:(List Int)) (s5:Int) (s6:Int):Option ((Tq5×(Tq5×(Tq5×((List Int)×Tq10)))) ⊕ (Tq5×(Tq5×(Tq5×(List Int))))) :=
 bif decide (s6<s5) then
  ((AP s4 s6)).bind fun x0 =>
  (Ah (fun (s:Tq31)=>Gi s.1 s.2.1 s.2.2.1 s.2.2.2.1 s.2.2.2.2.1 s.2.2.2.2.2.1 s.2.2.2.2.2.2.1 s.2.2.2.2.2.2.2.1 s.2.2.2.2.2.2.2.2.1 s.2.2.2.2.2.2.2.2.2.1 s.2.2.2.2.2.2.2.2.2.2.1 s.2.2.2.2.2.2.2.2.2.2.2.1 s.2.2.2.2.2.2.2.2.2.2.2.2) ((s0.1,s0.2),((s1.1,s1.2),((s2.1,s2.2),(s3,(s6,(x0,((0:Int),(s4,(s5,(s6,(s1.2,((((List.length s1.2):Nat):Int),(0:Int)))))))))))))).bind fun x1 =>
  ((A2 (IntKind.wrap .i64 (x1.2.2.2.2.1 + (((List.length x1.2.1.2):Nat):Int))) (List.length x1.2.2.2.1))).bind fun x2 =>
  ((AV x1.2.2.2.1 x2)).bind fun x3 =>
  ((A2 (IntKind.wrap .i64 (x1.2.2.2.2.1 + (((List.length x1.2.1.2):Nat):Int))) (List.length x1.2.2.2.1))).bind fun x4 =>
  ((AV x1.2.2.2.1 x4)).bind fun x5 =>
  some (Sum.inl ((x1.1.1,x1.1.2),((x1.2.1.1,x1.2.1.2),((x1.2.2.1.1,x1.2.2.1.2),((List.set x1.2.2.2.1 x4 (IntKind.wrap .i64 (x3 + x1.2.2.2.2.2.1))),(x1.2.2.2.2.2.2.1,(x1.2.2.2.2.2.2.2.1,(IntKind.wrap .i64 (x1.2.2.2.2.2.2.2.2 + (1:Int))))))))))
 else
 some (Sum.inr ((s0.1,s0.2),((s1.1,s1.2),((s2.1,s2.2),s3))))
def BE (a0:Tq5) (a1:Tq5):Option (List (Int)×(Bool)) :=
 ((Sa (IntKind.wrap .i64 ((((List.length a0.2):Nat):Int) + (((List.length a1.2):Nat):Int))) 8 1)).bind fun x0 =>
 (Ah (fun (s:(Tq5×(Tq5×(Tq5×((List Int)×Tq10)))))=>IV s.1 s.2.1 s.2.2.1 s.2.2.2.1 s.2.2.2.2.1 s.2.2.2.2.2.1 s.2.2.2.2.2.2) ((a0.1,a0.2),((a1.1,a1.2),((false,(List.nil:List Int)),((List.replicate x0 (0:Int)),(a0.2,((((List.length a0.2):Nat):Int),(0:Int)))))))).bind fun x1 =>
 ((Bj (!(x1.1.1==x1.2.1.1)) x1.2.2.2)).bind fun x2 =>
 some (x2.1,x2.2)
def GO:Ent:=⟨Qi,fun x=>BE x.1 x.2⟩
theorem Hr:Ai RR GO:=fnDq (l:=[D2]) ⟨⟨DM,rfl⟩,trivial⟩ (by kernel_rfl) ⟨Tryz.func139,rfl,by kernel_rfl,rfl⟩ (fun _=>by kernel_rfl)
def QO (s0:(List Int)) (s1:(List Int)) (s2:(List Int)) (s3:Int) (s4:Int):Option (Tq14 ⊕ ((List Int)×Tq10)) :=
 bif decide ((((List.length s0):Nat):Int)<(IntKind.wrap .i64 ((((List.length s2):Nat):Int) + (1:Int)))) then
  ((Ct 8 1 s0 (List.cons (0:Int) (List.nil:List Int)))).bind fun x0 =>
  some (Sum.inl (x0,(s1,(s2,(s3,s4)))))
 else
 some (Sum.inr (s0,(s1,(s3,s4))))
def Dl (s0:(List Int)) (s1:(List Int)) (s2:(List Int)) (s3:Int) (s4:Int) (s5:Int) (s6:Int) (s7:Int):Option (Tq22 ⊕ ((List Int)×Tq28)) :=
 (bif decide (s6>=(65536:Int)) then
   some (Sum.inr (s0,(s1,(s2,(s3,(s4,(s5,(s6,s7))))))))
  else
  bif decide (s7<(65536:Int)) then
   ((A2 (IntKind.wrap .i64 (s3-(2:Int))) (List.length s1))).bind fun x0 =>
   ((AV s1 x0)).bind fun x1 =>
   ((A2 (IntKind.wrap .i64 ((IntKind.wrap .i64 (s5 + s3))-(2:Int))) (List.length s0))).bind fun x2 =>
   ((AV s0 x2)).bind fun x3 =>
   bif decide ((IntKind.wrap .i64 (s6*x1))>(IntKind.wrap .i64 ((IntKind.wrap .i64 (s7*(65536:Int))) + x3))) then
    some (Sum.inr (s0,(s1,(s2,(s3,(s4,(s5,(s6,s7))))))))
   else
   some (Sum.inl (Sum.inr (s0,(s1,(s2,(s3,(s4,(s5,s6))))))))
  else
  some (Sum.inl (Sum.inr (s0,(s1,(s2,(s3,(s4,(s5,s6))))))))).bind fun x4 =>
 Sum.elim
  (fun x5 =>
  some x5)
  (fun x6 =>
  ((A2 (IntKind.wrap .i64 (x6.2.2.2.1-(1:Int))) (List.length x6.2.1))).bind fun x7 =>
  ((AV x6.2.1 x7)).bind fun x8 =>
  some (Sum.inl (x6.1,(x6.2.1,(x6.2.2.1,(x6.2.2.2.1,(x6.2.2.2.2.1,(x6.2.2.2.2.2.1,((IntKind.wrap .i64 (x6.2.2.2.2.2.2.1-(1:Int))),(IntKind.wrap .i64 (x6.2.2.2.2.2.2.2 + x8)))))))))))
  x4
def Fs (s0:(List Int)) (s1:(List Int)) (s2:(List Int)) (s3:Int) (s4:Int) (s5:Int) (s6:Int) (s7:Int) (s8:Int) (s9:Int):Option (Tq19 ⊕ Tq22) :=
 bif decide (s9<s8) then
  ((A2 (IntKind.wrap .i64 (s5 + s9)) (List.length s0))).bind fun x0 =>
  ((AV s0 x0)).bind fun x1 =>
  ((A2 s9 (List.length s1))).bind fun x2 =>
  ((AV s1 x2)).bind fun x3 =>
  (bif decide ((IntKind.wrap .i64 ((IntKind.wrap .i64 (x1-(IntKind.wrap .i64 (s6*x3))))-s7))<(0:Int)) then
    some (Sum.inr (s0,(s1,(s2,(s3,(s4,(s5,(s6,((IntKind.wrap .i64 (Int.tdiv (IntKind.wrap .i64 ((IntKind.wrap .i64 ((IntKind.wrap .i64 ((0:Int)-(IntKind.wrap .i64 ((IntKind.wrap .i64 (x1-(IntKind.wrap .i64 (s6*x3))))-s7)))) + (65536:Int)))-(1:Int))) (65536:Int))),(s9,((IntKind.wrap .i64 ((IntKind.wrap .i64 ((IntKind.wrap .i64 (x1-(IntKind.wrap .i64 (s6*x3))))-s7)) + (IntKind.wrap .i64 ((IntKind.wrap .i64 (Int.tdiv (IntKind.wrap .i64 ((IntKind.wrap .i64 ((IntKind.wrap .i64 ((0:Int)-(IntKind.wrap .i64 ((IntKind.wrap .i64 (x1-(IntKind.wrap .i64 (s6*x3))))-s7)))) + (65536:Int)))-(1:Int))) (65536:Int)))*(65536:Int))))),(s8,s9))))))))))))
   else
   some (Sum.inr (s0,(s1,(s2,(s3,(s4,(s5,(s6,((0:Int),(s9,((IntKind.wrap .i64 ((IntKind.wrap .i64 (x1-(IntKind.wrap .i64 (s6*x3))))-s7)),(s8,s9))))))))))))).bind fun x4 =>
  Sum.elim
   (fun x5 =>
   some x5)
   (fun x6 =>
   ((A2 (IntKind.wrap .i64 (x6.2.2.2.2.2.1 + x6.2.2.2.2.2.2.2.2.1)) (List.length x6.1))).bind fun x7 =>
   ((AV x6.1 x7)).bind fun x8 =>
   some (Sum.inl ((List.set x6.1 x7 x6.2.2.2.2.2.2.2.2.2.1),(x6.2.1,(x6.2.2.1,(x6.2.2.2.1,(x6.2.2.2.2.1,(x6.2.2.2.2.2.1,(x6.2.2.2.2.2.2.1,(x6.2.2.2.2.2.2.2.1,(x6.2.2.2.2.2.2.2.2.2.2.1,(IntKind.wrap .i64 (x6.2.2.2.2.2.2.2.2.2.2.2 + (1:Int))))))))))))))
   x4
 else
 some (Sum.inr (s0,(s1,(s2,(s3,(s4,(s5,(s6,s7))))))))
def FI (s0:(List Int)) (s1:(List Int)) (s2:(List Int)) (s3:Int) (s4:Int) (s5:Int) (s6:Int) (s7:Int) (s8:Int) (s9:Int):Option (Tq19 ⊕ Tq22) :=
 bif decide (s9<s8) then
  ((A2 (IntKind.wrap .i64 (s5 + s9)) (List.length s0))).bind fun x0 =>
  ((AV s0 x0)).bind fun x1 =>
  ((A2 s9 (List.length s1))).bind fun x2 =>
  ((AV s1 x2)).bind fun x3 =>
  ((A2 (IntKind.wrap .i64 (s5 + s9)) (List.length s0))).bind fun x4 =>
  ((AV s0 x4)).bind fun x5 =>
  some (Sum.inl ((List.set s0 x4 (Int.tmod (IntKind.wrap .i64 (s7 + (IntKind.wrap .i64 (x1 + x3)))) (65536:Int))),(s1,(s2,(s3,(s4,(s5,(s6,((IntKind.wrap .i64 (Int.tdiv (IntKind.wrap .i64 (s7 + (IntKind.wrap .i64 (x1 + x3)))) (65536:Int))),(s8,(IntKind.wrap .i64 (s9 + (1:Int)))))))))))))
 else
 some (Sum.inr (s0,(s1,(s2,(s3,(s4,(s5,(s6,s7))))))))
def Df (s0:(List Int)) (s1:(List Int)) (s2:(List Int)) (s3:Int) (s4:Int) (s5:Int):Option (((List Int)×Tq11) ⊕ ((List Int)×Tq10)) :=
 bif decide (s5>=(0:Int)) then
  ((A2 (IntKind.wrap .i64 (s5 + s3)) (List.length s0))).bind fun x0 =>
  ((AV s0 x0)).bind fun x1 =>
  ((A2 (IntKind.wrap .i64 ((IntKind.wrap .i64 (s5 + s3))-(1:Int))) (List.length s0))).bind fun x2 =>
  ((AV s0 x2)).bind fun x3 =>
  ((A2 (IntKind.wrap .i64 (s3-(1:Int))) (List.length s1))).bind fun x4 =>
  ((AV s1 x4)).bind fun x5 =>
  bif (x5==(0:Int)) then
   none
  else
  ((A2 (IntKind.wrap .i64 (s3-(1:Int))) (List.length s1))).bind fun x6 =>
  ((AV s1 x6)).bind fun x7 =>
  bif (x7==(0:Int)) then
   none
  else
  (Ah (fun (s:Tq22)=>Dl s.1 s.2.1 s.2.2.1 s.2.2.2.1 s.2.2.2.2.1 s.2.2.2.2.2.1 s.2.2.2.2.2.2.1 s.2.2.2.2.2.2.2) (s0,(s1,(s2,(s3,(s4,(s5,((IntKind.wrap .i64 (Int.tdiv (IntKind.wrap .i64 ((IntKind.wrap .i64 (x1*(65536:Int))) + x3)) x5)),(Int.tmod (IntKind.wrap .i64 ((IntKind.wrap .i64 (x1*(65536:Int))) + x3)) x7))))))))).bind fun x8 =>
  (Ah (fun (s:Tq19)=>Fs s.1 s.2.1 s.2.2.1 s.2.2.2.1 s.2.2.2.2.1 s.2.2.2.2.2.1 s.2.2.2.2.2.2.1 s.2.2.2.2.2.2.2.1 s.2.2.2.2.2.2.2.2.1 s.2.2.2.2.2.2.2.2.2) (x8.1,(x8.2.1,(x8.2.2.1,(x8.2.2.2.1,(x8.2.2.2.2.1,(x8.2.2.2.2.2.1,(x8.2.2.2.2.2.2,((0:Int),(x8.2.2.2.1,(0:Int))))))))))).bind fun x9 =>
  ((A2 (IntKind.wrap .i64 (x9.2.2.2.2.2.1 + x9.2.2.2.1)) (List.length x9.1))).bind fun x10 =>
  ((AV x9.1 x10)).bind fun x11 =>
  ((A2 (IntKind.wrap .i64 (x9.2.2.2.2.2.1 + x9.2.2.2.1)) (List.length x9.1))).bind fun x12 =>
  ((AV x9.1 x12)).bind fun x13 =>
  ((A2 (IntKind.wrap .i64 (x9.2.2.2.2.2.1 + x9.2.2.2.1)) (List.length (List.set x9.1 x12 (IntKind.wrap .i64 (x11-x9.2.2.2.2.2.2.2)))))).bind fun x14 =>
  ((AV (List.set x9.1 x12 (IntKind.wrap .i64 (x11-x9.2.2.2.2.2.2.2))) x14)).bind fun x15 =>
  bif decide (x15<(0:Int)) then
   (Ah (fun (s:Tq19)=>FI s.1 s.2.1 s.2.2.1 s.2.2.2.1 s.2.2.2.2.1 s.2.2.2.2.2.1 s.2.2.2.2.2.2.1 s.2.2.2.2.2.2.2.1 s.2.2.2.2.2.2.2.2.1 s.2.2.2.2.2.2.2.2.2) ((List.set x9.1 x12 (IntKind.wrap .i64 (x11-x9.2.2.2.2.2.2.2))),(x9.2.1,(x9.2.2.1,(x9.2.2.2.1,(x9.2.2.2.2.1,(x9.2.2.2.2.2.1,((IntKind.wrap .i64 (x9.2.2.2.2.2.2.1-(1:Int))),((0:Int),(x9.2.2.2.1,(0:Int))))))))))).bind fun x16 =>
   ((A2 (IntKind.wrap .i64 (x16.2.2.2.2.2.1 + x16.2.2.2.1)) (List.length x16.1))).bind fun x17 =>
   ((AV x16.1 x17)).bind fun x18 =>
   ((A2 (IntKind.wrap .i64 (x16.2.2.2.2.2.1 + x16.2.2.2.1)) (List.length x16.1))).bind fun x19 =>
   ((AV x16.1 x19)).bind fun x20 =>
   ((A2 x16.2.2.2.2.2.1 (List.length x16.2.2.1))).bind fun x21 =>
   ((AV x16.2.2.1 x21)).bind fun x22 =>
   some (Sum.inl ((List.set x16.1 x19 (IntKind.wrap .i64 (x18 + x16.2.2.2.2.2.2.2))),(x16.2.1,((List.set x16.2.2.1 x21 x16.2.2.2.2.2.2.1),(x16.2.2.2.1,(x16.2.2.2.2.1,(IntKind.wrap .i64 (x16.2.2.2.2.2.1-(1:Int)))))))))
  else
  ((A2 x9.2.2.2.2.2.1 (List.length x9.2.2.1))).bind fun x23 =>
  ((AV x9.2.2.1 x23)).bind fun x24 =>
  some (Sum.inl ((List.set x9.1 x12 (IntKind.wrap .i64 (x11-x9.2.2.2.2.2.2.2))),(x9.2.1,((List.set x9.2.2.1 x23 x9.2.2.2.2.2.2.1),(x9.2.2.2.1,(x9.2.2.2.2.1,(IntKind.wrap .i64 (x9.2.2.2.2.2.1-(1:Int)))))))))
 else
 some (Sum.inr (s0,(s2,(s3,s4))))
def F1 (a0:(List Int)) (a1:(List Int)):Option (List (Int)×List (Int)) :=
 ((BH a0 a1)).bind fun x0 =>
 bif decide (x0<(0:Int)) then
  some ((List.nil:List Int),a0)
 else
 bif ((((List.length a1):Nat):Int)==(1:Int)) then
  ((AP a1 (0:Int))).bind fun x1 =>
  ((FN a0 x1)).bind fun x2 =>
  ((IR (List.cons x2.2 (List.nil:List Int)))).bind fun x3 =>
  some (x2.1,x3)
 else
 ((AP a1 (IntKind.wrap .i64 ((((List.length a1):Nat):Int)-(1:Int))))).bind fun x4 =>
 bif ((IntKind.wrap .i64 (x4 + (1:Int)))==(0:Int)) then
  none
 else
 ((Bj false a0)).bind fun x5 =>
 ((Dr (IntKind.wrap .i64 (Int.tdiv (65536:Int) (IntKind.wrap .i64 (x4 + (1:Int))))))).bind fun x6 =>
 ((BE (x5.2,x5.1) (x6.1,x6.2))).bind fun x7 =>
 ((Ct 8 1 x7.1 (List.cons (0:Int) (List.nil:List Int)))).bind fun x8 =>
 ((Bj false a1)).bind fun x9 =>
 ((Dr (IntKind.wrap .i64 (Int.tdiv (65536:Int) (IntKind.wrap .i64 (x4 + (1:Int))))))).bind fun x10 =>
 ((BE (x9.2,x9.1) (x10.1,x10.2))).bind fun x11 =>
 (Ah (fun (s:Tq14)=>QO s.1 s.2.1 s.2.2.1 s.2.2.2.1 s.2.2.2.2) (x8,(x11.1,(a0,((((List.length a1):Nat):Int),(IntKind.wrap .i64 (Int.tdiv (65536:Int) (IntKind.wrap .i64 (x4 + (1:Int)))))))))).bind fun x12 =>
 ((Sa (IntKind.wrap .i64 ((((List.length x12.1):Nat):Int)-x12.2.2.1)) 8 1)).bind fun x13 =>
 (Ah (fun (s:((List Int)×Tq11))=>Df s.1 s.2.1 s.2.2.1 s.2.2.2.1 s.2.2.2.2.1 s.2.2.2.2.2) (x12.1,(x12.2.1,((List.replicate x13 (0:Int)),(x12.2.2.1,(x12.2.2.2,(IntKind.wrap .i64 ((IntKind.wrap .i64 ((((List.length x12.1):Nat):Int)-x12.2.2.1))-(1:Int))))))))).bind fun x14 =>
 ((JL (0:Int) x14.2.2.1 (List.length x14.1))).bind fun x15 =>
 ((IR (List.drop x15.1 (List.take (x15.1 + (x15.2-x15.1)) x14.1)))).bind fun x16 =>
 ((FN x16 x14.2.2.2)).bind fun x17 =>
 ((IR x14.2.1)).bind fun x18 =>
 some (x18,x17.1)
def OA:Ent:=⟨OF,fun x=>F1 x.1 x.2⟩
theorem SA:Ai RR OA:=fnDq (l:=[DU,VP,Vp,D2,J5,GO]) ⟨⟨E8,rfl⟩,⟨⟨Ay0,rfl⟩,⟨⟨VH,rfl⟩,⟨⟨DM,rfl⟩,⟨⟨Lm,rfl⟩,⟨⟨Hr,rfl⟩,trivial⟩⟩⟩⟩⟩⟩ (by kernel_rfl) ⟨Tryz.func245,rfl,by kernel_rfl,rfl⟩ (fun _=>by kernel_rfl)
def IT (s0:Tq5) (s1:(List Int)) (s2:(List Int)):Option ((Tq5×((List Int)×(List Int))) ⊕ (Tq5×(List Int))) :=
 bif decide ((((List.length s2):Nat):Int)>(0:Int)) then
  ((F1 s1 s2)).bind fun x0 =>
  some (Sum.inl ((s0.1,s0.2),(s2,x0.2)))
 else
 some (Sum.inr ((s0.1,s0.2),s1))
def G5 (a0:Tq5) (a1:Tq5):Option Tq18 :=
 (Ah (fun (s:(Tq5×((List Int)×(List Int))))=>IT s.1 s.2.1 s.2.2) ((false,(List.nil:List Int)),(a0.2,a1.2))).bind fun x0 =>
 ((Bj false x0.2)).bind fun x1 =>
 some (x1.2,x1.1)
def QP:Ent:=⟨QD,fun x=>G5 x.1 x.2⟩
theorem US:Ai RR QP:=fnDq (l:=[OA,D2]) ⟨⟨SA,rfl⟩,⟨⟨DM,rfl⟩,trivial⟩⟩ (by kernel_rfl) ⟨Tryz.func190,rfl,by kernel_rfl,rfl⟩ (fun _=>by kernel_rfl)
def DT (a0:Tq5) (a1:Tq5):Option (Int) :=
 ((BF (a0.1,a0.2))).bind fun x0 =>
 ((BF (a1.1,a1.2))).bind fun x1 =>
 bif (x0 != x1) then
  ((BF (a0.1,a0.2))).bind fun x2 =>
  ((BF (a1.1,a1.2))).bind fun x3 =>
  ((B9 x2 x3)).bind fun x4 =>
  some x4
 else
 ((BF (a0.1,a0.2))).bind fun x5 =>
 ((BH a0.2 a1.2)).bind fun x6 =>
 some (IntKind.wrap .i64 (x5*x6))
def Lp:Ent:=⟨K8,fun x=>DT x.1 x.2⟩
theorem OX:Ai RR Lp:=fnDq (l:=[JV,HW,DU]) ⟨⟨Ms,rfl⟩,⟨⟨KE,rfl⟩,⟨⟨E8,rfl⟩,trivial⟩⟩⟩ (by kernel_rfl) ⟨Tryz.func236,rfl,by kernel_rfl,rfl⟩ (fun _=>by kernel_rfl)
def Jc (a0:Tq1):Option (Bool) :=
 ((Id (List.cons (a0.1,a0.2.1) (List.cons (a0.2.2.1,a0.2.2.2) (List.nil:List Tq5))))).bind fun x0 =>
 bif x0 then
  ((BF (a0.2.2.1,a0.2.2.2))).bind fun x1 =>
  bif decide (x1>(0:Int)) then
   ((G5 (a0.1,a0.2.1) (a0.2.2.1,a0.2.2.2))).bind fun x2 =>
   ((Dr (1:Int))).bind fun x3 =>
   ((DT (x2.1,x2.2) (x3.1,x3.2))).bind fun x4 =>
   some (x4==(0:Int))
  else
  some false
 else
 some false
def XS:Ent:=⟨Pt,fun x=>Jc x⟩
theorem AS4:Ai RR XS:=fnDq (l:=[Ar8,JV,QP,J5,Lp]) ⟨⟨A0H,rfl⟩,⟨⟨Ms,rfl⟩,⟨⟨US,rfl⟩,⟨⟨Lm,rfl⟩,⟨⟨OX,rfl⟩,trivial⟩⟩⟩⟩⟩ (by kernel_rfl) ⟨Tryz.func182,rfl,by kernel_rfl,rfl⟩ (fun _=>by kernel_rfl)
def IN (s0:(List Tq0)) (s1:Int) (s2:Int):Option (((List Tq0)×(Int×Int)) ⊕ (Unit ⊕ Bool)) :=
 bif decide (s2<s1) then
  ((AP s0 s2)).bind fun x0 =>
  ((Jc (x0.1.1,(x0.1.2,(x0.2.1,x0.2.2))))).bind fun x1 =>
  bif (!x1) then
   some (Sum.inr (Sum.inr false))
  else
  some (Sum.inl (s0,(s1,(IntKind.wrap .i64 (s2 + (1:Int))))))
 else
 some (Sum.inr (Sum.inl ()))
def Fg (a0:(List Tq0)):Option (Bool) :=
 (Ah (fun (s:((List Tq0)×(Int×Int)))=>IN s.1 s.2.1 s.2.2) (a0,((((List.length a0):Nat):Int),(0:Int)))).bind fun x0 =>
 Sum.elim
  (fun x1 =>
  some true)
  (fun x2 =>
  some x2)
  x0
def Y7:Ent:=⟨Q1,fun x=>Fg x⟩
theorem AP6:Ai RR Y7:=fnDq (l:=[XS]) ⟨⟨AS4,rfl⟩,trivial⟩ (by kernel_rfl) ⟨Tryz.func124,rfl,by kernel_rfl,rfl⟩ (fun _=>by kernel_rfl)
def BT (a0:Tq1) (a1:Int):Option (Bool) :=
 bif decide ((((List.length a0.2.1):Nat):Int)<=a1) then
  some (decide ((((List.length a0.2.2.2):Nat):Int)<=a1))
 else
 some false
def Ju:Ent:=⟨Jo,fun x=>BT x.1 x.2⟩
theorem Nn:Ai RR Ju:=fnDq (l:=[]) trivial (by kernel_rfl) ⟨Tryz.func144,rfl,by kernel_rfl,rfl⟩ (fun _=>by kernel_rfl)
def FO (a0:Tq7) (a1:Int):Option (Bool) :=
 ((Fg (List.cons ((a0.1,a0.2.1),(a0.2.2.1,a0.2.2.2.1)) (List.cons ((a0.2.2.2.2.1,a0.2.2.2.2.2.1),(a0.2.2.2.2.2.2.1,a0.2.2.2.2.2.2.2)) (List.nil:List Tq0))))).bind fun x0 =>
 bif x0 then
  ((BT (a0.1,(a0.2.1,(a0.2.2.1,a0.2.2.2.1))) a1)).bind fun x1 =>
  bif x1 then
   ((BT (a0.2.2.2.2.1,(a0.2.2.2.2.2.1,(a0.2.2.2.2.2.2.1,a0.2.2.2.2.2.2.2))) a1)).bind fun x2 =>
   some x2
  else
  some false
 else
 some false
def Wf:Ent:=⟨Xc,fun x=>FO x.1 x.2⟩
theorem Ah0:Ai RR Wf:=fnDq (l:=[Y7,Ju]) ⟨⟨AP6,rfl⟩,⟨⟨Nn,rfl⟩,trivial⟩⟩ (by kernel_rfl) ⟨Tryz.func225,rfl,by kernel_rfl,rfl⟩ (fun _=>by kernel_rfl)
def Fd (a0:Tq7):Option (Bool) :=
 ((FO (a0.1,(a0.2.1,(a0.2.2.1,(a0.2.2.2.1,(a0.2.2.2.2.1,(a0.2.2.2.2.2.1,(a0.2.2.2.2.2.2.1,a0.2.2.2.2.2.2.2))))))) (8:Int))).bind fun x0 =>
 some (!x0)
def Qy:Ent:=⟨LI,fun x=>Fd x⟩
theorem ZH:Ai RR Qy:=fnDq (l:=[Wf]) ⟨⟨Ah0,rfl⟩,trivial⟩ (by kernel_rfl) ⟨Tryz.func224,rfl,by kernel_rfl,rfl⟩ (fun _=>by kernel_rfl)
def AG (s0:Tq4) (s1:Int) (s2:Int):Option (Tq15 ⊕ (Unit ⊕ Int)) :=
 bif decide (s2<s1) then
  ((AP s0 s2)).bind fun x0 =>
  ((Fd (x0.1.1.1,(x0.1.1.2,(x0.1.2.1,(x0.1.2.2,(x0.2.1.1,(x0.2.1.2,(x0.2.2.1,x0.2.2.2))))))))).bind fun x1 =>
  bif x1 then
   some (Sum.inr (Sum.inr s2))
  else
  some (Sum.inl (s0,(s1,(IntKind.wrap .i64 (s2 + (1:Int))))))
 else
 some (Sum.inr (Sum.inl ()))
def Bx (a0:Tq4):Option (Int) :=
 (Ah (fun (s:Tq15)=>AG s.1 s.2.1 s.2.2) (a0,((((List.length a0):Nat):Int),(0:Int)))).bind fun x0 =>
 Sum.elim
  (fun x1 =>
  some (-(1:Int)))
  (fun x2 =>
  some x2)
  x0
def DN:Ent:=⟨Cn,fun x=>Bx x⟩
theorem Ho:Ai RR DN:=fnDq (l:=[Qy]) ⟨⟨ZH,rfl⟩,trivial⟩ (by kernel_rfl) ⟨Tryz.func267,rfl,by kernel_rfl,rfl⟩ (fun _=>by kernel_rfl)
def A1 (a0:Tq4):Option (Bool) :=
 ((Bx a0)).bind fun x0 =>
 some (decide (x0>=(0:Int)))
def C5:Ent:=⟨BV,fun x=>A1 x⟩
theorem Gj:Ai RR C5:=fnDq (l:=[DN]) ⟨⟨Ho,rfl⟩,trivial⟩ (by kernel_rfl) ⟨Tryz.func223,rfl,by kernel_rfl,rfl⟩ (fun _=>by kernel_rfl)
def DD (a0:Tq4):Option (Bool) :=
 bif decide ((((List.length a0):Nat):Int)<=(40:Int)) then
  ((A1 a0)).bind fun x0 =>
  some (!x0)
 else
 some false
def HM:Ent:=⟨NO,fun x=>DD x⟩
theorem IH:Ai RR HM:=fnDq (l:=[C5]) ⟨⟨Gj,rfl⟩,trivial⟩ (by kernel_rfl) ⟨Tryz.func174,rfl,by kernel_rfl,rfl⟩ (fun _=>by kernel_rfl)
def Fj (a0:Tq1) (a1:Tq1):Option (Int) :=
 ((BE (a0.1,a0.2.1) (a1.2.2.1,a1.2.2.2))).bind fun x0 =>
 ((BE (a1.1,a1.2.1) (a0.2.2.1,a0.2.2.2))).bind fun x1 =>
 ((DT (x0.2,x0.1) (x1.2,x1.1))).bind fun x2 =>
 some x2
def QG:Ent:=⟨Ln,fun x=>Fj x.1 x.2⟩
theorem ZF:Ai RR QG:=fnDq (l:=[GO,Lp]) ⟨⟨Hr,rfl⟩,⟨⟨OX,rfl⟩,trivial⟩⟩ (by kernel_rfl) ⟨Tryz.func264,rfl,by kernel_rfl,rfl⟩ (fun _=>by kernel_rfl)
def CT (a0:Tq1) (a1:Tq1):Option (Bool) :=
 ((Fj (a0.1,(a0.2.1,(a0.2.2.1,a0.2.2.2))) (a1.1,(a1.2.1,(a1.2.2.1,a1.2.2.2))))).bind fun x0 =>
 some (decide (x0<(0:Int)))
def JR:Ent:=⟨N8,fun x=>CT x.1 x.2⟩
theorem MA:Ai RR JR:=fnDq (l:=[QG]) ⟨⟨ZF,rfl⟩,trivial⟩ (by kernel_rfl) ⟨Tryz.func220,rfl,by kernel_rfl,rfl⟩ (fun _=>by kernel_rfl)
def BC (a0:Tq7) (a1:Bool):Option (Tq8) :=
 bif a1 then
  some (a0.2.2.2.2.1,(a0.2.2.2.2.2.1,(a0.2.2.2.2.2.2.1,a0.2.2.2.2.2.2.2)))
 else
 some (a0.1,(a0.2.1,(a0.2.2.1,a0.2.2.2.1)))
def GC:Ent:=⟨GA,fun x=>BC x.1 x.2⟩
theorem JH:Ai RR GC:=fnDq (l:=[]) trivial (by kernel_rfl) ⟨Tryz.func309,rfl,by kernel_rfl,rfl⟩ (fun _=>by kernel_rfl)
def Gw (a0:Bool) (a1:Bool) (a2:Tq1) (a3:Tq7):Option ((Bool)×(Bool)×Tq8×Bool) :=
 bif a0 then
  ((BC (a3.1,(a3.2.1,(a3.2.2.1,(a3.2.2.2.1,(a3.2.2.2.2.1,(a3.2.2.2.2.2.1,(a3.2.2.2.2.2.2.1,a3.2.2.2.2.2.2.2))))))) a1)).bind fun x0 =>
  ((CT (x0.1,(x0.2.1,(x0.2.2.1,x0.2.2.2))) (a2.1,(a2.2.1,(a2.2.2.1,a2.2.2.2))))).bind fun x1 =>
  some (a0,(a1,((a2.1,(a2.2.1,(a2.2.2.1,a2.2.2.2))),(!x1))))
 else
 ((BC (a3.1,(a3.2.1,(a3.2.2.1,(a3.2.2.2.1,(a3.2.2.2.2.1,(a3.2.2.2.2.2.1,(a3.2.2.2.2.2.2.1,a3.2.2.2.2.2.2.2))))))) a1)).bind fun x2 =>
 ((CT (a2.1,(a2.2.1,(a2.2.2.1,a2.2.2.2))) (x2.1,(x2.2.1,(x2.2.2.1,x2.2.2.2))))).bind fun x3 =>
 some (a0,(a1,((a2.1,(a2.2.1,(a2.2.2.1,a2.2.2.2))),(!x3))))
def Ad2:Ent:=⟨TW,fun x=>Gw x.1 x.2.1 x.2.2.1 x.2.2.2⟩
theorem A2o:Ai RR Ad2:=fnDq (l:=[GC,JR]) ⟨⟨JH,rfl⟩,⟨⟨MA,rfl⟩,trivial⟩⟩ (by kernel_rfl) ⟨Tryz.func308,rfl,by kernel_rfl,rfl⟩ (fun _=>by kernel_rfl)
def Fq (a0:Tq5):Option Tq18 :=
 ((Bj (!a0.1) a0.2)).bind fun x0 =>
 some (x0.2,x0.1)
def Ma:Ent:=⟨Qd,fun x=>Fq x⟩
theorem Ok:Ai RR Ma:=fnDq (l:=[D2]) ⟨⟨DM,rfl⟩,trivial⟩ (by kernel_rfl) ⟨Tryz.func191,rfl,by kernel_rfl,rfl⟩ (fun _=>by kernel_rfl)
def Ji (a0:Tq1):Option (Tq8) :=
 ((Fq (a0.1,a0.2.1))).bind fun x0 =>
 ((Bj false a0.2.2.2)).bind fun x1 =>
 some (x0.1,(x0.2,(x1.2,x1.1)))
def Yo:Ent:=⟨QK,fun x=>Ji x⟩
theorem AT0:Ai RR Yo:=fnDq (l:=[Ma,D2]) ⟨⟨Ok,rfl⟩,⟨⟨DM,rfl⟩,trivial⟩⟩ (by kernel_rfl) ⟨Tryz.func197,rfl,by kernel_rfl,rfl⟩ (fun _=>by kernel_rfl)
def Fz (s0:(List Int)) (s1:(List Int)) (s2:(List Int)) (s3:Int) (s4:Int):Option (Tq14 ⊕ (List Int)) :=
 (bif decide (s4<(Ba2 (List.cons (((List.length s1):Nat):Int) (List.cons (((List.length s2):Nat):Int) (List.nil:List Int))))) then
   some (Sum.inr (s0,(s1,(s2,(s3,s4)))))
  else
  bif decide (s3>(0:Int)) then
   some (Sum.inr (s0,(s1,(s2,(s3,s4)))))
  else
  some (Sum.inl (Sum.inr s0))).bind fun x0 =>
 Sum.elim
  (fun x1 =>
  some x1)
  (fun x2 =>
  (bif decide (x2.2.2.2.2<(((List.length x2.2.1):Nat):Int)) then
    ((AP x2.2.1 x2.2.2.2.2)).bind fun x3 =>
    some (Sum.inr (x2.1,(x2.2.1,(x2.2.2.1,((IntKind.wrap .i64 (x2.2.2.2.1 + x3)),x2.2.2.2.2)))))
   else
   some (Sum.inr (x2.1,(x2.2.1,(x2.2.2.1,(x2.2.2.2.1,x2.2.2.2.2)))))).bind fun x4 =>
  Sum.elim
   (fun x5 =>
   some x5)
   (fun x6 =>
   (bif decide (x6.2.2.2.2<(((List.length x6.2.2.1):Nat):Int)) then
     ((AP x6.2.2.1 x6.2.2.2.2)).bind fun x7 =>
     some (Sum.inr (x6.1,(x6.2.1,(x6.2.2.1,((IntKind.wrap .i64 (x6.2.2.2.1 + x7)),x6.2.2.2.2)))))
    else
    some (Sum.inr (x6.1,(x6.2.1,(x6.2.2.1,(x6.2.2.2.1,x6.2.2.2.2)))))).bind fun x8 =>
   Sum.elim
    (fun x9 =>
    some x9)
    (fun x10 =>
    ((Ct 8 1 x10.1 (List.cons (Int.tmod x10.2.2.2.1 (65536:Int)) (List.nil:List Int)))).bind fun x11 =>
    some (Sum.inl (x11,(x10.2.1,(x10.2.2.1,((IntKind.wrap .i64 (Int.tdiv x10.2.2.2.1 (65536:Int))),(IntKind.wrap .i64 (x10.2.2.2.2 + (1:Int)))))))))
    x8)
   x4)
  x0
def Hz (a0:(List Int)) (a1:(List Int)):Option (List (Int)) :=
 (Ah (fun (s:Tq14)=>Fz s.1 s.2.1 s.2.2.1 s.2.2.2.1 s.2.2.2.2) ((List.nil:List Int),(a0,(a1,((0:Int),(0:Int)))))).bind fun x0 =>
 some x0
def VG:Ent:=⟨ND,fun x=>Hz x.1 x.2⟩
theorem Au2:Ai RR VG:=fnDq (l:=[]) trivial (by kernel_rfl) ⟨Tryz.func194,rfl,by kernel_rfl,rfl⟩ (fun _=>by kernel_rfl)
def HE (s0:(List Int)) (s1:(List Int)) (s2:Int) (s3:Int) (s4:Int):Option (Tq11 ⊕ (List Int)) :=
 bif decide (s4<s3) then
  ((A2 s4 (List.length s0))).bind fun x0 =>
  ((AV s0 x0)).bind fun x1 =>
  ((A2 s4 (List.length s0))).bind fun x2 =>
  ((AV s0 x2)).bind fun x3 =>
  (bif decide (s4<(((List.length s1):Nat):Int)) then
    ((A2 s4 (List.length (List.set s0 x2 (IntKind.wrap .i64 (x1-s2)))))).bind fun x4 =>
    ((AV (List.set s0 x2 (IntKind.wrap .i64 (x1-s2))) x4)).bind fun x5 =>
    ((AP s1 s4)).bind fun x6 =>
    ((A2 s4 (List.length (List.set s0 x2 (IntKind.wrap .i64 (x1-s2)))))).bind fun x7 =>
    ((AV (List.set s0 x2 (IntKind.wrap .i64 (x1-s2))) x7)).bind fun x8 =>
    some (Sum.inr ((List.set (List.set s0 x2 (IntKind.wrap .i64 (x1-s2))) x7 (IntKind.wrap .i64 (x5-x6))),(s1,(s4,(s3,s4)))))
   else
   some (Sum.inr ((List.set s0 x2 (IntKind.wrap .i64 (x1-s2))),(s1,(s4,(s3,s4)))))).bind fun x9 =>
  Sum.elim
   (fun x10 =>
   some x10)
   (fun x11 =>
   ((A2 x11.2.2.1 (List.length x11.1))).bind fun x12 =>
   ((AV x11.1 x12)).bind fun x13 =>
   bif decide (x13<(0:Int)) then
    ((A2 x11.2.2.1 (List.length x11.1))).bind fun x14 =>
    ((AV x11.1 x14)).bind fun x15 =>
    ((A2 x11.2.2.1 (List.length x11.1))).bind fun x16 =>
    ((AV x11.1 x16)).bind fun x17 =>
    some (Sum.inl ((List.set x11.1 x16 (IntKind.wrap .i64 (x15 + (65536:Int)))),(x11.2.1,((1:Int),(x11.2.2.2.1,(IntKind.wrap .i64 (x11.2.2.2.2 + (1:Int))))))))
   else
   some (Sum.inl (x11.1,(x11.2.1,((0:Int),(x11.2.2.2.1,(IntKind.wrap .i64 (x11.2.2.2.2 + (1:Int)))))))))
   x9
 else
 some (Sum.inr s0)
def FR (a0:(List Int)) (a1:(List Int)):Option (List (Int)) :=
 ((BY a0)).bind fun x0 =>
 (Ah (fun (s:Tq11)=>HE s.1 s.2.1 s.2.2.1 s.2.2.2.1 s.2.2.2.2) (x0,(a1,((0:Int),((((List.length x0):Nat):Int),(0:Int)))))).bind fun x1 =>
 ((IR x1)).bind fun x2 =>
 some x2
def UF:Ent:=⟨OK,fun x=>FR x.1 x.2⟩
theorem Av0:Ai RR UF:=fnDq (l:=[Eb,Vp]) ⟨⟨Gm,rfl⟩,⟨⟨VH,rfl⟩,trivial⟩⟩ (by kernel_rfl) ⟨Tryz.func196,rfl,by kernel_rfl,rfl⟩ (fun _=>by kernel_rfl)
def G4 (a0:Tq5) (a1:Tq5):Option Tq18 :=
 bif (a0.1==a1.1) then
  ((Hz a0.2 a1.2)).bind fun x0 =>
  ((Bj a0.1 x0)).bind fun x1 =>
  some (x1.2,x1.1)
 else
 ((BH a0.2 a1.2)).bind fun x2 =>
 bif decide (x2>=(0:Int)) then
  ((FR a0.2 a1.2)).bind fun x3 =>
  ((Bj a0.1 x3)).bind fun x4 =>
  some (x4.2,x4.1)
 else
 ((FR a1.2 a0.2)).bind fun x5 =>
 ((Bj a1.1 x5)).bind fun x6 =>
 some (x6.2,x6.1)
def Rd:Ent:=⟨Ri,fun x=>G4 x.1 x.2⟩
theorem VY:Ai RR Rd:=fnDq (l:=[VG,D2,DU,UF]) ⟨⟨Au2,rfl⟩,⟨⟨DM,rfl⟩,⟨⟨E8,rfl⟩,⟨⟨Av0,rfl⟩,trivial⟩⟩⟩⟩ (by kernel_rfl) ⟨Tryz.func140,rfl,by kernel_rfl,rfl⟩ (fun _=>by kernel_rfl)
def FG (a0:Tq5) (a1:Tq5):Option Tq6 :=
 ((F1 a0.2 a1.2)).bind fun x0 =>
 ((Bj (!(a0.1==a1.1)) x0.1)).bind fun x1 =>
 ((Bj a0.1 x0.2)).bind fun x2 =>
 some ((x1.2,x1.1),(x2.2,x2.1))
def PO:Ent:=⟨Q5,fun x=>FG x.1 x.2⟩
theorem VK:Ai RR PO:=fnDq (l:=[OA,D2]) ⟨⟨SA,rfl⟩,⟨⟨DM,rfl⟩,trivial⟩⟩ (by kernel_rfl) ⟨Tryz.func192,rfl,by kernel_rfl,rfl⟩ (fun _=>by kernel_rfl)
def IA (a0:Tq5) (a1:Tq5):Option (Tq8) :=
 ((G5 (a0.1,a0.2) (a1.1,a1.2))).bind fun x0 =>
 (bif a1.1 then
   ((Fq (x0.1,x0.2))).bind fun x1 =>
   some (Sum.inr ((a0.1,a0.2),((a1.1,a1.2),((false,((List.nil:List Int),(false,(List.nil:List Int)))),(x1.1,x1.2)))))
  else
  some (Sum.inr ((a0.1,a0.2),((a1.1,a1.2),((false,((List.nil:List Int),(false,(List.nil:List Int)))),(x0.1,x0.2)))))).bind fun x2 =>
 Sum.elim
  (fun x3 =>
  some x3)
  (fun x4 =>
  ((FG (x4.1.1,x4.1.2) (x4.2.2.2.1,x4.2.2.2.2))).bind fun x5 =>
  ((FG (x4.2.1.1,x4.2.1.2) (x4.2.2.2.1,x4.2.2.2.2))).bind fun x6 =>
  some (x5.1.1,(x5.1.2,(x6.1.1,x6.1.2))))
  x2
def Rl:Ent:=⟨W3,fun x=>IA x.1 x.2⟩
theorem SL:Ai RR Rl:=fnDq (l:=[QP,Ma,PO]) ⟨⟨US,rfl⟩,⟨⟨Ok,rfl⟩,⟨⟨VK,rfl⟩,trivial⟩⟩⟩ (by kernel_rfl) ⟨Tryz.func138,rfl,by kernel_rfl,rfl⟩ (fun _=>by kernel_rfl)
def CH (a0:Tq1) (a1:Tq1):Option (Tq8) :=
 ((BE (a0.1,a0.2.1) (a1.2.2.1,a1.2.2.2))).bind fun x0 =>
 ((BE (a1.1,a1.2.1) (a0.2.2.1,a0.2.2.2))).bind fun x1 =>
 ((G4 (x0.2,x0.1) (x1.2,x1.1))).bind fun x2 =>
 ((BE (a0.2.2.1,a0.2.2.2) (a1.2.2.1,a1.2.2.2))).bind fun x3 =>
 ((IA (x2.1,x2.2) (x3.2,x3.1))).bind fun x4 =>
 some (x4.1,(x4.2.1,(x4.2.2.1,x4.2.2.2)))
def GK:Ent:=⟨PA,fun x=>CH x.1 x.2⟩
theorem HH:Ai RR GK:=fnDq (l:=[GO,Rd,Rl]) ⟨⟨Hr,rfl⟩,⟨⟨VY,rfl⟩,⟨⟨SL,rfl⟩,trivial⟩⟩⟩ (by kernel_rfl) ⟨Tryz.func74,rfl,by kernel_rfl,rfl⟩ (fun _=>by kernel_rfl)
def Ej (a0:Tq1) (a1:Tq1):Option (Tq8) :=
 ((Ji (a1.1,(a1.2.1,(a1.2.2.1,a1.2.2.2))))).bind fun x0 =>
 ((CH (a0.1,(a0.2.1,(a0.2.2.1,a0.2.2.2))) (x0.1,(x0.2.1,(x0.2.2.1,x0.2.2.2))))).bind fun x1 =>
 some (x1.1,(x1.2.1,(x1.2.2.1,x1.2.2.2)))
def L6:Ent:=⟨Qm,fun x=>Ej x.1 x.2⟩
theorem OT:Ai RR L6:=fnDq (l:=[Yo,GK]) ⟨⟨AT0,rfl⟩,⟨⟨HH,rfl⟩,trivial⟩⟩ (by kernel_rfl) ⟨Tryz.func142,rfl,by kernel_rfl,rfl⟩ (fun _=>by kernel_rfl)
def FD (a0:Tq1) (a1:Tq1):Option (Tq8) :=
 ((BE (a0.1,a0.2.1) (a1.2.2.1,a1.2.2.2))).bind fun x0 =>
 ((BE (a0.2.2.1,a0.2.2.2) (a1.1,a1.2.1))).bind fun x1 =>
 ((IA (x0.2,x0.1) (x1.2,x1.1))).bind fun x2 =>
 some (x2.1,(x2.2.1,(x2.2.2.1,x2.2.2.2)))
def Pm:Ent:=⟨Pu,fun x=>FD x.1 x.2⟩
theorem U0:Ai RR Pm:=fnDq (l:=[GO,Rl]) ⟨⟨Hr,rfl⟩,⟨⟨SL,rfl⟩,trivial⟩⟩ (by kernel_rfl) ⟨Tryz.func198,rfl,by kernel_rfl,rfl⟩ (fun _=>by kernel_rfl)
def Ck (a0:Tq1) (a1:Tq1):Option (Tq8) :=
 ((BE (a0.1,a0.2.1) (a1.1,a1.2.1))).bind fun x0 =>
 ((BE (a0.2.2.1,a0.2.2.2) (a1.2.2.1,a1.2.2.2))).bind fun x1 =>
 ((IA (x0.2,x0.1) (x1.2,x1.1))).bind fun x2 =>
 some (x2.1,(x2.2.1,(x2.2.2.1,x2.2.2.2)))
def L7:Ent:=⟨QX,fun x=>Ck x.1 x.2⟩
theorem OU:Ai RR L7:=fnDq (l:=[GO,Rl]) ⟨⟨Hr,rfl⟩,⟨⟨SL,rfl⟩,trivial⟩⟩ (by kernel_rfl) ⟨Tryz.func141,rfl,by kernel_rfl,rfl⟩ (fun _=>by kernel_rfl)
def Vw (a0:Tq7) (a1:Tq7) (a2:Tq1):Option (Tq12) :=
 ((Bc (1:Int))).bind fun x0 =>
 ((Ej (x0.1,(x0.2.1,(x0.2.2.1,x0.2.2.2))) (a2.1,(a2.2.1,(a2.2.2.1,a2.2.2.2))))).bind fun x1 =>
 ((Ck (x1.1,(x1.2.1,(x1.2.2.1,x1.2.2.2))) (a0.1,(a0.2.1,(a0.2.2.1,a0.2.2.2.1))))).bind fun x2 =>
 ((Ck (a2.1,(a2.2.1,(a2.2.2.1,a2.2.2.2))) (a1.1,(a1.2.1,(a1.2.2.1,a1.2.2.2.1))))).bind fun x3 =>
 ((CH (x2.1,(x2.2.1,(x2.2.2.1,x2.2.2.2))) (x3.1,(x3.2.1,(x3.2.2.1,x3.2.2.2))))).bind fun x4 =>
 ((Ck (x1.1,(x1.2.1,(x1.2.2.1,x1.2.2.2))) (a0.2.2.2.2.1,(a0.2.2.2.2.2.1,(a0.2.2.2.2.2.2.1,a0.2.2.2.2.2.2.2))))).bind fun x5 =>
 ((Ck (a2.1,(a2.2.1,(a2.2.2.1,a2.2.2.2))) (a1.2.2.2.2.1,(a1.2.2.2.2.2.1,(a1.2.2.2.2.2.2.1,a1.2.2.2.2.2.2.2))))).bind fun x6 =>
 ((CH (x5.1,(x5.2.1,(x5.2.2.1,x5.2.2.2))) (x6.1,(x6.2.1,(x6.2.2.1,x6.2.2.2))))).bind fun x7 =>
 some (x4.1,(x4.2.1,(x4.2.2.1,(x4.2.2.2,(x7.1,(x7.2.1,(x7.2.2.1,x7.2.2.2)))))))
def A5v:Ent:=⟨AO7,fun x=>Vw x.1 x.2.1 x.2.2⟩
theorem A91:Ai RR A5v:=fnDq (l:=[Ha,L6,L7,GK]) ⟨⟨Gt,rfl⟩,⟨⟨OT,rfl⟩,⟨⟨OU,rfl⟩,⟨⟨HH,rfl⟩,trivial⟩⟩⟩⟩ (by kernel_rfl) ⟨Tryz.func310,rfl,by kernel_rfl,rfl⟩ (fun _=>by kernel_rfl)
def Fe (s0:Bool) (s1:Tq1) (s2:Bool) (s3:Tq4) (s4:Tq4) (s5:Tq4) (s6:Int) (s7:Int):Option ((Bool×(Tq1×(Bool×(Tq4×(Tq4×Tq15))))) ⊕ Tq4) :=
 bif decide (s7<s6) then
  ((AP s5 s7)).bind fun x0 =>
  bif ((((List.length s4):Nat):Int)==(0:Int)) then
   none
  else
  ((AP s4 (Int.tmod (IntKind.wrap .i64 ((IntKind.wrap .i64 (s7 + (((List.length s4):Nat):Int)))-(1:Int))) (((List.length s4):Nat):Int)))).bind fun x1 =>
  (((Gw s2 s0 (s1.1,(s1.2.1,(s1.2.2.1,s1.2.2.2))) (x1.1.1.1,(x1.1.1.2,(x1.1.2.1,(x1.1.2.2,(x1.2.1.1,(x1.2.1.2,(x1.2.2.1,x1.2.2.2))))))))).bind fun x2 =>
   ((Gw x2.1 x2.2.1 (x2.2.2.1.1,(x2.2.2.1.2.1,(x2.2.2.1.2.2.1,x2.2.2.1.2.2.2))) (x0.1.1.1,(x0.1.1.2,(x0.1.2.1,(x0.1.2.2,(x0.2.1.1,(x0.2.1.2,(x0.2.2.1,x0.2.2.2))))))))).bind fun x3 =>
   bif (!(x2.2.2.2==x3.2.2.2)) then
    ((BC (x1.1.1.1,(x1.1.1.2,(x1.1.2.1,(x1.1.2.2,(x1.2.1.1,(x1.2.1.2,(x1.2.2.1,x1.2.2.2))))))) x3.2.1)).bind fun x4 =>
    ((Ej (x3.2.2.1.1,(x3.2.2.1.2.1,(x3.2.2.1.2.2.1,x3.2.2.1.2.2.2))) (x4.1,(x4.2.1,(x4.2.2.1,x4.2.2.2))))).bind fun x5 =>
    ((BC (x0.1.1.1,(x0.1.1.2,(x0.1.2.1,(x0.1.2.2,(x0.2.1.1,(x0.2.1.2,(x0.2.2.1,x0.2.2.2))))))) x3.2.1)).bind fun x6 =>
    ((BC (x1.1.1.1,(x1.1.1.2,(x1.1.2.1,(x1.1.2.2,(x1.2.1.1,(x1.2.1.2,(x1.2.2.1,x1.2.2.2))))))) x3.2.1)).bind fun x7 =>
    ((Ej (x6.1,(x6.2.1,(x6.2.2.1,x6.2.2.2))) (x7.1,(x7.2.1,(x7.2.2.1,x7.2.2.2))))).bind fun x8 =>
    ((FD (x5.1,(x5.2.1,(x5.2.2.1,x5.2.2.2))) (x8.1,(x8.2.1,(x8.2.2.1,x8.2.2.2))))).bind fun x9 =>
    ((Vw (x1.1.1.1,(x1.1.1.2,(x1.1.2.1,(x1.1.2.2,(x1.2.1.1,(x1.2.1.2,(x1.2.2.1,x1.2.2.2))))))) (x0.1.1.1,(x0.1.1.2,(x0.1.2.1,(x0.1.2.2,(x0.2.1.1,(x0.2.1.2,(x0.2.2.1,x0.2.2.2))))))) (x9.1,(x9.2.1,(x9.2.2.1,x9.2.2.2))))).bind fun x10 =>
    ((Ct 128 8 s3 (List.cons (((x10.1,x10.2.1),(x10.2.2.1,x10.2.2.2.1)),((x10.2.2.2.2.1,x10.2.2.2.2.2.1),(x10.2.2.2.2.2.2.1,x10.2.2.2.2.2.2.2))) (List.nil:List (Tq0×Tq0))))).bind fun x11 =>
    some (Sum.inr (x3.2.1,((x3.2.2.1.1,(x3.2.2.1.2.1,(x3.2.2.1.2.2.1,x3.2.2.1.2.2.2))),(x3.1,(x11,((x0.1.1.1,(x0.1.1.2,(x0.1.2.1,(x0.1.2.2,(x0.2.1.1,(x0.2.1.2,(x0.2.2.1,x0.2.2.2))))))),(s4,(s5,(s6,s7)))))))))
   else
   some (Sum.inr (x3.2.1,((x3.2.2.1.1,(x3.2.2.1.2.1,(x3.2.2.1.2.2.1,x3.2.2.1.2.2.2))),(x3.1,(s3,((x0.1.1.1,(x0.1.1.2,(x0.1.2.1,(x0.1.2.2,(x0.2.1.1,(x0.2.1.2,(x0.2.2.1,x0.2.2.2))))))),(s4,(s5,(s6,s7)))))))))).bind fun x12 =>
  Sum.elim
   (fun x13 =>
   some x13)
   (fun x14 =>
   ((Gw x14.2.2.1 x14.1 (x14.2.1.1,(x14.2.1.2.1,(x14.2.1.2.2.1,x14.2.1.2.2.2))) (x14.2.2.2.2.1.1,(x14.2.2.2.2.1.2.1,(x14.2.2.2.2.1.2.2.1,(x14.2.2.2.2.1.2.2.2.1,(x14.2.2.2.2.1.2.2.2.2.1,(x14.2.2.2.2.1.2.2.2.2.2.1,(x14.2.2.2.2.1.2.2.2.2.2.2.1,x14.2.2.2.2.1.2.2.2.2.2.2.2))))))))).bind fun x15 =>
   bif x15.2.2.2 then
    ((Ct 128 8 x14.2.2.2.1 (List.cons (((x14.2.2.2.2.1.1,x14.2.2.2.2.1.2.1),(x14.2.2.2.2.1.2.2.1,x14.2.2.2.2.1.2.2.2.1)),((x14.2.2.2.2.1.2.2.2.2.1,x14.2.2.2.2.1.2.2.2.2.2.1),(x14.2.2.2.2.1.2.2.2.2.2.2.1,x14.2.2.2.2.1.2.2.2.2.2.2.2))) (List.nil:List (Tq0×Tq0))))).bind fun x16 =>
    some (Sum.inl (x15.2.1,((x15.2.2.1.1,(x15.2.2.1.2.1,(x15.2.2.1.2.2.1,x15.2.2.1.2.2.2))),(x15.1,(x16,(x14.2.2.2.2.2.1,(x14.2.2.2.2.2.2.1,(x14.2.2.2.2.2.2.2.1,(IntKind.wrap .i64 (x14.2.2.2.2.2.2.2.2 + (1:Int)))))))))))
   else
   some (Sum.inl (x15.2.1,((x15.2.2.1.1,(x15.2.2.1.2.1,(x15.2.2.1.2.2.1,x15.2.2.1.2.2.2))),(x15.1,(x14.2.2.2.1,(x14.2.2.2.2.2.1,(x14.2.2.2.2.2.2.1,(x14.2.2.2.2.2.2.2.1,(IntKind.wrap .i64 (x14.2.2.2.2.2.2.2.2 + (1:Int))))))))))))
   x12
 else
 some (Sum.inr s3)
def Jg (a0:Tq4) (a1:Bool) (a2:Bool) (a3:Tq1):Option (List ((Tq6×Tq6))) :=
 (Ah (fun (s:(Bool×(Tq1×(Bool×(Tq4×(Tq4×Tq15))))))=>Fe s.1 s.2.1 s.2.2.1 s.2.2.2.1 s.2.2.2.2.1 s.2.2.2.2.2.1 s.2.2.2.2.2.2.1 s.2.2.2.2.2.2.2) (a1,((a3.1,(a3.2.1,(a3.2.2.1,a3.2.2.2))),(a2,((List.nil:List (Tq0×Tq0)),(a0,(a0,((((List.length a0):Nat):Int),(0:Int))))))))).bind fun x0 =>
 some x0
def AX2:Ent:=⟨Al1,fun x=>Jg x.1 x.2.1 x.2.2.1 x.2.2.2⟩
theorem A7r:Ai RR AX2:=fnDq (l:=[Ad2,GC,L6,Pm,A5v]) ⟨⟨A2o,rfl⟩,⟨⟨JH,rfl⟩,⟨⟨OT,rfl⟩,⟨⟨U0,rfl⟩,⟨⟨A91,rfl⟩,trivial⟩⟩⟩⟩⟩ (by kernel_rfl) ⟨Tryz.func296,rfl,by kernel_rfl,rfl⟩ (fun _=>by kernel_rfl)
def Jm (a0:Tq4) (a1:Tq7) (a2:Tq7):Option (List ((Tq6×Tq6))) :=
 ((Jg a0 false true (a1.1,(a1.2.1,(a1.2.2.1,a1.2.2.2.1))))).bind fun x0 =>
 ((Jg x0 false false (a2.1,(a2.2.1,(a2.2.2.1,a2.2.2.2.1))))).bind fun x1 =>
 ((Jg x1 true true (a1.2.2.2.2.1,(a1.2.2.2.2.2.1,(a1.2.2.2.2.2.2.1,a1.2.2.2.2.2.2.2))))).bind fun x2 =>
 ((Jg x2 true false (a2.2.2.2.2.1,(a2.2.2.2.2.2.1,(a2.2.2.2.2.2.2.1,a2.2.2.2.2.2.2.2))))).bind fun x3 =>
 some x3
def Yp:Ent:=⟨Pv,fun x=>Jm x.1 x.2.1 x.2.2⟩
theorem AN9:Ai RR Yp:=fnDq (l:=[AX2]) ⟨⟨A7r,rfl⟩,trivial⟩ (by kernel_rfl) ⟨Tryz.func269,rfl,by kernel_rfl,rfl⟩ (fun _=>by kernel_rfl)
def It (a0:Tq1):Option (Tq8) :=
 ((Bj a0.1 a0.2.1)).bind fun x0 =>
 ((Bj false a0.2.2.2)).bind fun x1 =>
 some (x0.2,(x0.1,(x1.2,x1.1)))
def An9:Ent:=⟨Th,fun x=>It x⟩
theorem AW7:Ai RR An9:=fnDq (l:=[D2]) ⟨⟨DM,rfl⟩,trivial⟩ (by kernel_rfl) ⟨Tryz.func315,rfl,by kernel_rfl,rfl⟩ (fun _=>by kernel_rfl)
def LF (a0:Tq7):Option (Tq12) :=
 ((It (a0.1,(a0.2.1,(a0.2.2.1,a0.2.2.2.1))))).bind fun x0 =>
 ((It (a0.2.2.2.2.1,(a0.2.2.2.2.2.1,(a0.2.2.2.2.2.2.1,a0.2.2.2.2.2.2.2))))).bind fun x1 =>
 some (x0.1,(x0.2.1,(x0.2.2.1,(x0.2.2.2,(x1.1,(x1.2.1,(x1.2.2.1,x1.2.2.2)))))))
def Ap6:Ent:=⟨SN,fun x=>LF x⟩
theorem A12:Ai RR Ap6:=fnDq (l:=[An9]) ⟨⟨AW7,rfl⟩,trivial⟩ (by kernel_rfl) ⟨Tryz.func307,rfl,by kernel_rfl,rfl⟩ (fun _=>by kernel_rfl)
def DJ (s0:Tq4) (s1:Tq4) (s2:Int) (s3:Int):Option ((Tq4×Tq15) ⊕ Tq4) :=
 bif decide (s3<s2) then
  ((AP s1 s3)).bind fun x0 =>
  ((LF (x0.1.1.1,(x0.1.1.2,(x0.1.2.1,(x0.1.2.2,(x0.2.1.1,(x0.2.1.2,(x0.2.2.1,x0.2.2.2))))))))).bind fun x1 =>
  ((Ct 128 8 s0 (List.cons (((x1.1,x1.2.1),(x1.2.2.1,x1.2.2.2.1)),((x1.2.2.2.2.1,x1.2.2.2.2.2.1),(x1.2.2.2.2.2.2.1,x1.2.2.2.2.2.2.2))) (List.nil:List (Tq0×Tq0))))).bind fun x2 =>
  some (Sum.inl (x2,(s1,(s2,(IntKind.wrap .i64 (s3 + (1:Int)))))))
 else
 some (Sum.inr s0)
def I2 (a0:Tq4):Option (List ((Tq6×Tq6))) :=
 (Ah (fun (s:(Tq4×Tq15))=>DJ s.1 s.2.1 s.2.2.1 s.2.2.2) ((List.nil:List (Tq0×Tq0)),(a0,((((List.length a0):Nat):Int),(0:Int))))).bind fun x0 =>
 some x0
def X1:Ent:=⟨P4,fun x=>I2 x⟩
theorem AQ4:Ai RR X1:=fnDq (l:=[Ap6]) ⟨⟨A12,rfl⟩,trivial⟩ (by kernel_rfl) ⟨Tryz.func295,rfl,by kernel_rfl,rfl⟩ (fun _=>by kernel_rfl)
def EN (a0:Tq4):Option Tq27 :=
 ((DD a0)).bind fun x0 =>
 bif (!x0) then
  some ((List.nil:List (Tq0×Tq0)),false)
 else
 ((I2 a0)).bind fun x1 =>
 some (x1,true)
def Ph:Ent:=⟨Jz,fun x=>EN x⟩
theorem WP:Ai RR Ph:=fnDq (l:=[HM,X1]) ⟨⟨IH,rfl⟩,⟨⟨AQ4,rfl⟩,trivial⟩⟩ (by kernel_rfl) ⟨Tryz.func268,rfl,by kernel_rfl,rfl⟩ (fun _=>by kernel_rfl)
def B0 (a0:Tq4) (a1:Tq7) (a2:Tq7):Option Tq27 :=
 ((DD a0)).bind fun x0 =>
 bif (!x0) then
  some ((List.nil:List (Tq0×Tq0)),false)
 else
 ((FO (a1.1,(a1.2.1,(a1.2.2.1,(a1.2.2.2.1,(a1.2.2.2.2.1,(a1.2.2.2.2.2.1,(a1.2.2.2.2.2.2.1,a1.2.2.2.2.2.2.2))))))) (2:Int))).bind fun x1 =>
 bif (!x1) then
  some ((List.nil:List (Tq0×Tq0)),false)
 else
 ((FO (a2.1,(a2.2.1,(a2.2.2.1,(a2.2.2.2.1,(a2.2.2.2.2.1,(a2.2.2.2.2.2.1,(a2.2.2.2.2.2.2.1,a2.2.2.2.2.2.2.2))))))) (2:Int))).bind fun x2 =>
 bif (!x2) then
  some ((List.nil:List (Tq0×Tq0)),false)
 else
 ((CT (a2.1,(a2.2.1,(a2.2.2.1,a2.2.2.2.1))) (a1.1,(a1.2.1,(a1.2.2.1,a1.2.2.2.1))))).bind fun x3 =>
 bif x3 then
  some ((List.nil:List (Tq0×Tq0)),false)
 else
 ((CT (a2.2.2.2.2.1,(a2.2.2.2.2.2.1,(a2.2.2.2.2.2.2.1,a2.2.2.2.2.2.2.2))) (a1.2.2.2.2.1,(a1.2.2.2.2.2.1,(a1.2.2.2.2.2.2.1,a1.2.2.2.2.2.2.2))))).bind fun x4 =>
 bif x4 then
  some ((List.nil:List (Tq0×Tq0)),false)
 else
 ((Jm a0 (a1.1,(a1.2.1,(a1.2.2.1,(a1.2.2.2.1,(a1.2.2.2.2.1,(a1.2.2.2.2.2.1,(a1.2.2.2.2.2.2.1,a1.2.2.2.2.2.2.2))))))) (a2.1,(a2.2.1,(a2.2.2.1,(a2.2.2.2.1,(a2.2.2.2.2.1,(a2.2.2.2.2.2.1,(a2.2.2.2.2.2.2.1,a2.2.2.2.2.2.2.2))))))))).bind fun x5 =>
 ((EN x5)).bind fun x6 =>
 some (x6.1,x6.2)
def Yh:Ent:=⟨QC,fun x=>B0 x.1 x.2.1 x.2.2⟩
theorem AS5:Ai RR Yh:=fnDq (l:=[HM,Wf,JR,Yp,Ph]) ⟨⟨IH,rfl⟩,⟨⟨Ah0,rfl⟩,⟨⟨MA,rfl⟩,⟨⟨AN9,rfl⟩,⟨⟨WP,rfl⟩,trivial⟩⟩⟩⟩⟩ (by kernel_rfl) ⟨Tryz.func226,rfl,by kernel_rfl,rfl⟩ (fun _=>by kernel_rfl)
def CR (a0:Tq1):Option (Tq8) :=
 ((Bc (2:Int))).bind fun x0 =>
 ((FD (a0.1,(a0.2.1,(a0.2.2.1,a0.2.2.2))) (x0.1,(x0.2.1,(x0.2.2.1,x0.2.2.2))))).bind fun x1 =>
 some (x1.1,(x1.2.1,(x1.2.2.1,x1.2.2.2)))
def NF:Ent:=⟨Ot,fun x=>CR x⟩
theorem SI:Ai RR NF:=fnDq (l:=[Ha,Pm]) ⟨⟨Gt,rfl⟩,⟨⟨U0,rfl⟩,trivial⟩⟩ (by kernel_rfl) ⟨Tryz.func143,rfl,by kernel_rfl,rfl⟩ (fun _=>by kernel_rfl)
def BA (s0:Tq1) (s1:Tq1) (s2:Tq4) (s3:Tq4) (s4:Int) (s5:Int):Option ((Tq1×(Tq1×(Tq4×Tq15))) ⊕ (Tq1×Tq1)) :=
 bif decide (s5<s4) then
  ((AP s3 s5)).bind fun x0 =>
  bif ((((List.length s2):Nat):Int)==(0:Int)) then
   none
  else
  ((AP s2 (Int.tmod (IntKind.wrap .i64 (s5 + (1:Int))) (((List.length s2):Nat):Int)))).bind fun x1 =>
  ((Ck (x0.1.1.1,(x0.1.1.2,(x0.1.2.1,x0.1.2.2))) (x1.2.1.1,(x1.2.1.2,(x1.2.2.1,x1.2.2.2))))).bind fun x2 =>
  ((Ck (x1.1.1.1,(x1.1.1.2,(x1.1.2.1,x1.1.2.2))) (x0.2.1.1,(x0.2.1.2,(x0.2.2.1,x0.2.2.2))))).bind fun x3 =>
  ((Ej (x2.1,(x2.2.1,(x2.2.2.1,x2.2.2.2))) (x3.1,(x3.2.1,(x3.2.2.1,x3.2.2.2))))).bind fun x4 =>
  ((CH (s1.1,(s1.2.1,(s1.2.2.1,s1.2.2.2))) (x4.1,(x4.2.1,(x4.2.2.1,x4.2.2.2))))).bind fun x5 =>
  some (Sum.inl ((s0.1,(s0.2.1,(s0.2.2.1,s0.2.2.2))),((x5.1,(x5.2.1,(x5.2.2.1,x5.2.2.2))),(s2,(s3,(s4,(IntKind.wrap .i64 (s5 + (1:Int)))))))))
 else
 some (Sum.inr ((s0.1,(s0.2.1,(s0.2.2.1,s0.2.2.2))),(s1.1,(s1.2.1,(s1.2.2.1,s1.2.2.2)))))
def HK (a0:Tq4):Option (Tq8) :=
 ((Bc (0:Int))).bind fun x0 =>
 (Ah (fun (s:(Tq1×(Tq1×(Tq4×Tq15))))=>BA s.1 s.2.1 s.2.2.1 s.2.2.2.1 s.2.2.2.2.1 s.2.2.2.2.2) ((false,((List.nil:List Int),(false,(List.nil:List Int)))),((x0.1,(x0.2.1,(x0.2.2.1,x0.2.2.2))),(a0,(a0,((((List.length a0):Nat):Int),(0:Int))))))).bind fun x1 =>
 ((CR (x1.2.1,(x1.2.2.1,(x1.2.2.2.1,x1.2.2.2.2))))).bind fun x2 =>
 some (x2.1,(x2.2.1,(x2.2.2.1,x2.2.2.2)))
def Vv:Ent:=⟨OB,fun x=>HK x⟩
theorem Au7:Ai RR Vv:=fnDq (l:=[Ha,L7,L6,GK,NF]) ⟨⟨Gt,rfl⟩,⟨⟨OU,rfl⟩,⟨⟨OT,rfl⟩,⟨⟨HH,rfl⟩,⟨⟨SI,rfl⟩,trivial⟩⟩⟩⟩⟩ (by kernel_rfl) ⟨Tryz.func75,rfl,by kernel_rfl,rfl⟩ (fun _=>by kernel_rfl)
def D3 (a0:Tq1):Option (Tq8×Bool) :=
 ((BT (a0.1,(a0.2.1,(a0.2.2.1,a0.2.2.2))) (40:Int))).bind fun x0 =>
 bif (!x0) then
  some ((false,((List.nil:List Int),(false,(List.nil:List Int)))),false)
 else
 some ((a0.1,(a0.2.1,(a0.2.2.1,a0.2.2.2))),true)
def KU:Ent:=⟨Lo,fun x=>D3 x⟩
theorem OY:Ai RR KU:=fnDq (l:=[Ju]) ⟨⟨Nn,rfl⟩,trivial⟩ (by kernel_rfl) ⟨Tryz.func77,rfl,by kernel_rfl,rfl⟩ (fun _=>by kernel_rfl)
def FK (a0:Tq4):Option (Tq8×Bool) :=
 ((DD a0)).bind fun x0 =>
 bif (!x0) then
  some ((false,((List.nil:List Int),(false,(List.nil:List Int)))),false)
 else
 ((HK a0)).bind fun x1 =>
 ((D3 (x1.1,(x1.2.1,(x1.2.2.1,x1.2.2.2))))).bind fun x2 =>
 some ((x2.1.1,(x2.1.2.1,(x2.1.2.2.1,x2.1.2.2.2))),x2.2)
def Vb:Ent:=⟨NP,fun x=>FK x⟩
theorem Av2:Ai RR Vb:=fnDq (l:=[HM,Vv,KU]) ⟨⟨IH,rfl⟩,⟨⟨Au7,rfl⟩,⟨⟨OY,rfl⟩,trivial⟩⟩⟩ (by kernel_rfl) ⟨Tryz.func227,rfl,by kernel_rfl,rfl⟩ (fun _=>by kernel_rfl)
def Eg (a0:Tq4) (a1:Int) (a2:Int):Option (Tq8×Bool) :=
 ((Bc a1)).bind fun x0 =>
 ((Bc a2)).bind fun x1 =>
 ((Bc (IntKind.wrap .i64 (a1 + (1:Int))))).bind fun x2 =>
 ((Bc (IntKind.wrap .i64 (a2 + (1:Int))))).bind fun x3 =>
 ((B0 a0 (x0.1,(x0.2.1,(x0.2.2.1,(x0.2.2.2,(x1.1,(x1.2.1,(x1.2.2.1,x1.2.2.2))))))) (x2.1,(x2.2.1,(x2.2.2.1,(x2.2.2.2,(x3.1,(x3.2.1,(x3.2.2.1,x3.2.2.2))))))))).bind fun x4 =>
 bif (!x4.2) then
  some ((false,((List.nil:List Int),(false,(List.nil:List Int)))),false)
 else
 ((FK x4.1)).bind fun x5 =>
 some ((x5.1.1,(x5.1.2.1,(x5.1.2.2.1,x5.1.2.2.2))),x5.2)
def Y3:Ent:=⟨QE,fun x=>Eg x.1 x.2.1 x.2.2⟩
theorem AV3:Ai RR Y3:=fnDq (l:=[Ha,Yh,Vb]) ⟨⟨Gt,rfl⟩,⟨⟨AS5,rfl⟩,⟨⟨Av2,rfl⟩,trivial⟩⟩⟩ (by kernel_rfl) ⟨Tryz.func175,rfl,by kernel_rfl,rfl⟩ (fun _=>by kernel_rfl)
def Cc (s0:Tq2) (s1:(List Tq0)) (s2:Tq4) (s3:Int) (s4:Int):Option ((Tq2×((List Tq0)×Tq15)) ⊕ (Tq25 ⊕ Tq30)) :=
 bif decide (s4<(IntKind.wrap .i64 (s0.1 + s0.2.2.1))) then
  ((Eg s2 s4 s3)).bind fun x0 =>
  bif (!x0.2) then
   some (Sum.inr (Sum.inr ((List.nil:List Tq0),false)))
  else
  ((Ct 64 4 s1 (List.cons ((x0.1.1,x0.1.2.1),(x0.1.2.2.1,x0.1.2.2.2)) (List.nil:List Tq0)))).bind fun x1 =>
  some (Sum.inl ((s0.1,(s0.2.1,(s0.2.2.1,s0.2.2.2))),(x1,(s2,(s3,(IntKind.wrap .i64 (s4 + (1:Int))))))))
 else
 some (Sum.inr (Sum.inl ((s0.1,(s0.2.1,(s0.2.2.1,s0.2.2.2))),(s1,(s2,s3)))))
def BQ (s0:Tq2) (s1:(List Tq0)) (s2:Tq4) (s3:Int):Option (Tq25 ⊕ ((List Tq0) ⊕ Tq30)) :=
 bif decide (s3<(IntKind.wrap .i64 (s0.2.1 + s0.2.2.2))) then
  (Ah (fun (s:(Tq2×((List Tq0)×Tq15)))=>Cc s.1 s.2.1 s.2.2.1 s.2.2.2.1 s.2.2.2.2) ((s0.1,(s0.2.1,(s0.2.2.1,s0.2.2.2))),(s1,(s2,(s3,s0.1))))).bind fun x0 =>
  Sum.elim
   (fun x1 =>
   some (Sum.inl ((x1.1.1,(x1.1.2.1,(x1.1.2.2.1,x1.1.2.2.2))),(x1.2.1,(x1.2.2.1,(IntKind.wrap .i64 (x1.2.2.2 + (1:Int))))))))
   (fun x2 =>
   some (Sum.inr (Sum.inr (x2.1,x2.2))))
   x0
 else
 some (Sum.inr (Sum.inl s1))
def B8 (a0:Tq4) (a1:Tq2):Option (List (Tq6)×Bool) :=
 ((DD a0)).bind fun x0 =>
 bif (!x0) then
  some ((List.nil:List Tq0),false)
 else
 ((Dj (a1.1,(a1.2.1,(a1.2.2.1,a1.2.2.2))))).bind fun x1 =>
 bif (!x1) then
  some ((List.nil:List Tq0),false)
 else
 (Ah (fun (s:Tq25)=>BQ s.1 s.2.1 s.2.2.1 s.2.2.2) ((a1.1,(a1.2.1,(a1.2.2.1,a1.2.2.2))),((List.nil:List Tq0),(a0,a1.2.1)))).bind fun x2 =>
 Sum.elim
  (fun x3 =>
  some (x3,true))
  (fun x4 =>
  some (x4.1,x4.2))
  x2
def UT:Ent:=⟨NM,fun x=>B8 x.1 x.2⟩
theorem Au8:Ai RR UT:=fnDq (l:=[HM,K4,Y3]) ⟨⟨IH,rfl⟩,⟨⟨Pd,rfl⟩,⟨⟨AV3,rfl⟩,trivial⟩⟩⟩ (by kernel_rfl) ⟨Tryz.func116,rfl,by kernel_rfl,rfl⟩ (fun _=>by kernel_rfl)
def Cj (s0:Tq2) (s1:(List Tq0)) (s2:(List Tq3)) (s3:Int) (s4:Int):Option (Tq13 ⊕ (Tq2×((List Tq0)×(List Tq3)))) :=
 bif decide (s4<s3) then
  ((Bc (0:Int))).bind fun x0 =>
  ((Ct 64 4 s1 (List.cons ((x0.1,x0.2.1),(x0.2.2.1,x0.2.2.2)) (List.nil:List Tq0)))).bind fun x1 =>
  some (Sum.inl ((s0.1,(s0.2.1,(s0.2.2.1,s0.2.2.2))),(x1,(s2,(s3,(IntKind.wrap .i64 (s4 + (1:Int))))))))
 else
 some (Sum.inr ((s0.1,(s0.2.1,(s0.2.2.1,s0.2.2.2))),(s1,s2)))
def BR (s0:Tq2) (s1:(List Tq0)) (s2:(List Tq3)) (s3:Int) (s4:Int) (s5:(List Tq0)) (s6:Int) (s7:Int):Option (Tq17 ⊕ (Tq13 ⊕ Tq30)) :=
 bif decide (s7<s6) then
  ((AP s5 s7)).bind fun x0 =>
  ((A2 s7 (List.length s1))).bind fun x1 =>
  ((AV s1 x1)).bind fun x2 =>
  ((CH (x2.1.1,(x2.1.2,(x2.2.1,x2.2.2))) (x0.1.1,(x0.1.2,(x0.2.1,x0.2.2))))).bind fun x3 =>
  ((D3 (x3.1,(x3.2.1,(x3.2.2.1,x3.2.2.2))))).bind fun x4 =>
  ((A2 s7 (List.length s1))).bind fun x5 =>
  ((AV s1 x5)).bind fun x6 =>
  bif (!x4.2) then
   some (Sum.inr (Sum.inr ((List.nil:List Tq0),false)))
  else
  some (Sum.inl ((s0.1,(s0.2.1,(s0.2.2.1,s0.2.2.2))),((List.set s1 x5 ((x4.1.1,x4.1.2.1),(x4.1.2.2.1,x4.1.2.2.2))),(s2,(s3,(s4,(s5,(s6,(IntKind.wrap .i64 (s7 + (1:Int)))))))))))
 else
 some (Sum.inr (Sum.inl ((s0.1,(s0.2.1,(s0.2.2.1,s0.2.2.2))),(s1,(s2,(s3,s4))))))
def Bp (s0:Tq2) (s1:(List Tq0)) (s2:(List Tq3)) (s3:Int) (s4:Int):Option (Tq13 ⊕ ((List Tq0) ⊕ Tq30)) :=
 bif decide (s4<s3) then
  ((AP s2 s4)).bind fun x0 =>
  ((LD x0)).bind fun x1 =>
  ((B8 x1 (s0.1,(s0.2.1,(s0.2.2.1,s0.2.2.2))))).bind fun x2 =>
  bif (!x2.2) then
   some (Sum.inr (Sum.inr ((List.nil:List Tq0),false)))
  else
  (Ah (fun (s:Tq17)=>BR s.1 s.2.1 s.2.2.1 s.2.2.2.1 s.2.2.2.2.1 s.2.2.2.2.2.1 s.2.2.2.2.2.2.1 s.2.2.2.2.2.2.2) ((s0.1,(s0.2.1,(s0.2.2.1,s0.2.2.2))),(s1,(s2,(s3,(s4,(x2.1,((((List.length x2.1):Nat):Int),(0:Int))))))))).bind fun x3 =>
  Sum.elim
   (fun x4 =>
   some (Sum.inl ((x4.1.1,(x4.1.2.1,(x4.1.2.2.1,x4.1.2.2.2))),(x4.2.1,(x4.2.2.1,(x4.2.2.2.1,(IntKind.wrap .i64 (x4.2.2.2.2 + (1:Int)))))))))
   (fun x5 =>
   some (Sum.inr (Sum.inr (x5.1,x5.2))))
   x3
 else
 some (Sum.inr (Sum.inl s1))
def ES (a0:(List UInt8)) (a1:Tq2):Option (List (Tq6)×Bool) :=
 ((Gl a0)).bind fun x0 =>
 bif (!x0.2.2.2) then
  some ((List.nil:List Tq0),false)
 else
 ((Dj (a1.1,(a1.2.1,(a1.2.2.1,a1.2.2.2))))).bind fun x1 =>
 bif (!x1) then
  some ((List.nil:List Tq0),false)
 else
 (Ah (fun (s:Tq13)=>Cj s.1 s.2.1 s.2.2.1 s.2.2.2.1 s.2.2.2.2) ((a1.1,(a1.2.1,(a1.2.2.1,a1.2.2.2))),((List.nil:List Tq0),(x0.1,((IntKind.wrap .i64 (a1.2.2.1*a1.2.2.2)),(0:Int)))))).bind fun x2 =>
 (Ah (fun (s:Tq13)=>Bp s.1 s.2.1 s.2.2.1 s.2.2.2.1 s.2.2.2.2) ((x2.1.1,(x2.1.2.1,(x2.1.2.2.1,x2.1.2.2.2))),(x2.2.1,(x2.2.2,((((List.length x2.2.2):Nat):Int),(0:Int)))))).bind fun x3 =>
 Sum.elim
  (fun x4 =>
  some (x4,true))
  (fun x5 =>
  some (x5.1,x5.2))
  x3
def Si:Ent:=⟨Mw,fun x=>ES x.1 x.2⟩
theorem Ak4:Ai RR Si:=fnDq (l:=[Sl,K4,Ha,Am0,UT,GK,KU]) ⟨⟨Ab8,rfl⟩,⟨⟨Pd,rfl⟩,⟨⟨Gt,rfl⟩,⟨⟨A1z,rfl⟩,⟨⟨Au8,rfl⟩,⟨⟨HH,rfl⟩,⟨⟨OY,rfl⟩,trivial⟩⟩⟩⟩⟩⟩⟩ (by kernel_rfl) ⟨Tryz.func50,rfl,by kernel_rfl,rfl⟩ (fun _=>by kernel_rfl)
def L2 (a0:Tq5):Option Tq18 :=
 ((Bj false a0.2)).bind fun x0 =>
 some (x0.2,x0.1)
def YR:Ent:=⟨PR,fun x=>L2 x⟩
theorem AR1:Ai RR YR:=fnDq (l:=[D2]) ⟨⟨DM,rfl⟩,trivial⟩ (by kernel_rfl) ⟨Tryz.func263,rfl,by kernel_rfl,rfl⟩ (fun _=>by kernel_rfl)
def IW (a0:Tq1):Option (Tq8) :=
 ((L2 (a0.1,a0.2.1))).bind fun x0 =>
 ((Bj false a0.2.2.2)).bind fun x1 =>
 some (x0.1,(x0.2,(x1.2,x1.1)))
def Yw:Ent:=⟨Py,fun x=>IW x⟩
theorem AT1:Ai RR Yw:=fnDq (l:=[YR,D2]) ⟨⟨AR1,rfl⟩,⟨⟨DM,rfl⟩,trivial⟩⟩ (by kernel_rfl) ⟨Tryz.func219,rfl,by kernel_rfl,rfl⟩ (fun _=>by kernel_rfl)
def Mh (a0:Tq5) (a1:Tq5):Option Tq18 :=
 ((Fq (a1.1,a1.2))).bind fun x0 =>
 ((G4 (a0.1,a0.2) (x0.1,x0.2))).bind fun x1 =>
 some (x1.1,x1.2)
def YJ:Ent:=⟨QS,fun x=>Mh x.1 x.2⟩
theorem AT2:Ai RR YJ:=fnDq (l:=[Ma,Rd]) ⟨⟨Ok,rfl⟩,⟨⟨VY,rfl⟩,trivial⟩⟩ (by kernel_rfl) ⟨Tryz.func294,rfl,by kernel_rfl,rfl⟩ (fun _=>by kernel_rfl)
def FZ (a0:Tq5) (a1:Tq5):Option Tq18 :=
 ((FG (a0.1,a0.2) (a1.1,a1.2))).bind fun x0 =>
 ((BF (x0.2.1,x0.2.2))).bind fun x1 =>
 bif decide (x1<(0:Int)) then
  ((Dr (1:Int))).bind fun x2 =>
  ((Mh (x0.1.1,x0.1.2) (x2.1,x2.2))).bind fun x3 =>
  some (x3.1,x3.2)
 else
 some (x0.1.1,x0.1.2)
def MM:Ent:=⟨Iq,fun x=>FZ x.1 x.2⟩
theorem Vt:Ai RR MM:=fnDq (l:=[PO,JV,J5,YJ]) ⟨⟨VK,rfl⟩,⟨⟨Ms,rfl⟩,⟨⟨Lm,rfl⟩,⟨⟨AT2,rfl⟩,trivial⟩⟩⟩⟩ (by kernel_rfl) ⟨Tryz.func266,rfl,by kernel_rfl,rfl⟩ (fun _=>by kernel_rfl)
def EV (a0:Tq1):Option Tq18 :=
 ((FZ (a0.1,a0.2.1) (a0.2.2.1,a0.2.2.2))).bind fun x0 =>
 some (x0.1,x0.2)
def Su:Ent:=⟨Mk,fun x=>EV x⟩
theorem Ak8:Ai RR Su:=fnDq (l:=[MM]) ⟨⟨Vt,rfl⟩,trivial⟩ (by kernel_rfl) ⟨Tryz.func222,rfl,by kernel_rfl,rfl⟩ (fun _=>by kernel_rfl)
def FB (s0:Tq5) (s1:Int) (s2:Int):Option ((Tq5×(Int×Int)) ⊕ (Tq5×Int)) :=
 bif decide (s2>=(0:Int)) then
  ((AP s0.2 s2)).bind fun x0 =>
  some (Sum.inl ((s0.1,s0.2),((IntKind.wrap .i64 ((IntKind.wrap .i64 (s1*(65536:Int))) + x0)),(IntKind.wrap .i64 (s2-(1:Int))))))
 else
 some (Sum.inr ((s0.1,s0.2),s1))
def Ie (a0:Tq5):Option (Int×Bool) :=
 ((GN (a0.1,a0.2))).bind fun x0 =>
 bif (!x0) then
  some ((0:Int),false)
 else
 ((Dr (4611686018427387904:Int))).bind fun x1 =>
 ((BH a0.2 x1.2)).bind fun x2 =>
 bif decide (x2>(0:Int)) then
  some ((0:Int),false)
 else
 (Ah (fun (s:(Tq5×(Int×Int)))=>FB s.1 s.2.1 s.2.2) ((a0.1,a0.2),((0:Int),(IntKind.wrap .i64 ((((List.length a0.2):Nat):Int)-(1:Int)))))).bind fun x3 =>
 bif x3.1.1 then
  some ((IntKind.wrap .i64 ((0:Int)-x3.2)),true)
 else
 some (x3.2,true)
def AF3:Ent:=⟨Xb,fun x=>Ie x⟩
theorem A2W:Ai RR AF3:=fnDq (l:=[Pp,J5,DU]) ⟨⟨UJ,rfl⟩,⟨⟨Lm,rfl⟩,⟨⟨E8,rfl⟩,trivial⟩⟩⟩ (by kernel_rfl) ⟨Tryz.func221,rfl,by kernel_rfl,rfl⟩ (fun _=>by kernel_rfl)
def K9 (a0:Tq1):Option (Int) :=
 ((IW (a0.1,(a0.2.1,(a0.2.2.1,a0.2.2.2))))).bind fun x0 =>
 (((Bc (1:Int))).bind fun x1 =>
  ((CT (x1.1,(x1.2.1,(x1.2.2.1,x1.2.2.2))) (x0.1,(x0.2.1,(x0.2.2.1,x0.2.2.2))))).bind fun x2 =>
  bif x2 then
   ((Bc (1:Int))).bind fun x3 =>
   some (Sum.inr (x3.1,(x3.2.1,(x3.2.2.1,x3.2.2.2))))
  else
  some (Sum.inr (x0.1,(x0.2.1,(x0.2.2.1,x0.2.2.2))))).bind fun x4 =>
 Sum.elim
  (fun x5 =>
  some x5)
  (fun x6 =>
  ((Bc (255:Int))).bind fun x7 =>
  ((Ck (x6.1,(x6.2.1,(x6.2.2.1,x6.2.2.2))) (x7.1,(x7.2.1,(x7.2.2.1,x7.2.2.2))))).bind fun x8 =>
  ((Bc (1:Int))).bind fun x9 =>
  ((CR (x9.1,(x9.2.1,(x9.2.2.1,x9.2.2.2))))).bind fun x10 =>
  ((CH (x8.1,(x8.2.1,(x8.2.2.1,x8.2.2.2))) (x10.1,(x10.2.1,(x10.2.2.1,x10.2.2.2))))).bind fun x11 =>
  ((EV (x11.1,(x11.2.1,(x11.2.2.1,x11.2.2.2))))).bind fun x12 =>
  ((Ie (x12.1,x12.2))).bind fun x13 =>
  some x13.1)
  x4
def Aq1:Ent:=⟨Tj,fun x=>K9 x⟩
theorem A0y:Ai RR Aq1:=fnDq (l:=[Yw,Ha,JR,L7,NF,GK,Su,AF3]) ⟨⟨AT1,rfl⟩,⟨⟨Gt,rfl⟩,⟨⟨MA,rfl⟩,⟨⟨OU,rfl⟩,⟨⟨SI,rfl⟩,⟨⟨HH,rfl⟩,⟨⟨Ak8,rfl⟩,⟨⟨A2W,rfl⟩,trivial⟩⟩⟩⟩⟩⟩⟩⟩ (by kernel_rfl) ⟨Tryz.func172,rfl,by kernel_rfl,rfl⟩ (fun _=>by kernel_rfl)
def DK (s0:(List Int)) (s1:(List Tq0)) (s2:Int) (s3:Int):Option (Tq29 ⊕ (List Int)) :=
 bif decide (s3<s2) then
  ((AP s1 s3)).bind fun x0 =>
  ((K9 (x0.1.1,(x0.1.2,(x0.2.1,x0.2.2))))).bind fun x1 =>
  ((Ct 8 1 s0 (List.cons x1 (List.nil:List Int)))).bind fun x2 =>
  some (Sum.inl (x2,(s1,(s2,(IntKind.wrap .i64 (s3 + (1:Int)))))))
 else
 some (Sum.inr s0)
def GZ (a0:(List Tq0)):Option (List (Int)) :=
 (Ah (fun (s:Tq29)=>DK s.1 s.2.1 s.2.2.1 s.2.2.2) ((List.nil:List Int),(a0,((((List.length a0):Nat):Int),(0:Int))))).bind fun x0 =>
 some x0
def Yv:Ent:=⟨QZ,fun x=>GZ x⟩
theorem AR0:Ai RR Yv:=fnDq (l:=[Aq1]) ⟨⟨A0y,rfl⟩,trivial⟩ (by kernel_rfl) ⟨Tryz.func109,rfl,by kernel_rfl,rfl⟩ (fun _=>by kernel_rfl)
def Ea (a0:(List UInt8)) (a1:Tq2):Option (List (Int)×Bool) :=
 ((ES a0 (a1.1,(a1.2.1,(a1.2.2.1,a1.2.2.2))))).bind fun x0 =>
 bif (!x0.2) then
  some ((List.nil:List Int),false)
 else
 ((GZ x0.1)).bind fun x1 =>
 some (x1,true)
def QL:Ent:=⟨LP,fun x=>Ea x.1 x.2⟩
theorem ZC:Ai RR QL:=fnDq (l:=[Si,Yv]) ⟨⟨Ak4,rfl⟩,⟨⟨AR0,rfl⟩,trivial⟩⟩ (by kernel_rfl) ⟨Tryz.func40,rfl,by kernel_rfl,rfl⟩ (fun _=>by kernel_rfl)
def Ey (s0:Tq3) (s1:(List Int)) (s2:Int) (s3:Int):Option ((Tq3×Tq10) ⊕ Tq3) :=
 bif decide (s3<s2) then
  ((AP s1 s3)).bind fun x0 =>
  bif decide ((IntKind.wrap .i64 ((((List.length s0):Nat):Int)-(1:Int)))>=(0:Int)) then
   ((A2 (IntKind.wrap .i64 ((((List.length s0):Nat):Int)-(1:Int))) (List.length s0))).bind fun x1 =>
   ((AV s0 x1)).bind fun x2 =>
   bif (x2.1==x0) then
    ((A2 (IntKind.wrap .i64 ((((List.length s0):Nat):Int)-(1:Int))) (List.length s0))).bind fun x3 =>
    ((AV s0 x3)).bind fun x4 =>
    ((A2 (IntKind.wrap .i64 ((((List.length s0):Nat):Int)-(1:Int))) (List.length s0))).bind fun x5 =>
    ((AV s0 x5)).bind fun x6 =>
    some (Sum.inl ((List.set s0 x5 (x6.1,(IntKind.wrap .i64 (x4.2 + (1:Int))))),(s1,(s2,(IntKind.wrap .i64 (s3 + (1:Int)))))))
   else
   ((Ct 16 2 s0 (List.cons (x0,(1:Int)) (List.nil:List (Int×Int))))).bind fun x7 =>
   some (Sum.inl (x7,(s1,(s2,(IntKind.wrap .i64 (s3 + (1:Int)))))))
  else
  ((Ct 16 2 s0 (List.cons (x0,(1:Int)) (List.nil:List (Int×Int))))).bind fun x8 =>
  some (Sum.inl (x8,(s1,(s2,(IntKind.wrap .i64 (s3 + (1:Int)))))))
 else
 some (Sum.inr s0)
def Ib (a0:(List Int)):Option Tq23 :=
 (Ah (fun (s:(Tq3×Tq10))=>Ey s.1 s.2.1 s.2.2.1 s.2.2.2) ((List.nil:List (Int×Int)),(a0,((((List.length a0):Nat):Int),(0:Int))))).bind fun x0 =>
 some x0
def Al7:Ent:=⟨S9,fun x=>Ib x⟩
theorem A1c:Ai RR Al7:=fnDq (l:=[]) trivial (by kernel_rfl) ⟨Tryz.func113,rfl,by kernel_rfl,rfl⟩ (fun _=>by kernel_rfl)
def HS (a0:List (List UInt8)) (a1:List UInt8):Option (List UInt8):=Ae5 a0 a1
def Qx:Ent:=⟨PK,fun x=>HS x.1 x.2⟩
theorem Zt:Ai RR Qx:=Ba3 fun _ _ _ _ _ h=>Or.inr (Or.inr (Or.inr (Or.inr (Or.inr (h)))))
def Fx (s0:Tq9) (s1:Tq3) (s2:Int) (s3:Int):Option ((Tq9×Tq24) ⊕ Tq9) :=
 bif decide (s3<s2) then
  ((AP s1 s3)).bind fun x0 =>
  ((D1 x0.2)).bind fun x1 =>
  ((WQ x1 (List.cons 120 (List.nil:List UInt8)))).bind fun x2 =>
  ((D1 x0.1)).bind fun x3 =>
  ((WQ x2 x3)).bind fun x4 =>
  ((Ct 16 1 s0 (List.cons x4 (List.nil:List (List UInt8))))).bind fun x5 =>
  some (Sum.inl (x5,(s1,(s2,(IntKind.wrap .i64 (s3 + (1:Int)))))))
 else
 some (Sum.inr s0)
def HG (a0:Tq3):Option (List UInt8) :=
 (Ah (fun (s:(Tq9×Tq24))=>Fx s.1 s.2.1 s.2.2.1 s.2.2.2) ((List.nil:List (List UInt8)),(a0,((((List.length a0):Nat):Int),(0:Int))))).bind fun x0 =>
 ((HS x0 (List.cons 44 (List.nil:List UInt8)))).bind fun x1 =>
 some x1
def V5:Ent:=⟨OS,fun x=>HG x⟩
theorem Ax5:Ai RR V5:=fnDq (l:=[Ko,Qx]) ⟨⟨OZ,rfl⟩,⟨⟨Zt,rfl⟩,trivial⟩⟩ (by kernel_rfl) ⟨Tryz.func112,rfl,by kernel_rfl,rfl⟩ (fun _=>by kernel_rfl)
def CU (s0:Tq2) (s1:(List Int)) (s2:Tq9) (s3:Int) (s4:Int):Option ((Tq2×((List Int)×Tq16)) ⊕ Tq9) :=
 bif decide (s4<s3) then
  ((JL (IntKind.wrap .i64 (s4*s0.2.2.1)) (IntKind.wrap .i64 ((IntKind.wrap .i64 (s4 + (1:Int)))*s0.2.2.1)) (List.length s1))).bind fun x0 =>
  ((Ib (List.drop x0.1 (List.take (x0.1 + (x0.2-x0.1)) s1)))).bind fun x1 =>
  ((HG x1)).bind fun x2 =>
  ((Ct 16 1 s2 (List.cons x2 (List.nil:List (List UInt8))))).bind fun x3 =>
  some (Sum.inl ((s0.1,(s0.2.1,(s0.2.2.1,s0.2.2.2))),(s1,(x3,(s3,(IntKind.wrap .i64 (s4 + (1:Int))))))))
 else
 some (Sum.inr s2)
def G7 (a0:(List UInt8)) (a1:Tq2):Option (List (List UInt8)×Bool) :=
 ((Ea a0 (a1.1,(a1.2.1,(a1.2.2.1,a1.2.2.2))))).bind fun x0 =>
 bif (!x0.2) then
  some ((List.nil:List (List UInt8)),false)
 else
 (Ah (fun (s:(Tq2×((List Int)×Tq16)))=>CU s.1 s.2.1 s.2.2.1 s.2.2.2.1 s.2.2.2.2) ((a1.1,(a1.2.1,(a1.2.2.1,a1.2.2.2))),(x0.1,((List.nil:List (List UInt8)),(a1.2.2.2,(0:Int)))))).bind fun x1 =>
 some (x1,true)
def Zr:Ent:=⟨QI,fun x=>G7 x.1 x.2⟩
theorem AT6:Ai RR Zr:=fnDq (l:=[QL,Al7,V5]) ⟨⟨ZC,rfl⟩,⟨⟨A1c,rfl⟩,⟨⟨Ax5,rfl⟩,trivial⟩⟩⟩ (by kernel_rfl) ⟨Tryz.func45,rfl,by kernel_rfl,rfl⟩ (fun _=>by kernel_rfl)
def Pa (s0:Tq9) (s1:Tq9) (s2:Int):Option ((Tq9×(Tq9×Int)) ⊕ (Unit ⊕ Bool)) :=
 bif decide (s2<(((List.length s0):Nat):Int)) then
  ((AP s0 s2)).bind fun x0 =>
  ((AP s1 s2)).bind fun x1 =>
  bif (!(x0==x1)) then
   some (Sum.inr (Sum.inr false))
  else
  some (Sum.inl (s0,(s1,(IntKind.wrap .i64 (s2 + (1:Int))))))
 else
 some (Sum.inr (Sum.inl ()))
def EQ (a0:Tq9) (a1:Tq9):Option (Bool) :=
 bif ((((List.length a0):Nat):Int) != (((List.length a1):Nat):Int)) then
  some false
 else
 (Ah (fun (s:(Tq9×(Tq9×Int)))=>Pa s.1 s.2.1 s.2.2) (a0,(a1,(0:Int)))).bind fun x0 =>
 Sum.elim
  (fun x1 =>
  some true)
  (fun x2 =>
  some x2)
  x0
def Sr:Ent:=⟨Mm,fun x=>EQ x.1 x.2⟩
theorem Ak5:Ai RR Sr:=fnDq (l:=[]) trivial (by kernel_rfl) ⟨Tryz.func46,rfl,by kernel_rfl,rfl⟩ (fun _=>by kernel_rfl)
def Di (s0:Int) (s1:(List UInt8)):Option ((Int×(List UInt8)) ⊕ (List UInt8)) :=
 bif decide (s0>(0:Int)) then
  ((WQ (Mc (List.cons (Go.IntKind.wrap Go.IntKind.u8 (IntKind.wrap .i64 ((48:Int) + (Int.tmod s0 (10:Int))))) (List.nil:List Int))) s1)).bind fun x0 =>
  some (Sum.inl ((IntKind.wrap .i64 (Int.tdiv s0 (10:Int))),x0))
 else
 some (Sum.inr s1)
def Dv (a0:Int):Option (List UInt8) :=
 bif decide (a0<=(0:Int)) then
  some (List.cons 109 (List.cons 48 (List.nil:List UInt8)))
 else
 (Ah (fun (s:(Int×(List UInt8)))=>Di s.1 s.2) (a0,(List.nil:List UInt8))).bind fun x0 =>
 ((WQ (List.cons 109 (List.nil:List UInt8)) x0)).bind fun x1 =>
 some x1
def N5:Ent:=⟨Oa,fun x=>Dv x⟩
theorem Sx:Ai RR N5:=fnDq (l:=[]) trivial (by kernel_rfl) ⟨Tryz.func114,rfl,by kernel_rfl,rfl⟩ (fun _=>by kernel_rfl)
def Ce (s0:Tq9) (s1:Int) (s2:Int):Option (Tq16 ⊕ (Tq9×Int)) :=
 bif decide (s2<(((List.length s0):Nat):Int)) then
  ((Dv s1)).bind fun x0 =>
  ((A2 s2 (List.length s0))).bind fun x1 =>
  ((AV s0 x1)).bind fun x2 =>
  some (Sum.inl ((List.set s0 x1 x0),((IntKind.wrap .i64 (s1 + (1:Int))),(IntKind.wrap .i64 (s2 + (1:Int))))))
 else
 some (Sum.inr (s0,s1))
def EL (a0:Tq9) (a1:Int):Option (List (List UInt8)×Int) :=
 (Ah (fun (s:Tq16)=>Ce s.1 s.2.1 s.2.2) (a0,(a1,(0:Int)))).bind fun x0 =>
 some (x0.1,x0.2)
def O3:Ent:=⟨JA,fun x=>EL x.1 x.2⟩
theorem XH:Ai RR O3:=fnDq (l:=[N5]) ⟨⟨Sx,rfl⟩,trivial⟩ (by kernel_rfl) ⟨Tryz.func47,rfl,by kernel_rfl,rfl⟩ (fun _=>by kernel_rfl)
def Ca (s0:Tq9) (s1:Int) (s2:Int):Option (Tq16 ⊕ (Int ⊕ Int)) :=
 bif decide (s2<(((List.length s0):Nat):Int)) then
  ((AP s0 s2)).bind fun x0 =>
  ((Dv s1)).bind fun x1 =>
  bif (!(x0==x1)) then
   some (Sum.inr (Sum.inr (-(1:Int))))
  else
  some (Sum.inl (s0,((IntKind.wrap .i64 (s1 + (1:Int))),(IntKind.wrap .i64 (s2 + (1:Int))))))
 else
 some (Sum.inr (Sum.inl s1))
def Ds (a0:Tq9) (a1:Int):Option (Int) :=
 (Ah (fun (s:Tq16)=>Ca s.1 s.2.1 s.2.2) (a0,(a1,(0:Int)))).bind fun x0 =>
 Sum.elim
  (fun x1 =>
  some x1)
  (fun x2 =>
  some x2)
  x0
def O2:Ent:=⟨Jr,fun x=>Ds x.1 x.2⟩
theorem Xz:Ai RR O2:=fnDq (l:=[N5]) ⟨⟨Sx,rfl⟩,trivial⟩ (by kernel_rfl) ⟨Tryz.func48,rfl,by kernel_rfl,rfl⟩ (fun _=>by kernel_rfl)
def C7 (a0:(List UInt8)) (a1:Tq2):Option (Bool) :=
 bif decide ((((List.length a0):Nat):Int)>(1048576:Int)) then
  some true
 else
 ((En (a1.1,(a1.2.1,(a1.2.2.1,a1.2.2.2))))).bind fun x0 =>
 ((IZ a0 (x0.1,(x0.2.1,(x0.2.2.1,x0.2.2.2))))).bind fun x1 =>
 ((En (a1.1,(a1.2.1,(a1.2.2.1,a1.2.2.2))))).bind fun x2 =>
 ((G7 a0 (x2.1,(x2.2.1,(x2.2.2.1,x2.2.2.2))))).bind fun x3 =>
 ((EQ x3.1 x1.1)).bind fun x4 =>
 bif (!x4) then
  some false
 else
 bif (!(x3.2==x1.2)) then
  some false
 else
 ((EL x3.1 (1:Int))).bind fun x5 =>
 bif decide ((List.length x5.1)=(List.length x3.1)) then
  ((Ds x5.1 (1:Int))).bind fun x6 =>
  bif decide (x6<(0:Int)) then
   some false
  else
  bif (x6 != x5.2) then
   some false
  else
  ((En (a1.1,(a1.2.1,(a1.2.2.1,a1.2.2.2))))).bind fun x7 =>
  ((G7 a0 (x7.1,(x7.2.1,(x7.2.2.1,x7.2.2.2))))).bind fun x8 =>
  ((EQ x8.1 x1.1)).bind fun x9 =>
  bif (!x9) then
   some false
  else
  bif (!(x8.2==x1.2)) then
   some false
  else
  ((Ds x5.1 (1:Int))).bind fun x10 =>
  bif decide (x10<(0:Int)) then
   some false
  else
  bif (x10 != x5.2) then
   some false
  else
  some true
 else
 none
def Te:Ent:=⟨Gr,fun x=>C7 x.1 x.2⟩
theorem Sc:Ai RR Te:=fnDq (l:=[Ut,YD,Zr,Sr,O3,O2]) ⟨⟨Av5,rfl⟩,⟨⟨AN2,rfl⟩,⟨⟨AT6,rfl⟩,⟨⟨Ak5,rfl⟩,⟨⟨XH,rfl⟩,⟨⟨Xz,rfl⟩,trivial⟩⟩⟩⟩⟩⟩ (by kernel_rfl) ⟨Tryz.func7,rfl,by kernel_rfl,rfl⟩ (fun _=>by kernel_rfl)
end
section
open Go
section
variable {α β σ ρ:Type} {body : σ->Option (σ ⊕ ρ)}
theorem RW {l:List α} (st:Nat->β->σ) (step : β->α->β) (fin : β->ρ) (I:Nat->β->Prop)
  (hgo:∀ k b a,l[k]? = some a->I k b->body (st k b)=some (.inl (st (k + 1) (step b a)))/\I (k + 1) (step b a))
  (hend:∀ b,I l.length b->body (st l.length b)=some (.inr (fin b))) (b : β) (h0:I 0 b) :
  Ah body (st 0 b)=some (fin (l.foldl step b))/\I l.length (l.foldl step b):=by
 have key:∀ (n k:Nat) (b : β),k + n=l.length->I k b->Ah body (st k b)=some (fin ((l.drop k).foldl step b))/\I l.length ((l.drop k).foldl step b):=by
  intro n
  induction n with
  | zero =>
   intro k b hk hI;have:k=l.length:=by omega
   subst this;rw[List.drop_length];exact ⟨Aq (hend b hI),hI⟩
  | succ n ih =>
   intro k b hk hI;have hlt:k<l.length:=by omega
   have hd:l.drop k=l[k]::l.drop (k + 1):=zb0 hlt;have he:l[k]? = some l[k]:=za1 hlt;obtain ⟨h1,h2⟩:=hgo k b _ he hI;rw[hd,List.foldl_cons,AX h1];exact ih (k + 1) _ (by omega) h2
 have:=key l.length 0 b (by omega) h0
 rwa [ze8] at this
def Jb (step : β->α->ρ ⊕ β) : β->List α->ρ ⊕ β
 | b,[]=>.inr b
 | b,a::l=>match step b a with | .inl r=>.inl r | .inr b'=>Jb step b' l
theorem A8z {l:List α} (st:Nat->β->σ) (step : β->α->ρ ⊕ β) (fin : β->ρ) (I:Nat->β->Prop)
  (hgo:∀ k b a,l[k]? = some a->I k b->(∃ b',step b a = .inr b'/\body (st k b)=some (.inl (st (k + 1) b'))/\I (k + 1) b')\/∃ r,step b a = .inl r/\body (st k b)=some (.inr r))
  (hend:∀ b,I l.length b->body (st l.length b)=some (.inr (fin b))) (b : β) (h0:I 0 b) :
  Ah body (st 0 b)=some (Sum.elim id fin (Jb step b l))/\∀ b',Jb step b l = .inr b'->I l.length b':=by
 have key:∀ (n k:Nat) (b : β),k + n=l.length->I k b->Ah body (st k b)=some (Sum.elim id fin (Jb step b (l.drop k)))/\∀ b',Jb step b (l.drop k) = .inr b'->I l.length b':=by
  intro n
  induction n with
  | zero =>
   intro k b hk hI;have:k=l.length:=by omega
   subst this;rw[List.drop_length];exact ⟨Aq (hend b hI),fun b' h=>by cases h; exact hI⟩
  | succ n ih =>
   intro k b hk hI;have hlt:k<l.length:=by omega
   have hd:l.drop k=l[k]::l.drop (k + 1):=zb0 hlt;have he:l[k]? = some l[k]:=za1 hlt;rw[hd];unfold Jb;rcases hgo k b _ he hI with ⟨b',h1,h2,h3⟩ | ⟨r,h1,h2⟩
   ·rw[h1,AX h2];exact ih (k + 1) _ (by omega) h3
   ·rw[h1];exact ⟨Aq h2,fun b' h=>by cases h⟩
 have:=key l.length 0 b (by omega) h0
 rwa [ze8] at this
theorem MR (st:Nat->β->σ) (fin : β->ρ) (I:Nat->β->Prop)
  (hgo:∀ n b,I (n + 1) b->∃ b',body (st (n + 1) b)=some (.inl (st n b'))/\I n b')
  (hend:∀ b,I 0 b->body (st 0 b)=some (.inr (fin b))):∀ n b,I n b->∃ b',Ah body (st n b)=some (fin b')/\I 0 b':=by
 intro n
 induction n with
 | zero=>intro b h; exact ⟨b,Aq (hend b h),h⟩
 | succ n ih =>
  intro b h;obtain ⟨b1,h1,h2⟩:=hgo n b h;obtain ⟨b2,h3,h4⟩:=ih b1 h2;exact ⟨b2,by rw[AX h1,h3],h4⟩
end
theorem CJ {β σ ρ:Type} {body : σ->Option (σ ⊕ ρ)} (st:Nat->β->σ) (fin : β->ρ) (I:Nat->β->Prop) (e:Nat)
  (hgo:∀ k b,k<e->I k b->∃ b',body (st k b)=some (.inl (st (k + 1) b'))/\I (k + 1) b')
  (hend:∀ b,I e b->body (st e b)=some (.inr (fin b))):∀ k b,k<=e->I k b->∃ b',Ah body (st k b)=some (fin b')/\I e b':=by
 have key:∀ (n k:Nat) (b : β),k + n=e->I k b->∃ b',Ah body (st k b)=some (fin b')/\I e b':=by
  intro n
  induction n with
  | zero =>
   intro k b hk hI;have:k=e:=by omega
   subst this;exact ⟨b,Aq (hend b hI),hI⟩
  | succ n ih =>
   intro k b hk hI;obtain ⟨b1,h1,h2⟩:=hgo k b (by omega) hI;obtain ⟨b2,h3,h4⟩:=ih (k + 1) b1 (by omega) h2;exact ⟨b2,by rw[AX h1,h3],h4⟩
 intro k b hk hI;exact key (e-k) k b (by omega) hI
def I64 (n:Int):Prop:=-9223372036854775808<=n/\n<=9223372036854775807
theorem Az8 {n:Int} (h1 : 0<=n) (h2:n<18446744073709551616):IntKind.wrap .u64 n=n:=by rw[IntKind.wrap_u64]; omega
def A0G {α:Type} (l:List α):Prop:=l.length<1099511627776
theorem EC {α:Type} {l:List α} {k:Nat} {a : α} (h:l[k]? = some a):k<l.length:=(za3.1 h).1
structure Cur (B:Nat) (c:List Int×Int×Int):Prop where
 bytes:∀ b∈c.1,0<=b/\b<=255
 short:c.1.length<=1048576
 lo : 0<=c.2.1
 hi:c.2.1<=(B:Int)
 seed0 : 0<=c.2.2
 seed1:c.2.2<18446744073709551616
theorem Cur.start {l:List Int} (h:∀ b∈l,0<=b/\b<=255) (hl:l.length<=1048576):Cur 0 (l,0,0):=⟨h,hl,by simp,by simp,by simp,by simp⟩
theorem Cur.mono {B B':Nat} {c:List Int×Int×Int} (h:Cur B c) (hb:B<=B'):Cur B' c:=⟨h.bytes,h.short,h.lo,by have:=h.hi; omega,h.seed0,h.seed1⟩
theorem obs {α β:Type} (a : α) (f : α->Option β):(some a).bind f=f a:=(rfl)
theorem cT {α:Type} (a b : α):(bif true then a else b)=a:=(rfl)
theorem cF {α:Type} (a b : α):(bif false then a else b)=b:=(rfl)
theorem nT:(!true)=false:=(rfl)
theorem nF:(!false)=true:=(rfl)
theorem A6 {α β:Type} (p : α×β):(p.1,p.2)=p:=by cases p; rfl
theorem sEl {α β γ:Type} (f : α->γ) (g : β->γ) (x : α):Sum.elim f g (.inl x)=f x:=(rfl)
theorem sEr {α β γ:Type} (f : α->γ) (g : β->γ) (x : β):Sum.elim f g (.inr x)=g x:=(rfl)
end
section
open Go
end
section
open Go
structure GP (p:Int×Int):Prop where
 a : -1000<=p.1
 b:p.1<=1001
 c : -2<=p.2
 d:p.2<=8
structure GW (l:List (Int×Int)):Prop where
 pts:∀ p∈l,GP p
 lo : 3<=l.length
 hi:l.length<=13
end
section
open Go
section
variable {α β:Type}
end
section
variable {α:Type}
end
end
section
open Go
abbrev P2:=Int×Int
def Dq (a b c:Int):Bool:=decide (b<=a)&&decide (a<=c)
theorem Vc (a b c:Int):Bm a b c=some (Dq a b c):=by
 unfold Bm Dq;by_cases h:a>=b <;> simp[h]
theorem WM (a b c:Int):De a b c=some (Dq a b c):=by
 unfold De Dq;by_cases h:a>=b <;> simp[h]
theorem Kn {a b c:Int}:Dq a b c=true↔b<=a/\a<=c:=by simp[Dq]
def EB (p:P2):Bool:=Dq p.1 (-1000) 1000&&Dq p.2 (-1000) 1000
theorem A1l (p:P2):Fh p=some (EB p):=by
 unfold Fh EB;simp only[WM,za0];cases Dq p.1 (-1000) 1000 <;> rfl
theorem A3y {p:P2}:EB p=true↔-1000<=p.1/\p.1<=1000/\-1000<=p.2/\p.2<=1000:=by
 simp only[EB,za2,Kn];omega
theorem A7P {k:Nat} {α:Type} {l:List α} {a : α} (h:l[k]? = some a):decide ((k:Int)<(l.length:Int))=true:=by have:=EC h; simpa using this
theorem Br1 {α:Type} (l:List α):decide ((l.length:Int)<(l.length:Int))=false:=by simp
theorem Bi5 {l:List P2} (hl:A0G l):Nh l=some (l.all EB):=by
 unfold Nh;unfold A0G at hl;have key:=Ls (body:=fun s:List (Int×Int)×Int×Int=>I7 s.1 s.2.1 s.2.2) (l:=l) (st:=fun k=>(l,(l.length:Int),(k:Int))) (p:=EB) (fin:=.inl ()) (bad:=fun k=>.inr false)
  (fun k a hk hp=>by
   have:=EC hk;unfold I7;simp only[A7P hk,cond_true,An,hk,za0,A1l,hp,Bool.not_true,cond_false,AM (show k<4611686018427387904 by omega)])
  (fun k a hk hp=>by
   unfold I7;simp only[A7P hk,cond_true,An,hk,za0,A1l,hp,Bool.not_false])
  (by unfold I7; simp only[Br1,cond_false])
 cases hall:l.all EB with
 | true =>
  have h:=key.1 hall;rw[show ((0:Nat):Int)=0 from rfl] at h;simp only[h,za0,Sum.elim_inl]
 | false =>
  obtain ⟨k,_,h⟩:=key.2 hall;rw[show ((0:Nat):Int)=0 from rfl] at h;simp only[h,za0,za8]
section
variable {a b c d p:P2} (ha:EB a=true) (hb:EB b=true) (hc:EB c=true) (hd:EB d=true) (hp:EB p=true)
include ha hb hc
end
end
section
open Go
def Mf (l:List P2):Bool:=(decide (3<=l.length)&&decide (l.length<=12))&&l.all EB
theorem J7 {l:List P2}:Mf l=true↔(3<=l.length/\l.length<=12)/\∀ p∈l,EB p=true:=by
 simp[Mf,za5,and_assoc]
theorem A3z (l:List P2):Dq (l.length:Int) 3 12=(decide (3<=l.length)&&decide (l.length<=12)):=by
 unfold Dq
 congr 1 <;> rw[decide_eq_decide] <;> omega
theorem Bh1 {l:List P2} (h:A0G l):MH l=some (Mf l):=by
 unfold MH Mf;simp only[WM,za0,Bi5 h,A3z];cases (decide (3<=l.length)&&decide (l.length<=12)) <;> rfl
end
section
open Go
variable {α β γ:Type}
theorem Gp {s t:Str} (h:s.length + t.length<=9223372036854775807):WQ s t=some (s++t):=by unfold WQ; rw[if_pos h]
end
section
open Go
def Gd (b:UInt8):Bool:=decide (48<=b.toNat)&&decide (b.toNat<=57)
theorem GI {b:UInt8}:Gd b=true↔48<=b.toNat/\b.toNat<=57:=by simp[Gd]
def Mx (n:Nat) (l:Str):Nat:=l.foldl (fun a b=>a*10 + (b.toNat-48)) n
theorem AA8 (n:Nat) (l:Str) (b:UInt8):Mx n (l ++ [b])=Mx n l*10 + (b.toNat-48):=by unfold Mx; simp
def A1G (l:Str):Prop:=(∀ b∈l,Gd b=true)/\l≠[]/\¬(l.head? = some 48/\1<l.length)
theorem Bl2 {b:UInt8} (h : 48<=b.toNat):UInt8.ofNat (48 + (b.toNat-48))=b:=by
 rw[show 48 + (b.toNat-48)=b.toNat by omega]; exact UInt8.ofNat_toNat
theorem A1x {n:Nat} (h:n<10):Gd (UInt8.ofNat (48 + n))=true/\(UInt8.ofNat (48 + n)).toNat=48 + n:=by
 have:(UInt8.ofNat (48 + n)).toNat=48 + n:=by rw[UInt8.toNat_ofNat']; omega
 exact ⟨GI.2 (by omega),this⟩
theorem AM6 {b:UInt8}:b=48↔b.toNat=48:=by
 constructor
 ·rintro rfl; rfl
 ·intro h;have:b.toNat=(48:UInt8).toNat:=h;exact UInt8.toNat_inj.1 this
theorem A2m:∀ (l:Str) (n:Nat),1<=n->1<=Mx n l
 | [],n,h=>h
 | b::l,n,h=>by
  unfold Mx;rw[List.foldl_cons];exact A2m l _ (by omega)
theorem A7B {b:UInt8} {l:Str} (hb:Gd b=true) (h:b≠48) : 1<=Mx 0 (b::l):=by
 unfold Mx;rw[List.foldl_cons];refine A2m l _ ?_
 have:=GI.1 hb;have h2:b.toNat≠48:=fun h2=>h (AM6.2 h2)
 omega
theorem AF0:∀ (n:Nat) (l:Str),l.length=n->A1G l->Lib.decDigits (Mx 0 l)=l
 | 0,l,hn,h=>absurd (zb4 hn) h.2.1
 | n + 1,l,hn,h=>by
  obtain ⟨e,b,rfl⟩:∃ e b,l=e ++ [b]:=⟨l.dropLast,l.getLast h.2.1,(List.dropLast_concat_getLast h.2.1).symm⟩;have hb:=GI.1 (h.1 b (by simp));rw[AA8];cases e with
  | nil =>
   show Lib.decDigits (0*10 + (b.toNat-48)) = [b];rw[Lib.decDigits_one (by omega),Nat.zero_mul,ze4,Bl2 hb.1]
  | cons c e =>
   have hc0:c≠48:=by
    rintro rfl;exact h.2.2 ⟨rfl,by simp⟩
   have hcd:Gd c=true:=h.1 c (by simp);have h1:=A7B (l:=e) hcd hc0;rw[Lib.decDigits,dif_neg (by omega),show (Mx 0 (c::e)*10 + (b.toNat-48))/10=Mx 0 (c::e) by omega,show (Mx 0 (c::e)*10 + (b.toNat-48))%10=b.toNat-48 by omega,Bl2 hb.1,
    AF0 n (c::e) (by simpa using hn) ⟨fun x hx=>h.1 x (by simp at hx ⊢; rcases hx with rfl | hx <;> simp_all),by simp,fun hh=>hc0 (Option.some.inj hh.1)⟩]
theorem MS (u:Nat):A1G (Lib.decDigits u)/\Mx 0 (Lib.decDigits u)=u/\(1<=u->(Lib.decDigits u).head? ≠ some 48):=by
 induction u using Nat.strongRecOn with
 | ind u ih =>
  by_cases h:u<10
  ·rw[Lib.decDigits_one h];obtain ⟨h1,h2⟩:=A1x h;refine ⟨⟨fun b hb=>by cases zd8.1 hb; exact h1,by simp,fun hh=>by simp at hh⟩,?_,fun hu=>?_⟩
   ·show 0*10 + ((UInt8.ofNat (48 + u)).toNat-48)=u;rw[h2]; omega
   ·intro hh;have:=AM6.1 (Option.some.inj hh);omega
  ·obtain ⟨⟨c1,c2,c3⟩,h2,h3⟩:=ih (u/10) (by omega);obtain ⟨g1,g2⟩:=A1x (n:=u%10) (by omega);have hh:(Lib.decDigits (u/10) ++ [UInt8.ofNat (48 + u%10)]).head? ≠ some 48:=by
    rw[List.head?_append];cases hz:Lib.decDigits (u/10) with
    | nil=>exact absurd hz c2
    | cons a t=>rw[hz] at h3; exact h3 (by omega)
   rw[Lib.decDigits,dif_neg h];refine ⟨⟨fun b hb=>?_,by simp,fun h=>hh h.1⟩,?_,fun _=>hh⟩
   ·rcases zb3.1 hb with hb | hb
    ·exact c1 b hb
    ·cases zd8.1 hb; exact g1
   ·rw[AA8,h2,g2]; omega
theorem AM4 {u:Nat} {t:Str}:Lib.decDigits u≠45::t:=by
 intro h;have:=(MS u).1.1 45 (by rw[h]; simp);simp[Gd] at this
theorem A0S {u:Nat}:(Lib.decDigits u).length<=4↔u<=9999:=by
 rw[Lib.decDigits_length];have h1:=Lib.lt_pow_nDigits u;constructor
 ·intro h;have : 10 ^ Lib.nDigits u<=10 ^ 4:=Nat.pow_le_pow_right (by omega) h;omega
 ·intro h;by_cases h0:u<10
  ·rw[Lib.nDigits_small h0]; omega
  by_cases h0:u<100
  ·rw[Lib.nDigits_unique 1 u (by omega) (by omega)]; omega
  by_cases h0:u<1000
  ·rw[Lib.nDigits_unique 2 u (by omega) (by omega)]; omega
  ·rw[Lib.nDigits_unique 3 u (by omega) (by omega)]; omega
theorem Ad0:∀ (l:Str) (acc:Nat),(∀ b∈l,Gd b=true)->acc*10 ^ l.length + 10 ^ l.length<=1000000000000000000->Lib.parseUint10 acc l = .ok (Mx acc l)
 | [],acc,_,_=>rfl
 | b::l,acc,h,hl=>by
  have hb:=GI.1 (h b (by simp));have hp : 1<=10 ^ l.length:=Nat.one_le_pow _ _ (by omega);have e:(b::l).length=l.length + 1:=rfl;rw[e,Nat.pow_succ] at hl;have h1:acc*(10 ^ l.length*10)=(acc*10)*10 ^ l.length:=by rw[Nat.mul_comm (10 ^ l.length) 10,Nat.mul_assoc]
  rw[h1] at hl;have h2:acc*10<=(acc*10)*10 ^ l.length:=Nat.le_mul_of_pos_right _ (by omega);have h3:(acc*10 + (b.toNat-48))*10 ^ l.length<=(acc*10)*10 ^ l.length + 9*10 ^ l.length:=by
   rw[<-zf1];exact zd6 _ (by omega)
  rw[Lib.parseUint10,if_pos hb,if_neg (by omega),if_neg (by omega),Ad0 l _ (fun x hx=>h x (List.mem_cons_of_mem _ hx)) (by omega)];rfl
theorem A5f {b:UInt8} {n:Nat} (hd:Gd b=true) (h:n<48):b.toNat≠n:=by have:=GI.1 hd; omega
theorem A7x {v:Int} (h0 : -9999<=v) (h1:v<=9999):Lib.atoiAll (Lib.itoa v) = .ok v:=by
 have key:∀ u:Nat,u<=9999->Lib.parseMag (Lib.decDigits u) = .ok u:=by
  intro u hu;obtain ⟨⟨c1,c2,_⟩,c4,_⟩:=MS u;have h4:=A0S.2 hu;unfold Lib.parseMag;rw[if_neg c2,Ad0 _ _ c1 (by
   have : 10 ^ (Lib.decDigits u).length<=10 ^ 4:=Nat.pow_le_pow_right (by omega) h4;omega),c4]
 unfold Lib.itoa;by_cases hv:v<0
 ·rw[if_pos hv];unfold Lib.atoiAll;simp only;rw[if_pos (Or.inr (by rfl)),key v.natAbs (by omega)];simp only;rw[if_neg (fun h=>h.1 rfl),if_neg (by omega),if_pos (by rfl)]
  congr 1; omega
 ·rw[if_neg hv];have hk:=key v.toNat (by omega);obtain ⟨⟨c1,c2,_⟩,_⟩:=MS v.toNat;cases hz:Lib.decDigits v.toNat with
  | nil=>exact absurd hz c2
  | cons b t =>
   rw[hz] at hk c1;have hb:=c1 b (by simp);unfold Lib.atoiAll;simp only;rw[if_neg (by
    rintro (h | h)
    ·exact A5f hb (by omega) h
    ·exact A5f hb (by omega) h),hk]
   simp only;rw[if_neg (by omega),if_neg (fun h=>A5f hb (by omega) h.1),if_neg (A5f hb (by omega))]
   congr 1; omega
end
section
open Go
theorem Rb {p:UInt8->Bool}:∀ {l:Str},∀ b∈l.takeWhile p,p b=true
 | [],b,h=>by simp at h
 | a::l,b,h=>by
  rw[List.takeWhile_cons] at h;by_cases ha:p a=true
  ·rw[if_pos ha] at h;rcases zc8.1 h with rfl | h
   ·exact ha
   ·exact Rb b h
  ·rw[if_neg ha] at h;exact absurd h List.not_mem_nil
def IF (s:Str) (n k:Nat):Str:=((s.drop k).take n).takeWhile Gd
theorem AG9 (s:Str) (k:Nat):IF s 0 k = []:=by simp[IF]
theorem Ak3 {s:Str} {k:Nat} (n:Nat) (h:s.length<=k):IF s n k = []:=by simp[IF,zd5 h]
theorem AD0 {s:Str} {k n:Nat} {b:UInt8} (h:s[k]? = some b):IF s (n + 1) k=if Gd b then b::IF s n (k + 1) else []:=by
 have hlt:=EC h;unfold IF;rw[zb0 hlt,List.take_succ_cons,List.takeWhile_cons];have:s[k]=b:=by rw[za1 hlt] at h; exact Option.some.inj h
 rw[this]
theorem A1F (s:Str) (n k:Nat):(IF s n k).length<=n:=by
 have h1:=(List.takeWhile_sublist Gd (l:=(s.drop k).take n)).length_le;have h2:=List.length_take_le n (s.drop k);unfold IF; omega
theorem A0V (s:Str) (n k:Nat):∀ b∈IF s n k,Gd b=true:=Rb
theorem AL5 (s:Str):∀ (n k i:Nat),i<(IF s n k).length->s[k + i]? = (IF s n k)[i]?
 | 0,k,i,h=>by rw[AG9] at h; simp at h
 | n + 1,k,i,h=>by
  by_cases hk:k<s.length
  ·have e:=AD0 (n:=n) (za1 hk);rw[e] at h ⊢
   by_cases hd:Gd s[k]=true
   ·rw[if_pos hd] at h ⊢
    cases i with
    | zero=>simp[hk]
    | succ i =>
     rw[show k + (i + 1)=(k + 1) + i by omega,AL5 s n (k + 1) i (by simpa using h)];simp
   ·rw[if_neg hd] at h; simp at h
  ·rw[Ak3 _ (by omega)] at h; simp at h
theorem Bh7 (l:Str) (h:∀ b∈l,Gd b=true):Mx 0 l<10 ^ l.length:=by
 have key:∀ (l:Str) (n:Nat),(∀ b∈l,Gd b=true)->Mx n l<(n + 1)*10 ^ l.length:=by
  intro l
  induction l with
  | nil=>intro n _; simp[Mx]
  | cons b l ih =>
   intro n h;have hb:=GI.1 (h b (by simp));have:=ih (n*10 + (b.toNat-48)) (fun x hx=>h x (List.mem_cons_of_mem _ hx));have e:Mx n (b::l)=Mx (n*10 + (b.toNat-48)) l:=rfl;rw[e,zb8,Nat.pow_succ,Nat.mul_comm (10 ^ l.length) 10,<-Nat.mul_assoc];refine zd7 this (zd6 _ (by omega))
 have:=key l 0 h;simpa using this
theorem A87 {s:Str} (hs:s.length<4611686018427387904) {a:Nat} (ha:a<4611686018427387904):∀ (m:Nat) (n k:Nat),k + m=a + 4->a<=k->n<10 ^ (k-a) ->
  Ah (fun (t:(Str×(Int×(Int×Int))))=>Dx t.1 t.2.1 t.2.2.1 t.2.2.2) (s,(a:Int),(n:Int),(k:Int))=some (s,(a:Int),((Mx n (IF s m k):Nat):Int),((k + (IF s m k).length:Nat):Int)):=by
 intro m
 induction m with
 | zero =>
  intro n k hk hak hn;rw[AG9];refine Aq ?_
  unfold Dx;simp only;by_cases h1:(k:Int)<(s.length:Int)
  ·rw[decide_eq_true h1,cT,Aj (by omega) (by omega),decide_eq_false (by omega),cF];rfl
  ·rw[decide_eq_false h1,cF];rfl
 | succ m ih =>
  intro n k hk hak hn;by_cases h1:k<s.length
  ·have e:s[k]? = some s[k]:=za1 h1;generalize s[k]=b at e;rw[AD0 e];have hb:=b.toNat_lt;by_cases hd:Gd b=true
   ·have hd':=GI.1 hd;have hp : 10 ^ (k-a)<=10 ^ 3:=Nat.pow_le_pow_right (by omega) (by omega);rw[if_pos hd];have hgo:(fun (t:(Str×(Int×(Int×Int))))=>Dx t.1 t.2.1 t.2.2.1 t.2.2.2) (s,(a:Int),(n:Int),(k:Int))=some (.inl (s,(a:Int),((n*10 + (b.toNat-48):Nat):Int),((k + 1:Nat):Int))):=by
     unfold Dx;simp only;rw[decide_eq_true (by omega),cT,Aj (n:=(a:Int) + 4) (by omega) (by omega),decide_eq_true (by omega),cT,An,e,obs,decide_eq_true (by omega),cT,obs,decide_eq_true (by omega),cT,obs,AM (by omega)];have w1:IntKind.wrap .u8 (((b.toNat:Nat):Int)-48)=((b.toNat-48:Nat):Int):=by rw[IntKind.wrap_u8]; omega
     rw[w1,Aj (n:=((b.toNat-48:Nat):Int)) (by omega) (by omega),Aj (n:=10*(n:Int)) (by omega) (by omega),Aj (by omega) (by omega)]
     congr 4
     have:(10:Int)*(n:Int) + ((b.toNat-48:Nat):Int)=((n*10 + (b.toNat-48):Nat):Int):=by push_cast; omega
     rw[this]
    rw[AX hgo,ih (n*10 + (b.toNat-48)) (k + 1) (by omega) (by omega) (by
     rw[show k + 1-a=(k-a) + 1 by omega,Nat.pow_succ]; omega)]
    congr 4
    simp only[zb8]
    congr 1
    omega
   ·have hd':¬(48<=b.toNat/\b.toNat<=57):=fun h=>hd (GI.2 h)
    rw[if_neg hd];refine Aq ?_
    unfold Dx;simp only;rw[decide_eq_true (by omega),cT,Aj (n:=(a:Int) + 4) (by omega) (by omega),decide_eq_true (by omega),cT,An,e,obs];by_cases c : 48<=b.toNat
    ·rw[decide_eq_true (by omega),cT,obs,decide_eq_false (by omega),cF];rfl
    ·rw[decide_eq_false (by omega),cF];rfl
  ·rw[Ak3 _ (by omega)];refine Aq ?_
   unfold Dx;simp only;rw[decide_eq_false (by omega),cF];rfl
def Av6 (d:Str):Prop:=d = []\/(d.head? = some 48/\1<d.length)
instance (d:Str):Decidable (Av6 d):=by unfold Av6; infer_instance
def JE (s:Str) (a:Nat):Int×Int:=let d:=IF s 4 a; if Av6 d then (-1,(a:Int)) else ((Mx 0 d:Nat),((a + d.length:Nat):Int))
theorem Aj6 {s:Str} (hs:s.length<4611686018427387904) {a:Nat} (ha:a<4611686018427387904):Km s (a:Int)=some (JE s a):=by
 unfold Km JE;have h:=A87 hs ha 4 0 a rfl (za7 _) (by simp);have h':Ah (fun (t:(Str×(Int×(Int×Int))))=>Dx t.1 t.2.1 t.2.2.1 t.2.2.2) (s,(a:Int),(0:Int),(a:Int))=_:=h;rw[h',obs];have hl:=A1F s 4 a;have h0:=AL5 s 4 a 0;cases hd:IF s 4 a with
 | nil =>
  have hb0:Av6 ([]:Str):=Or.inl rfl;simp only[hb0,if_true,ze7,Nat.add_zero,beq_self_eq_true,cond_true]
 | cons b t =>
  rw[hd] at hl h0;have hb:s[a]? = some b:=by
   have:=h0 (by simp);rw[Nat.add_zero] at this;rw[this];rfl
  have hlb:=EC hb;simp only[zb8] at hl ⊢
  rw[show (((a + (t.length + 1):Nat):Int)==(a:Int))=false by simp; omega,cF,An,hb,obs];by_cases c:b=48
  ·subst c;rw[show ((((48:UInt8).toNat:Nat):Int)==48)=true from rfl,cT,Aj (by omega) (by omega)];by_cases c2:t.length=0
   ·have hn:¬Av6 (48::t):=by
     rintro (h | ⟨_,h⟩)
     ·cases h
     ·simp at h; omega
    rw[decide_eq_false (by omega),cF,if_neg hn]
   ·rw[decide_eq_true (by omega),cT,if_pos (show Av6 (48::t) from Or.inr ⟨rfl,by simp; omega⟩)]
  ·have c':¬b.toNat=48:=fun h=>c (AM6.2 h)
   have hn:¬Av6 (b::t):=by
    rintro (h | ⟨h,_⟩)
    ·cases h
    ·exact c (Option.some.inj h)
   rw[show ((((b.toNat:Nat):Int))==48)=false by simp; omega,cF,if_neg hn]
end
section
open Go
theorem Mr {n:Nat} (h:n<18446744073709551616):(Lib.decDigits n).length<=20:=by rw[Lib.decDigits_length]; exact Lib.nDigits_le20 n h
theorem A4q {n:Int} (h0 : -9223372036854775808<=n) (h1:n<=9223372036854775807):D1 n=some (Lib.itoa n):=by
 unfold D1 Ar9;rw[if_pos ⟨h0,h1⟩]
theorem A9Q {n:Int} (h : 0<=n):Lib.itoa n=Lib.decDigits n.toNat:=by unfold Lib.itoa; rw[if_neg (by omega)]
theorem I1 {n:Int} (h0 : -9223372036854775808<=n) (h1:n<9223372036854775808):(Lib.itoa n).length<=21:=by
 unfold Lib.itoa
 split
 ·have:=Mr (n:=n.natAbs) (by omega);simp; omega
 ·have:=Mr (n:=n.toNat) (by omega);omega
end
section
open Go
def Qq (s:Str):Int×Bool:=match Lib.atoiAll s with | .ok v=>if -9999<=v/\v<=9999/\Lib.itoa v=s then (v,true) else (0,false) | _=>(0,false)
theorem A7R {v:Int} (h : -9999<=v/\v<=9999):Qq (Lib.itoa v)=(v,true):=by
 unfold Qq;rw[A7x h.1 h.2];simp only;rw[if_pos ⟨h.1,h.2,trivial⟩]
theorem L5 (s:Str):(∃ v:Int,-9999<=v/\v<=9999/\s=Lib.itoa v/\Qq s=(v,true))\/(Qq s=(0,false)/\∀ v:Int,-9999<=v->v<=9999->s≠Lib.itoa v):=by
 by_cases h:∃ v:Int,-9999<=v/\v<=9999/\s=Lib.itoa v
 ·obtain ⟨v,h0,h1,rfl⟩:=h;exact .inl ⟨v,h0,h1,rfl,A7R ⟨h0,h1⟩⟩
 ·refine .inr ⟨?_,fun v h0 h1 h2=>h ⟨v,h0,h1,h2⟩⟩
  unfold Qq
  split
  ·rw[if_neg];rintro ⟨h0,h1,h2⟩;exact h ⟨_,h0,h1,h2.symm⟩
  ·rfl
theorem Bh2 (n:Int):Hn n=some (decide (-9999<=n/\n<=9999)):=by
 unfold Hn Bm;by_cases h:n>=-9999
 ·rw[decide_eq_true h,cT,obs]; congr 1; simp; omega
 ·rw[decide_eq_false h,cF,obs]; congr 1; simp; omega
theorem AV0 {s:Str} (hs:s.length<=281474976710656):Fm s=some (Qq s):=by
 unfold Fm Le Ar1 Qq Sj;rw[if_pos hs,obs];cases hz:Lib.atoiAll s with
 | ok v =>
  simp only[cF,Bh2,obs];by_cases h : -9999<=v/\v<=9999
  ·rw[decide_eq_true h,nT,cF,A4q (by omega) (by omega),obs];by_cases h2:Lib.itoa v=s
   ·rw[if_pos ⟨h.1,h.2,h2⟩,h2,beq_self_eq_true,nT,cF]
   ·rw[if_neg (fun hh=>h2 hh.2.2),beq_eq_false_iff_ne.2 h2,nF,cT]
  ·rw[decide_eq_false h,nF,cT,if_neg (fun hh=>h ⟨hh.1,hh.2.1⟩)]
 | range=>rfl
 | _=>rfl
theorem A4o {d t:Str} {n:Nat} (h:A1G d) (hn:d.length<=n) (hb:∀ b,t.head? = some b->Gd b=false):IF (d++t) n 0=d:=by
 unfold IF;rw[ze8];have key:∀ (d:Str) (n:Nat),(∀ b∈d,Gd b=true)->d.length<=n->((d++t).take n).takeWhile Gd=d:=by
  intro d
  induction d with
  | nil =>
   intro n _ _;cases n with
   | zero=>simp
   | succ n =>
    cases t with
    | nil=>simp
    | cons b t=>simp[hb b rfl]
  | cons b d ih =>
   intro n hd hn;cases n with
   | zero=>simp at hn
   | succ n =>
    rw[List.cons_append,List.take_succ_cons,List.takeWhile_cons,if_pos (hd b (by simp)),ih n (fun x hx=>hd x (List.mem_cons_of_mem _ hx)) (by simpa using hn)]
 exact key d n h.1 hn
theorem A3N {d:Str} (h:A1G d):¬Av6 d:=by
 rintro (h1 | h1)
 ·exact h.2.1 h1
 ·exact h.2.2 h1
theorem A2U {s:Str} {n k:Nat} (h:¬Av6 (IF s n k)):A1G (IF s n k):=⟨A0V s n k,fun h1=>h (.inl h1),fun h1=>h (.inr h1)⟩
theorem Xs (u:Nat) (hu:u<=9999):JE (Lib.decDigits u) 0=((u:Int),((Lib.decDigits u).length:Int)):=by
 obtain ⟨h1,h2,_⟩:=MS u;have hd:=A4o (t:=[]) h1 (A0S.2 hu) (by simp);rw[ze5] at hd;unfold JE;simp only[hd,if_neg (A3N h1),h2,ze4]
theorem YS (t:Str):(∃ u:Nat,u<=9999/\t=Lib.decDigits u)\/((JE t 0).1<0\/(JE t 0).2<(t.length:Int)):=by
 by_cases hb:Av6 (IF t 4 0)
 ·right; left
  unfold JE;simp only[if_pos hb];omega
 ·have hc:=A2U hb;have hl:=A1F t 4 0;by_cases hh:(IF t 4 0).length<t.length
  ·right; right
   unfold JE;simp only[if_neg hb,ze4];omega
  ·left
   have he:IF t 4 0=t:=by
    have h1:(IF t 4 0).length<=t.length:=by
     have:=(List.takeWhile_sublist Gd (l:=(t.drop 0).take 4)).length_le;have h2:=List.length_take_le' 4 (t.drop 0);unfold IF;simp only[ze8] at this h2 ⊢
     omega
    refine List.ext_getElem (by omega) fun i h2 h3=>?_
    have:=AL5 t 4 0 i h2;rw[ze4,za1 h3,za1 h2] at this;exact (Option.some.inj this).symm
   refine ⟨Mx 0 (IF t 4 0),?_,?_⟩
   ·have:=Bh7 _ (A0V t 4 0);have h2 : 10 ^ (IF t 4 0).length<=10 ^ 4:=Nat.pow_le_pow_right (by omega) hl;omega
   ·rw[AF0 _ _ rfl hc,he]
theorem Bz0 {s:Str} {b:UInt8}:(JL (1:Int) (((b::s).length:Nat):Int) (b::s).length)=some (1,(b::s).length):=by
 unfold JL;rw[if_pos (by simp only[zb8]; omega)];simp
theorem AP4 {s:Str} (hs:s.length<4611686018427387904):FE s=some (Qq s):=by
 unfold FE;cases s with
 | nil =>
  rw[show decide ((((([]:Str).length):Nat):Int)>0)=false from rfl,cF,obs];simp only[za8];rw[cF,obs];simp only[za8];rw[show ((0:Int))=((0:Nat):Int) from rfl,Aj6 hs (by omega),obs];rcases L5 ([]:Str) with ⟨v,h0,h1,h2,_⟩ | ⟨h,_⟩
  ·exfalso
   unfold Lib.itoa at h2
   split at h2
   ·cases h2
   ·exact (MS _).1.2.1 h2.symm
  ·rw[h];have:JE ([]:Str) 0=(-1,0):=by
    unfold JE;simp only[Ak3 4 (show ([]:Str).length<=0 by simp)];rfl
   rw[this];rfl
 | cons b t =>
  rw[decide_eq_true (show (((((b::t)).length:Nat):Int)>0) by simp only[zb8]; omega),cT];have hg:AP (b::t) 0=some b:=rfl;rw[hg,obs,obs];simp only[za8];have hlt:t.length<4611686018427387904:=by simp only[zb8] at hs; omega
  by_cases hb:b.toNat=45
  ·have hb':b=45:=UInt8.toNat_inj.1 (show b.toNat=(45:UInt8).toNat from hb);subst hb';rw[show ((((45:UInt8).toNat:Nat):Int)==45)=true from rfl,cT,Bz0,obs,obs];simp only[za8];rw[List.take_length,show List.drop 1 ((45:UInt8)::t)=t from rfl,show ((0:Int))=((0:Nat):Int) from rfl,Aj6 hlt (by omega),obs];rcases L5 ((45:UInt8)::t) with ⟨v,h0,h1,h2,h3⟩ | ⟨h3,h4⟩
   ·rw[h3];have hv:v<0:=by
     rcases Int.lt_or_le v 0 with h | h
     ·exact h
     ·unfold Lib.itoa at h2;rw[if_neg (by omega)] at h2;exact absurd h2.symm AM4
    have ht:t=Lib.decDigits v.natAbs:=by
     unfold Lib.itoa at h2;rw[if_pos hv] at h2;exact (List.cons.inj h2).2
    rw[ht,Xs _ (by omega)];simp only;rw[decide_eq_false (by omega),cF,decide_eq_false (by omega),cF,cT,show (((v.natAbs:Nat):Int)==((0:Nat):Int))=false by simp; omega,cF,obs];simp only[za8,cT];rw[Aj (by omega) (by omega)]
    congr 2; omega
   ·rw[h3];rcases YS t with ⟨u,hu,rfl⟩ | h
    ·rw[Xs _ hu];simp only;rw[decide_eq_false (by omega),cF,decide_eq_false (by omega),cF,cT];by_cases hu0:u=0
     ·subst hu0;rw[show ((((0:Nat):Int))==((0:Nat):Int))=true from rfl,cT,obs];rfl
     ·exfalso
      refine h4 (-(u:Int)) (by omega) (by omega) ?_
      unfold Lib.itoa;rw[if_pos (by omega),Int.natAbs_neg,Int.natAbs_natCast]
    ·by_cases hn:(JE t 0).1<0
     ·rw[decide_eq_true (show (JE t 0).1<((0:Nat):Int) from hn),cT,obs]; rfl
     ·have h:=h.resolve_left hn;rw[decide_eq_false (show ¬(JE t 0).1<((0:Nat):Int) from hn),cF,decide_eq_true h,cT,obs]; rfl
  ·rw[show (((b.toNat:Nat):Int)==45)=false by simp; omega,cF,obs];simp only[za8];rw[show ((0:Int))=((0:Nat):Int) from rfl,Aj6 hs (by omega),obs];rcases L5 (b::t) with ⟨v,h0,h1,h2,h3⟩ | ⟨h3,h4⟩
   ·rw[h3];have hv:¬v<0:=by
     intro h;unfold Lib.itoa at h2;rw[if_pos h] at h2;exact hb (by rw[(List.cons.inj h2).1]; rfl)
    have ht:b::t=Lib.decDigits v.toNat:=by
     unfold Lib.itoa at h2;rw[if_neg hv] at h2;exact h2
    rw[ht,Xs _ (by omega)];simp only;rw[decide_eq_false (by omega),cF,decide_eq_false (by omega),cF,cF,obs];simp only[za8,cF]
    congr 2; omega
   ·rw[h3];rcases YS (b::t) with ⟨u,hu,he⟩ | h
    ·exfalso
     refine h4 (u:Int) (by omega) (by omega) ?_
     unfold Lib.itoa;rw[if_neg (by omega),zc5,he]
    ·by_cases hn:(JE (b::t) 0).1<0
     ·rw[decide_eq_true (show (JE (b::t) 0).1<((0:Nat):Int) from hn),cT,obs]; rfl
     ·have h:=h.resolve_left hn;rw[decide_eq_false (show ¬(JE (b::t) 0).1<((0:Nat):Int) from hn),cF,decide_eq_true h,cT,obs]; rfl
end
section
open Go
theorem TS (b c:UInt8) (l:Str):Lib.index (b::l) [c]=if b=c then 0 else if Lib.index l [c] = -1 then -1 else Lib.index l [c] + 1:=by
 rw[Lib.index];have:([c]:Str).isPrefixOf (b::l)=(c==b):=by simp[List.isPrefixOf]
 rw[this];by_cases h:b=c
 ·subst h; simp
 ·rw[if_neg (show ¬(c==b)=true by simpa using Ne.symm h),if_neg h];by_cases h2:Lib.index l [c] = -1
  ·simp[h2]
  ·rw[if_neg (by simpa using h2),if_neg h2]
theorem An7 {c:UInt8}:∀ {s:Str},c ∉ s->Lib.index s [c] = -1
 | [],_=>by rw[Lib.index]; rfl
 | b::l,h=>by
  rw[TS,if_neg (fun e=>h (by rw[e]; simp)),if_pos (An7 (fun hm=>h (List.mem_cons_of_mem _ hm)))]
theorem Tl {c:UInt8}:∀ {x r:Str},c ∉ x->Lib.index (x++c::r) [c]=(x.length:Nat)
 | [],r,_=>by rw[List.nil_append,TS,if_pos rfl]; rfl
 | b::x,r,h=>by
  have ih:=Tl (r:=r) (fun hm:c∈x=>h (List.mem_cons_of_mem _ hm));rw[List.cons_append,TS,if_neg (fun e=>h (by rw[e]; simp)),ih,if_neg (by omega),zb8];omega
theorem A2L (c:UInt8) (s:Str):c ∉ s\/∃ x r,s=x++c::r/\c ∉ x:=by
 by_cases h:c∈s
 ·right
  induction s with
  | nil=>exact absurd h List.not_mem_nil
  | cons b l ih =>
   by_cases hb:b=c
   ·subst hb; exact ⟨[],l,rfl,List.not_mem_nil⟩
   ·have hm:c∈l:=by
     rcases zc8.1 h with rfl | h
     ·exact absurd rfl hb
     ·exact h
    obtain ⟨x,r,h1,h2⟩:=ih hm;refine ⟨b::x,r,by rw[h1,List.cons_append],fun h3=>?_⟩
    rcases zc8.1 h3 with rfl | h3
    ·exact hb rfl
    ·exact h2 h3
 ·exact .inl h
def Ap (c:UInt8) (s:Str):List Str:=Lib.split s [c]
theorem Im {c:UInt8} {s:Str} (h:c ∉ s):Ap c s = [s]:=by
 unfold Ap Lib.split;rw[Lib.count_miss (An7 h)];rfl
theorem Oe {c:UInt8} {x r:Str} (h:c ∉ x):Ap c (x++c::r)=x::Ap c r:=by
 unfold Ap Lib.split;have e:List.drop (x.length + ([c]:Str).length) (x++c::r)=r:=by simp
 rw[Lib.count_hit (by simp) (Tl h),e,Nat.add_comm,Lib.splitK,Tl h,if_neg (by simp),zc5,Nat.add_zero,e];simp
theorem A90 (c:UInt8) (s:Str):Ap c s≠[]:=by
 rcases A2L c s with h | ⟨x,r,rfl,h⟩
 ·rw[Im h]; simp
 ·rw[Oe h]; simp
theorem AH7 {c:UInt8}:∀ (n:Nat) (s:Str),s.length<=n->∀ p∈Ap c s,p.length<=s.length:=by
 intro n
 induction n with
 | zero =>
  intro s hs p hp;have:s = []:=zb4 (by omega);subst this;rw[Im (by simp)] at hp;cases zd8.1 hp
  exact za7 _
 | succ n ih =>
  intro s hs p hp;rcases A2L c s with h | ⟨x,r,rfl,h⟩
  ·rw[Im h] at hp;cases zd8.1 hp
   exact za7 _
  ·rw[Oe h] at hp;rw[zc7,zb8] at hs ⊢
   rcases zc8.1 hp with rfl | hp
   ·omega
   ·have:=ih r (by omega) p hp;omega
theorem A7b (s:Str) (c:UInt8):Gy s [c]=Ap c s:=by
 unfold Gy Ap Lib.split;exact Lib.splitB_data ⟨#[c]⟩ 0 _ ⟨s.toArray⟩
theorem A9k {s:Str} {c:UInt8} (h:s.length<4294967281):Ru s [c]=some (Ap c s):=by
 unfold Ru;rw[if_pos ⟨h,by simp⟩,A7b]
end
section
open Go
abbrev Pn:=Int×Int
abbrev Wy:=List Pn
theorem A2F {s:Str} (hs:s.length<=1000):HU s=some (Ap 32 s):=by
 unfold HU;obtain ⟨b,h1,h2,h3,h4,h5⟩:=CJ (body:=fun (t:(List Str×(Str×(Int×Int))))=>FF t.1 t.2.1 t.2.2.1 t.2.2.2)
  (fun k (b:List Str×Nat)=>(b.1,s,(b.2:Int),(k:Int))) (fun b=>(b.1,s,(b.2:Int))) (fun k b=>b.2<=k/\b.1.length<=k/\Ap 32 s=b.1++Ap 32 (s.drop b.2)/\(32:UInt8) ∉ (s.drop b.2).take (k-b.2)) s.length (by
   rintro k ⟨out,f⟩ hk ⟨h1,h2,h3,h4⟩;simp only at h1 h2 h3 h4;have he:s[k]? = some s[k]:=za1 hk;generalize s[k]=c at he;unfold FF;simp only;rw[decide_eq_true (show (k:Int)<(s.length:Int) by omega),cT,An,he,obs];by_cases hc:c=32
   ·subst hc;refine ⟨(out ++ [(s.drop f).take (k-f)],k + 1),?_,za7 _,by simp; omega,?_,by simp⟩
    ·have hsub:JL (f:Int) (k:Int) s.length=some (f,k):=by unfold JL; rw[if_pos (by omega)]; rfl
     rw[show ((((32:UInt8).toNat:Nat):Int)==32)=true from rfl,cT,hsub,obs,Dm (by simp[Ag]; omega) (by simp[Ag]; omega),obs,AM (by omega),List.drop_take]
    ·have hd:s.drop f=(s.drop f).take (k-f)++32::s.drop (k + 1):=by
      have e1:(s.drop f).drop (k-f)=s.drop k:=by rw[List.drop_drop]; congr 1; omega
      have e2:s.drop k=32::s.drop (k + 1):=by
       rw[zb0 hk];rw[za1 hk] at he;rw[Option.some.inj he]
      rw[<-e2,<-e1,List.take_append_drop]
     rw[h3]
     conv=>lhs; rw[hd]
     rw[Oe h4];simp
   ·have hc':c.toNat≠32:=fun h=>hc (UInt8.toNat_inj.1 (show c.toNat=(32:UInt8).toNat from h))
    refine ⟨(out,f),?_,by simp only; omega,by simp only; omega,h3,?_⟩
    ·rw[show (((c.toNat:Nat):Int)==32)=false by simp; omega,cF,AM (by omega)]
    ·simp only;rw[show k + 1-f=(k-f) + 1 by omega,List.take_add_one,zd3,show f + (k-f)=k by omega,he];intro hm;rcases zb3.1 hm with hm | hm
     ·exact h4 hm
     ·simp at hm; exact hc hm.symm) (by
   rintro ⟨out,f⟩ _;unfold FF;simp) 0 ([],0) (by omega) ⟨by simp,by simp,by simp,by simp⟩
 have h1':Ah (fun (t:(List Str×(Str×(Int×Int))))=>FF t.1 t.2.1 t.2.2.1 t.2.2.2) (([]:List Str),s,(0:Int),(0:Int))=_:=h1;obtain ⟨out,f⟩:=b;simp only at h2 h3 h4 h5;have hsub:JL (f:Int) (s.length:Int) s.length=some (f,s.length):=by unfold JL; rw[if_pos (by omega)]; rfl
 have hall:(s.drop f).take (s.length-f)=s.drop f:=zc4 (by simp);rw[hall] at h5;rw[h1',obs];simp only;rw[hsub,obs,Dm (by simp[Ag]; omega) (by simp[Ag]; omega),obs,h4,Im h5,List.take_length]
def Fv (W:List Str) (i:Nat):Option Int:=match W[i]? with | none=>none | some s=>if (Qq s).2 then some (Qq s).1 else none
abbrev CV:=(Int×Nat) ⊕ (Nat×List Wy×Wy)
def ptV (g:Int×Int->Bool) (i:Nat) (ways:List Wy) (way:Wy) (p:Pn):CV:=if g p then .inr (i,ways,way ++ [p]) else .inl (6,i-1)
def Hq (p:Pn):Bool:=decide (-1000<=p.1/\p.1<=1000)&&decide (-1000<=p.2/\p.2<=1000)
def one (W:List Str) (i:Nat) (ways:List Wy) (way:Wy) (f:Int->Pn):CV:=match Fv W i with | none=>.inl (3,i) | some x=>ptV Hq (i + 1) ways way (f x)
def two (W:List Str) (i:Nat) (ways:List Wy) (way:Wy) (f:Int->Int->Pn):CV:=match Fv W i with | none=>.inl (3,i) | some x=>one W (i + 1) ways way (f x)
section
variable {W:List Str} (hW:W.length<=1000) (hs:∀ w∈W,w.length<=1000)
include hW hs
theorem A2b {i:Nat} (hi:i<=W.length) (ways:List Wy) (way:Wy):Av (W,(i:Int),0) ways way=some (match Fv W i with | none=>((W,(i:Int),3),ways,way,0) | some x=>((W,((i + 1:Nat):Int),0),ways,way,x)):=by
 unfold Av Fv;simp only;rw[show ((0:Int) != 0)=false from rfl,cF];by_cases h:i=W.length
 ·subst h;rw[show ((W.length:Int)==(W.length:Int))=true by simp,cT,List.getElem?_eq_none (za7 _)]
 ·have he:W[i]? = some (W[i]'(by omega)):=za1 (by omega);generalize (W[i]'(by omega))=w at he;have hw:=hs w (za4 he);rw[show ((i:Int)==(W.length:Int))=false by simp; omega,cF,An,he,obs,AP4 (by omega),obs];simp only;cases hr:(Qq w).2 with
  | false=>rw[nF,cT]; rfl
  | true=>rw[nT,cF,AM (by omega)]; rfl
omit hs in
theorem A2R {i:Int} {c:Int} (hc:c≠0) (ways:List Wy) (way:Wy):Av (W,i,c) ways way=some ((W,i,c),ways,way,0):=by
 unfold Av;simp only;rw[show (c != 0)=true by simpa[bne] using hc,cT]
theorem A8x {i:Nat} (hi:i<=W.length) (o:Bool) (ways:List Wy) (way:Wy):EK (W,(i:Int),o) ways way=some (match Fv W i with | none=>((W,(i:Int),o),ways,way,0,false) | some x=>((W,((i + 1:Nat):Int),o),ways,way,x,true)):=by
 unfold EK Fv;simp only;by_cases h:i=W.length
 ·subst h;rw[show ((W.length:Int)==(W.length:Int))=true by simp,cT,List.getElem?_eq_none (za7 _)]
 ·have he:W[i]? = some (W[i]'(by omega)):=za1 (by omega);generalize (W[i]'(by omega))=w at he;have hw:=hs w (za4 he);rw[show ((i:Int)==(W.length:Int))=false by simp; omega,cF,An,he,obs,AV0 (by omega),obs];simp only;rcases L5 w with ⟨v,_,_,_,hr⟩ | ⟨hr,_⟩
  ·rw[hr]; simp only; rw[cT,AM (by omega)]; rfl
  ·rw[hr]; rfl
end
theorem Bg6 (p:Pn):Fh p=some (Hq p):=by
 unfold Fh De Hq;by_cases h1:p.1>=-1000 <;> by_cases h2:p.1<=1000 <;> by_cases h3:p.2>=-1000 <;> by_cases h4:p.2<=1000 <;> simp[h1,h2,h3,h4] <;> omega
theorem Bd9 (p:Pn):IB p=some (Hq p):=by
 unfold IB Bm Hq;by_cases h1:p.1>=-1000 <;> by_cases h2:p.1<=1000 <;> by_cases h3:p.2>=-1000 <;> by_cases h4:p.2<=1000 <;> simp[h1,h2,h3,h4] <;> omega
theorem Be6 (W:List Str) {i:Nat} (hi : 1<=i/\i<=2000) (ways:List Wy) {way:Wy} (hw:way.length<=1000) (p:Pn) :
  AK (W,(i:Int),0) ways way p=some (if Hq p then ((W,(i:Int),0),ways,way ++ [p]) else ((W,((i-1:Nat):Int),6),ways,way)):=by
 unfold AK;simp only;rw[show ((0:Int) != 0)=false from rfl,cF,Bg6,obs];cases h:Hq (p.1,p.2) with
 | false =>
  rw[nF,cT,Aj (by omega) (by omega),show (i:Int)-1=((i-1:Nat):Int) by omega];rfl
 | true =>
  rw[nT,cF,Dm (by simp[Ag]; omega) (by simp[Ag]; omega),obs];rfl
theorem AF2 (W:List Str) {i c:Int} (hc:c≠0) (ways:List Wy) (way:Wy) (p:Pn):AK (W,i,c) ways way p=some ((W,i,c),ways,way):=by
 unfold AK;simp only;rw[show (c != 0)=true by simpa[bne] using hc,cT]
def WK (W:List Str) (ways:List Wy) (way:Wy):CV->(List Str×Int×Int)×List Wy×Wy
 | .inl (c,i)=>((W,(i:Int),c),ways,way)
 | .inr (i,ways',way')=>((W,(i:Int),0),ways',way')
abbrev SSt:=(List Str×Int×Int)×List Wy×Wy
noncomputable def Bk4 (st:SSt) (f:Int->Pn):Option SSt :=
 (Av (st.1.1,(st.1.2.1,st.1.2.2)) st.2.1 st.2.2).bind fun x=>(AK (x.1.1,(x.1.2.1,x.1.2.2)) x.2.1 x.2.2.1 (f x.2.2.2)).bind fun y=>some ((y.1.1,(y.1.2.1,y.1.2.2)),(y.2.1,y.2.2))
noncomputable def Bk5 (st:SSt) (f:Int->Int->Pn):Option SSt :=
 (Av (st.1.1,(st.1.2.1,st.1.2.2)) st.2.1 st.2.2).bind fun x=>(Av (x.1.1,(x.1.2.1,x.1.2.2)) x.2.1 x.2.2.1).bind fun x'=>(AK (x'.1.1,(x'.1.2.1,x'.1.2.2)) x'.2.1 x'.2.2.1 (f x.2.2.2 x'.2.2.2)).bind fun y=>some ((y.1.1,(y.1.2.1,y.1.2.2)),(y.2.1,y.2.2))
section
variable {W:List Str} (hW:W.length<=1000) (hs:∀ w∈W,w.length<=1000)
include hW hs
theorem Ks {i:Nat} {x:Int} (h:Fv W i=some x):i<W.length:=by
 unfold Fv at h;cases hz:W[i]? with
 | none=>rw[hz] at h; cases h
 | some w=>exact EC hz
theorem PH {i:Nat} (hi:i<=W.length) (ways:List Wy) {way:Wy} (hw:way.length<=1000) (f:Int->Pn):Bk4 ((W,(i:Int),0),ways,way) f=some (WK W ways way (one W i ways way f)):=by
 unfold Bk4 one;simp only;rw[A2b hW hs hi,obs];cases hz:Fv W i with
 | none =>
  simp only;rw[AF2 W (by omega),obs];rfl
 | some x =>
  have:=Ks hW hs hz;simp only;rw[Be6 W (by omega) ways hw,obs];unfold ptV
  split <;> rfl
theorem Ac1 {i:Nat} (hi:i<=W.length) (ways:List Wy) {way:Wy} (hw:way.length<=1000) (f:Int->Int->Pn):Bk5 ((W,(i:Int),0),ways,way) f=some (WK W ways way (two W i ways way f)):=by
 unfold Bk5 two;simp only;rw[A2b hW hs hi,obs];cases hz:Fv W i with
 | none =>
  simp only;rw[A2R hW (by omega),obs];simp only;rw[AF2 W (by omega),obs];rfl
 | some x =>
  have:=Ks hW hs hz;simp only;exact PH hW hs (by omega) ways hw (f x)
end
end
section
open Go
def KW:List Str:=[[77],[76],[108],[72],[104],[86],[118],[90]]
def Eh (way:Wy):Pn:=way.getLast?.getD (0,0)
def CD (W:List Str) (i:Nat) (ways:List Wy) (way:Wy) (w:Str):CV :=
 if w = [77] then (if way = [] then (if ways.length=4 then .inl (5,i) else two W (i + 1) ways way (fun x y=>(x,y))) else .inl (4,i))
 else if w∈KW then
  (if way = [] then .inl (4,i)
  else if w = [90] then (if way.length<3 then .inl (5,i) else .inr (i + 1,ways ++ [way],[]))
  else if way.length=12 then .inl (5,i)
  else if w = [76] then two W (i + 1) ways way (fun x y=>(x,y))
  else if w = [108] then two W (i + 1) ways way (fun x y=>(IntKind.wrap .i64 ((Eh way).1 + x),IntKind.wrap .i64 ((Eh way).2 + y)))
  else if w = [72] then one W (i + 1) ways way (fun x=>(x,(Eh way).2))
  else if w = [104] then one W (i + 1) ways way (fun x=>(IntKind.wrap .i64 ((Eh way).1 + x),(Eh way).2))
  else if w = [86] then one W (i + 1) ways way (fun x=>((Eh way).1,x))
  else one W (i + 1) ways way (fun x=>((Eh way).1,IntKind.wrap .i64 ((Eh way).2 + x))))
 else .inl (2,i)
theorem S1:(([77]:Str) == [77])=true:=rfl
theorem Tf:(([77]:Str) == [76])=false:=rfl
theorem OR:(([77]:Str) == [108])=false:=rfl
theorem Ua:(([77]:Str) == [72])=false:=rfl
theorem OH:(([77]:Str) == [104])=false:=rfl
theorem Tb:(([77]:Str) == [86])=false:=rfl
theorem NJ:(([77]:Str) == [118])=false:=rfl
theorem TI:(([77]:Str) == [90])=false:=rfl
theorem SO:(([76]:Str) == [77])=false:=rfl
theorem TN:(([76]:Str) == [76])=true:=rfl
theorem NK:(([76]:Str) == [108])=false:=rfl
theorem TR:(([76]:Str) == [72])=false:=rfl
theorem NZ:(([76]:Str) == [104])=false:=rfl
theorem Tq:(([76]:Str) == [86])=false:=rfl
theorem Nx:(([76]:Str) == [118])=false:=rfl
theorem Tg:(([76]:Str) == [90])=false:=rfl
theorem Oo:(([108]:Str) == [77])=false:=rfl
theorem NE:(([108]:Str) == [76])=false:=rfl
theorem Kx:(([108]:Str) == [108])=true:=rfl
theorem OG:(([108]:Str) == [72])=false:=rfl
theorem KC:(([108]:Str) == [104])=false:=rfl
theorem Ow:(([108]:Str) == [86])=false:=rfl
theorem KG:(([108]:Str) == [118])=false:=rfl
theorem ON:(([108]:Str) == [90])=false:=rfl
theorem TG:(([72]:Str) == [77])=false:=rfl
theorem S5:(([72]:Str) == [76])=false:=rfl
theorem NA:(([72]:Str) == [108])=false:=rfl
theorem TF:(([72]:Str) == [72])=true:=rfl
theorem NH:(([72]:Str) == [104])=false:=rfl
theorem Tv:(([72]:Str) == [86])=false:=rfl
theorem NW:(([72]:Str) == [118])=false:=rfl
theorem T3:(([72]:Str) == [90])=false:=rfl
theorem N1:(([104]:Str) == [77])=false:=rfl
theorem OP:(([104]:Str) == [76])=false:=rfl
theorem KZ:(([104]:Str) == [108])=false:=rfl
theorem OJ:(([104]:Str) == [72])=false:=rfl
theorem K2:(([104]:Str) == [104])=true:=rfl
theorem Oh:(([104]:Str) == [86])=false:=rfl
theorem Lt:(([104]:Str) == [118])=false:=rfl
theorem Nz:(([104]:Str) == [90])=false:=rfl
theorem Ts:(([86]:Str) == [77])=false:=rfl
theorem Ub:(([86]:Str) == [76])=false:=rfl
theorem NQ:(([86]:Str) == [108])=false:=rfl
theorem TT:(([86]:Str) == [72])=false:=rfl
theorem OO:(([86]:Str) == [104])=false:=rfl
theorem Tr:(([86]:Str) == [86])=true:=rfl
theorem N2:(([86]:Str) == [118])=false:=rfl
theorem SR:(([86]:Str) == [90])=false:=rfl
theorem N3:(([118]:Str) == [77])=false:=rfl
theorem Nr:(([118]:Str) == [76])=false:=rfl
theorem Ld:(([118]:Str) == [108])=false:=rfl
theorem Nq:(([118]:Str) == [72])=false:=rfl
theorem Kw:(([118]:Str) == [104])=false:=rfl
theorem OM:(([118]:Str) == [86])=false:=rfl
theorem Lc:(([118]:Str) == [118])=true:=rfl
theorem NY:(([118]:Str) == [90])=false:=rfl
theorem V9:(([90]:Str) == [77])=false:=rfl
theorem W6:(([90]:Str) == [76])=false:=rfl
theorem Rw:(([90]:Str) == [108])=false:=rfl
theorem WN:(([90]:Str) == [72])=false:=rfl
theorem Rj:(([90]:Str) == [104])=false:=rfl
theorem WX:(([90]:Str) == [86])=false:=rfl
theorem Rp:(([90]:Str) == [118])=false:=rfl
theorem Wk:(([90]:Str) == [90])=true:=rfl
theorem Ed {way:Wy} (h:way≠[]):AV way (way.length-1)=some (Eh way):=by
 have hp:=zd2.2 h;have e:way[way.length-1]? = some (way[way.length-1]'(by omega)):=za1 (by omega);show way[way.length-1]? = _;unfold Eh;rw[List.getLast?_eq_getElem?,e];rfl
theorem D4 {way:Wy} (h:way≠[]) (hl:way.length<=1000):A2 (IntKind.wrap .i64 ((way.length:Int)-1)) way.length=some (way.length-1):=by
 have hp:=zd2.2 h;rw[Aj (by omega) (by omega),show (way.length:Int)-1=((way.length-1:Nat):Int) by omega,A0 (by omega)]
theorem JY (W:List Str) (i:Int) (ways:List Wy) (way:Wy) (w:Str) (o:Bool) :
  Ah (fun (s:((List Str×(Int×Int))×(List Str×(List Wy×(Wy×(Str×(Bool×(Bool×(Int×Int)))))))) )=>Dk s.1 s.2.1 s.2.2.1 s.2.2.2.1 s.2.2.2.2.1 s.2.2.2.2.2.1 s.2.2.2.2.2.2.1 s.2.2.2.2.2.2.2.1 s.2.2.2.2.2.2.2.2)
   ((W,(i,0)),(KW,(ways,(way,(w,(o,(false,(((8:Nat):Int),(0:Int)))))))))=some ((W,(i,0)),(ways,(way,(w,(o,decide (w∈KW)))))):=by
 obtain ⟨_,h1,_⟩:=CJ (body:=fun (s:((List Str×(Int×Int))×(List Str×(List Wy×(Wy×(Str×(Bool×(Bool×(Int×Int)))))))) )=>Dk s.1 s.2.1 s.2.2.1 s.2.2.2.1 s.2.2.2.2.1 s.2.2.2.2.2.1 s.2.2.2.2.2.2.1 s.2.2.2.2.2.2.2.1 s.2.2.2.2.2.2.2.2)
  (fun k (_:Unit)=>((W,(i,0)),(KW,(ways,(way,(w,(o,(decide (w∈KW.take k),(((8:Nat):Int),(k:Int))))))))) ) (fun _=>((W,(i,0)),(ways,(way,(w,(o,decide (w∈KW))))))) (fun _ _=>True) 8 (by
   intro k _ hk _;have he:KW[k]? = some (KW[k]'hk):=za1 hk;generalize hx:(KW[k]'hk)=x at he;refine ⟨(),?_,trivial⟩
   unfold Dk;simp only;rw[decide_eq_true (by omega),cT,show A2 (k:Int) KW.length=some k from A0 hk,obs,show AV KW k=some x from he,obs,List.take_add_one,he,AM (by omega)];by_cases hm:w∈KW.take k
   ·rw[decide_eq_true hm,cT,decide_eq_true (List.mem_append_left _ hm)]
   ·rw[decide_eq_false hm,cF];by_cases hxw:x=w
    ·subst hxw;rw[beq_self_eq_true,decide_eq_true (List.mem_append_right _ (by simp))]
    ·rw[beq_eq_false_iff_ne.2 hxw,decide_eq_false];intro h;rcases zb3.1 h with h | h
     ·exact hm h
     ·simp at h; exact hxw h.symm) (by
   intro _ _;unfold Dk;simp only;rw[decide_eq_false (by omega),cF];rfl) 0 () (by omega) trivial
 exact h1
section
variable {W:List Str} (hW:W.length<=1000) (hs:∀ w∈W,w.length<=1000)
include hW hs
theorem A9R {i:Nat} {w:Str} (he:W[i]? = some w) (hk:w ∉ KW) (ways:List Wy) {way:Wy} (hw:way.length<=1000):AD (W,(i:Int),0) ways way=some (WK W ways way (CD W i ways way w)):=by
 unfold AD;simp only;rw[An,he,obs,show ([[77],[76],[108],[72],[104],[86],[118],[90]]:List Str)=KW from rfl,JY W _ ways way _ _,obs];have h77:w≠[77]:=fun h=>hk (by rw[h]; decide)
 unfold CD;rw[if_neg h77,if_neg hk,decide_eq_false hk,nF];simp only[cond_true,za0,za8];rfl
theorem A9h {i:Nat} (he:W[i]? = some [77]) (ways:List Wy) {way:Wy} (hw:way.length<=1000):AD (W,(i:Int),0) ways way=some (WK W ways way (CD W i ways way [77])):=by
 have hlt:=EC he;unfold AD;simp only;rw[An,he,obs,show ([[77],[76],[108],[72],[104],[86],[118],[90]]:List Str)=KW from rfl,JY W _ ways way _ _,obs];unfold CD;rw[if_pos rfl,decide_eq_true (show ([77]:Str)∈KW by decide)];by_cases h0:way = []
 ·subst h0;rw[if_pos rfl];by_cases h4:ways.length=4
  ·have h4':((ways.length:Int)==4)=true:=by simp[h4]
   rw[if_pos h4];simp only[S1,Tf,OR,Ua,OH,Tb,NJ,TI,h4',nT,cF,cT,ze7,show decide (((0:Nat):Int)>0)=false from rfl,show (false==true)=false from rfl,obs,za8,show ((5:Int) != 0)=true from rfl];rfl
  ·have h4':((ways.length:Int)==4)=false:=by simp; omega
   rw[if_neg h4];simp only[S1,Tf,OR,Ua,OH,Tb,NJ,TI,h4',nT,nF,cF,cT,ze7,show decide (((0:Nat):Int)>0)=false from rfl,show (false==true)=false from rfl,obs,za8,show ((0:Int) != 0)=false from rfl,show (((0:Nat):Int)==12)=false from rfl,AM (show i<4611686018427387904 by omega)];exact Ac1 hW hs (by omega) ways (by simp) (fun x y=>(x,y))
 ·have hp:=zd2.2 h0;rw[if_neg h0];simp only[S1,Tf,OR,Ua,OH,Tb,NJ,TI,nT,cF,cT,decide_eq_true (show (way.length:Int)>0 by omega),show (true==true)=true from rfl,obs,za8,show ((4:Int) != 0)=true from rfl];rfl
theorem A8S {i:Nat} (he:W[i]? = some [76]) (ways:List Wy) {way:Wy} (hw:way.length<=1000):AD (W,(i:Int),0) ways way=some (WK W ways way (CD W i ways way [76])):=by
 have hlt:=EC he;unfold AD;simp only;rw[An,he,obs,show ([[77],[76],[108],[72],[104],[86],[118],[90]]:List Str)=KW from rfl,JY W _ ways way _ _,obs];unfold CD;rw[if_neg (by decide),if_pos (show ([76]:Str)∈KW by decide),decide_eq_true (show ([76]:Str)∈KW by decide)];by_cases h0:way = []
 ·subst h0;rw[if_pos rfl];simp only[SO,TN,NK,TR,NZ,Tq,Nx,Tg,nT,cF,cT,ze7,show decide (((0:Nat):Int)>0)=false from rfl,show (false==false)=true from rfl,obs,za8,show ((4:Int) != 0)=true from rfl];rfl
 ·have hp:=zd2.2 h0;rw[if_neg h0];rw[if_neg (by decide)];by_cases h12:way.length=12
  ·rw[if_pos h12];simp only[SO,TN,NK,TR,NZ,Tq,Nx,Tg,nT,nF,cF,cT,decide_eq_true (show (way.length:Int)>0 by omega),show (true==false)=false from rfl,obs,za8,show ((way.length:Int)==12)=true by simp; omega,show ((5:Int) != 0)=true from rfl];rfl
  ·rw[if_neg h12,if_pos rfl];simp only[SO,TN,NK,TR,NZ,Tq,Nx,Tg,nT,nF,cF,cT,decide_eq_true (show (way.length:Int)>0 by omega),show (true==false)=false from rfl,obs,za8,show ((way.length:Int)==12)=false by simp; omega,show ((0:Int) != 0)=false from rfl,D4 h0 hw,Ed h0,AM (show i<4611686018427387904 by omega)];exact Ac1 hW hs (by omega) ways hw (fun x y=>(x,y))
theorem A5X {i:Nat} (he:W[i]? = some [108]) (ways:List Wy) {way:Wy} (hw:way.length<=1000):AD (W,(i:Int),0) ways way=some (WK W ways way (CD W i ways way [108])):=by
 have hlt:=EC he;unfold AD;simp only;rw[An,he,obs,show ([[77],[76],[108],[72],[104],[86],[118],[90]]:List Str)=KW from rfl,JY W _ ways way _ _,obs];unfold CD;rw[if_neg (by decide),if_pos (show ([108]:Str)∈KW by decide),decide_eq_true (show ([108]:Str)∈KW by decide)];by_cases h0:way = []
 ·subst h0;rw[if_pos rfl];simp only[Oo,NE,Kx,OG,KC,Ow,KG,ON,nT,cF,cT,ze7,show decide (((0:Nat):Int)>0)=false from rfl,show (false==false)=true from rfl,obs,za8,show ((4:Int) != 0)=true from rfl];rfl
 ·have hp:=zd2.2 h0;rw[if_neg h0];rw[if_neg (by decide)];by_cases h12:way.length=12
  ·rw[if_pos h12];simp only[Oo,NE,Kx,OG,KC,Ow,KG,ON,nT,nF,cF,cT,decide_eq_true (show (way.length:Int)>0 by omega),show (true==false)=false from rfl,obs,za8,show ((way.length:Int)==12)=true by simp; omega,show ((5:Int) != 0)=true from rfl];rfl
  ·rw[if_neg h12,if_neg (by decide),if_pos rfl];simp only[Oo,NE,Kx,OG,KC,Ow,KG,ON,nT,nF,cF,cT,decide_eq_true (show (way.length:Int)>0 by omega),show (true==false)=false from rfl,obs,za8,show ((way.length:Int)==12)=false by simp; omega,show ((0:Int) != 0)=false from rfl,D4 h0 hw,Ed h0,AM (show i<4611686018427387904 by omega)];exact Ac1 hW hs (by omega) ways hw (fun x y=>(IntKind.wrap .i64 ((Eh way).1 + x),IntKind.wrap .i64 ((Eh way).2 + y)))
theorem A9L {i:Nat} (he:W[i]? = some [72]) (ways:List Wy) {way:Wy} (hw:way.length<=1000):AD (W,(i:Int),0) ways way=some (WK W ways way (CD W i ways way [72])):=by
 have hlt:=EC he;unfold AD;simp only;rw[An,he,obs,show ([[77],[76],[108],[72],[104],[86],[118],[90]]:List Str)=KW from rfl,JY W _ ways way _ _,obs];unfold CD;rw[if_neg (by decide),if_pos (show ([72]:Str)∈KW by decide),decide_eq_true (show ([72]:Str)∈KW by decide)];by_cases h0:way = []
 ·subst h0;rw[if_pos rfl];simp only[TG,S5,NA,TF,NH,Tv,NW,T3,nT,cF,cT,ze7,show decide (((0:Nat):Int)>0)=false from rfl,show (false==false)=true from rfl,obs,za8,show ((4:Int) != 0)=true from rfl];rfl
 ·have hp:=zd2.2 h0;rw[if_neg h0];rw[if_neg (by decide)];by_cases h12:way.length=12
  ·rw[if_pos h12];simp only[TG,S5,NA,TF,NH,Tv,NW,T3,nT,nF,cF,cT,decide_eq_true (show (way.length:Int)>0 by omega),show (true==false)=false from rfl,obs,za8,show ((way.length:Int)==12)=true by simp; omega,show ((5:Int) != 0)=true from rfl];rfl
  ·rw[if_neg h12,if_neg (by decide),if_neg (by decide),if_pos rfl];simp only[TG,S5,NA,TF,NH,Tv,NW,T3,nT,nF,cF,cT,decide_eq_true (show (way.length:Int)>0 by omega),show (true==false)=false from rfl,obs,za8,show ((way.length:Int)==12)=false by simp; omega,show ((0:Int) != 0)=false from rfl,D4 h0 hw,Ed h0,AM (show i<4611686018427387904 by omega)];exact PH hW hs (by omega) ways hw (fun x=>(x,(Eh way).2))
theorem A7w {i:Nat} (he:W[i]? = some [104]) (ways:List Wy) {way:Wy} (hw:way.length<=1000):AD (W,(i:Int),0) ways way=some (WK W ways way (CD W i ways way [104])):=by
 have hlt:=EC he;unfold AD;simp only;rw[An,he,obs,show ([[77],[76],[108],[72],[104],[86],[118],[90]]:List Str)=KW from rfl,JY W _ ways way _ _,obs];unfold CD;rw[if_neg (by decide),if_pos (show ([104]:Str)∈KW by decide),decide_eq_true (show ([104]:Str)∈KW by decide)];by_cases h0:way = []
 ·subst h0;rw[if_pos rfl];simp only[N1,OP,KZ,OJ,K2,Oh,Lt,Nz,nT,cF,cT,ze7,show decide (((0:Nat):Int)>0)=false from rfl,show (false==false)=true from rfl,obs,za8,show ((4:Int) != 0)=true from rfl];rfl
 ·have hp:=zd2.2 h0;rw[if_neg h0];rw[if_neg (by decide)];by_cases h12:way.length=12
  ·rw[if_pos h12];simp only[N1,OP,KZ,OJ,K2,Oh,Lt,Nz,nT,nF,cF,cT,decide_eq_true (show (way.length:Int)>0 by omega),show (true==false)=false from rfl,obs,za8,show ((way.length:Int)==12)=true by simp; omega,show ((5:Int) != 0)=true from rfl];rfl
  ·rw[if_neg h12,if_neg (by decide),if_neg (by decide),if_neg (by decide),if_pos rfl];simp only[N1,OP,KZ,OJ,K2,Oh,Lt,Nz,nT,nF,cF,cT,decide_eq_true (show (way.length:Int)>0 by omega),show (true==false)=false from rfl,obs,za8,show ((way.length:Int)==12)=false by simp; omega,show ((0:Int) != 0)=false from rfl,D4 h0 hw,Ed h0,AM (show i<4611686018427387904 by omega)];exact PH hW hs (by omega) ways hw (fun x=>(IntKind.wrap .i64 ((Eh way).1 + x),(Eh way).2))
theorem A8b {i:Nat} (he:W[i]? = some [86]) (ways:List Wy) {way:Wy} (hw:way.length<=1000):AD (W,(i:Int),0) ways way=some (WK W ways way (CD W i ways way [86])):=by
 have hlt:=EC he;unfold AD;simp only;rw[An,he,obs,show ([[77],[76],[108],[72],[104],[86],[118],[90]]:List Str)=KW from rfl,JY W _ ways way _ _,obs];unfold CD;rw[if_neg (by decide),if_pos (show ([86]:Str)∈KW by decide),decide_eq_true (show ([86]:Str)∈KW by decide)];by_cases h0:way = []
 ·subst h0;rw[if_pos rfl];simp only[Ts,Ub,NQ,TT,OO,Tr,N2,SR,nT,cF,cT,ze7,show decide (((0:Nat):Int)>0)=false from rfl,show (false==false)=true from rfl,obs,za8,show ((4:Int) != 0)=true from rfl];rfl
 ·have hp:=zd2.2 h0;rw[if_neg h0];rw[if_neg (by decide)];by_cases h12:way.length=12
  ·rw[if_pos h12];simp only[Ts,Ub,NQ,TT,OO,Tr,N2,SR,nT,nF,cF,cT,decide_eq_true (show (way.length:Int)>0 by omega),show (true==false)=false from rfl,obs,za8,show ((way.length:Int)==12)=true by simp; omega,show ((5:Int) != 0)=true from rfl];rfl
  ·rw[if_neg h12,if_neg (by decide),if_neg (by decide),if_neg (by decide),if_neg (by decide),if_pos rfl];simp only[Ts,Ub,NQ,TT,OO,Tr,N2,SR,nT,nF,cF,cT,decide_eq_true (show (way.length:Int)>0 by omega),show (true==false)=false from rfl,obs,za8,show ((way.length:Int)==12)=false by simp; omega,show ((0:Int) != 0)=false from rfl,D4 h0 hw,Ed h0,AM (show i<4611686018427387904 by omega)];exact PH hW hs (by omega) ways hw (fun x=>((Eh way).1,x))
theorem A6B {i:Nat} (he:W[i]? = some [118]) (ways:List Wy) {way:Wy} (hw:way.length<=1000):AD (W,(i:Int),0) ways way=some (WK W ways way (CD W i ways way [118])):=by
 have hlt:=EC he;unfold AD;simp only;rw[An,he,obs,show ([[77],[76],[108],[72],[104],[86],[118],[90]]:List Str)=KW from rfl,JY W _ ways way _ _,obs];unfold CD;rw[if_neg (by decide),if_pos (show ([118]:Str)∈KW by decide),decide_eq_true (show ([118]:Str)∈KW by decide)];by_cases h0:way = []
 ·subst h0;rw[if_pos rfl];simp only[N3,Nr,Ld,Nq,Kw,OM,Lc,NY,nT,cF,cT,ze7,show decide (((0:Nat):Int)>0)=false from rfl,show (false==false)=true from rfl,obs,za8,show ((4:Int) != 0)=true from rfl];rfl
 ·have hp:=zd2.2 h0;rw[if_neg h0];rw[if_neg (by decide)];by_cases h12:way.length=12
  ·rw[if_pos h12];simp only[N3,Nr,Ld,Nq,Kw,OM,Lc,NY,nT,nF,cF,cT,decide_eq_true (show (way.length:Int)>0 by omega),show (true==false)=false from rfl,obs,za8,show ((way.length:Int)==12)=true by simp; omega,show ((5:Int) != 0)=true from rfl];rfl
  ·rw[if_neg h12,if_neg (by decide),if_neg (by decide),if_neg (by decide),if_neg (by decide),if_neg (by decide)];simp only[N3,Nr,Ld,Nq,Kw,OM,Lc,NY,nT,nF,cF,cT,decide_eq_true (show (way.length:Int)>0 by omega),show (true==false)=false from rfl,obs,za8,show ((way.length:Int)==12)=false by simp; omega,show ((0:Int) != 0)=false from rfl,D4 h0 hw,Ed h0,AM (show i<4611686018427387904 by omega)];exact PH hW hs (by omega) ways hw (fun x=>((Eh way).1,IntKind.wrap .i64 ((Eh way).2 + x)))
theorem Bb4 {i:Nat} (he:W[i]? = some [90]) (ways:List Wy) {way:Wy} (hw:way.length<=1000) (hwl:ways.length<=1000):AD (W,(i:Int),0) ways way=some (WK W ways way (CD W i ways way [90])):=by
 have hlt:=EC he;unfold AD;simp only;rw[An,he,obs,show ([[77],[76],[108],[72],[104],[86],[118],[90]]:List Str)=KW from rfl,JY W _ ways way _ _,obs];unfold CD;rw[if_neg (by decide),if_pos (show ([90]:Str)∈KW by decide),decide_eq_true (show ([90]:Str)∈KW by decide)];by_cases h0:way = []
 ·subst h0;rw[if_pos rfl];simp only[V9,W6,Rw,WN,Rj,WX,Rp,Wk,nT,cF,cT,ze7,show decide (((0:Nat):Int)>0)=false from rfl,show (false==false)=true from rfl,obs,za8,show ((4:Int) != 0)=true from rfl];rfl
 ·have hp:=zd2.2 h0;rw[if_neg h0];rw[if_pos rfl];by_cases h3:way.length<3
  ·rw[if_pos h3];simp only[V9,W6,Rw,WN,Rj,WX,Rp,Wk,nT,nF,cF,cT,decide_eq_true (show (way.length:Int)>0 by omega),show (true==false)=false from rfl,obs,za8,decide_eq_true (show (way.length:Int)<3 by omega),show ((5:Int) != 0)=true from rfl];rfl
  ·rw[if_neg h3];simp only[V9,W6,Rw,WN,Rj,WX,Rp,Wk,nT,nF,cF,cT,decide_eq_true (show (way.length:Int)>0 by omega),show (true==false)=false from rfl,obs,za8,decide_eq_false (show ¬(way.length:Int)<3 by omega),show ((0:Int) != 0)=false from rfl,D4 h0 hw,Ed h0,AM (show i<4611686018427387904 by omega)];rw[Dm (by simp[Ag]; omega) (by simp[Ag]; omega),obs];rfl
theorem A65 {i:Nat} {w:Str} (he:W[i]? = some w) (ways:List Wy) {way:Wy} (hw:way.length<=1000) (hwl:ways.length<=1000):AD (W,(i:Int),0) ways way=some (WK W ways way (CD W i ways way w)):=by
 by_cases hk:w∈KW
 ·have hk':w = [77]\/w = [76]\/w = [108]\/w = [72]\/w = [104]\/w = [86]\/w = [118]\/w = [90]:=by simpa[KW] using hk
  rcases hk' with rfl | rfl | rfl | rfl | rfl | rfl | rfl | rfl
  ·exact A9h hW hs he ways hw
  ·exact A8S hW hs he ways hw
  ·exact A5X hW hs he ways hw
  ·exact A9L hW hs he ways hw
  ·exact A7w hW hs he ways hw
  ·exact A8b hW hs he ways hw
  ·exact A6B hW hs he ways hw
  ·exact Bb4 hW hs he ways hw hwl
 ·exact A9R hW hs he hk ways hw
end
end
section
open Go
abbrev ISt:=(List Str×(Int×Bool))×(List Wy×(Wy×(Int×Int)))
def EI (W:List Str):CV->ISt->Prop
 | .inl (c,i),r=>r.2.2.2=(c,(i:Int))/\c≠0
 | .inr (i,ways',way'),r=>r=((W,((i:Int),decide (way'≠[]))),(ways',(way',(0,0))))
def KWi:List Str:=[[77],[76],[108],[72],[86],[104],[118],[90]]
theorem A5p (w:Str):w∈KWi↔w∈KW:=by simp only[KWi,KW,zc8,List.not_mem_nil,or_false]; constructor <;> (intro h; rcases h with h | h | h | h | h | h | h | h <;> simp[h])
theorem JM (w:Str):A8 KWi w=some (decide (w∈KW)):=by
 unfold A8 BM;have key:=Ls (body:=fun s:List Str×Str×Int×Int=>Ba s.1 s.2.1 s.2.2.1 s.2.2.2) (l:=KWi) (st:=fun k=>(KWi,w,((KWi.length:Nat):Int),(k:Int))) (p:=fun x=>!(w==x)) (fin:=.inl ()) (bad:=fun k=>.inr (k:Int))
  (fun k a hk hp=>by
   have hlt:k<8:=EC hk;have hp:(w==a)=false:=by simpa using hp
   unfold Ba;simp only;rw[decide_eq_true (show (k:Int)<((KWi.length:Nat):Int) by show (k:Int)<8; omega),cT,An,hk,obs,hp,cF,AM (by omega)])
  (fun k a hk hp=>by
   have hlt:k<8:=EC hk;have hp:(w==a)=true:=by simpa using hp
   unfold Ba;simp only;rw[decide_eq_true (show (k:Int)<((KWi.length:Nat):Int) by show (k:Int)<8; omega),cT,An,hk,obs,hp,cT])
  (by
   unfold Ba;simp only;rw[decide_eq_false (by omega),cF])
 by_cases hm:w∈KW
 ·have hall:KWi.all (fun x=>!(w==x))=false:=by
   rw[List.all_eq_false];exact ⟨w,(A5p w).2 hm,by simp⟩
  obtain ⟨k,_,h⟩:=key.2 hall;rw[show ((0:Nat):Int)=0 from rfl] at h;rw[h,obs];simp only[za8];rw[obs,decide_eq_true hm,decide_eq_true (by omega)]
 ·have hall:KWi.all (fun x=>!(w==x))=true:=by
   rw[za5];intro x hx;have:w≠x:=fun h=>hm ((A5p w).1 (h▸hx))
   simpa using this
  have h:=key.1 hall;rw[show ((0:Nat):Int)=0 from rfl] at h;rw[h,obs];simp only[Sum.elim_inl];rw[obs,decide_eq_false hm];rfl
theorem Oc (w:Str):Em [72,86,104,118] w=some (Lib.contains [72,86,104,118] w):=by
 unfold Em Lb;rw[if_pos (by decide)]
noncomputable def icB:((List Str×(Int×Bool))×(List Int×(List Wy×(Wy×(Str×(Int×Int))))))->Option (((List Str×(Int×Bool))×(List Int×(List Wy×(Wy×(Str×(Int×Int)))))) ⊕ (((List Str×(Int×Bool))×(List Int×(List Wy×(Wy×Str)))) ⊕ ISt)) :=
 fun s=>Eu s.1 s.2.1 s.2.2.1 s.2.2.2.1 s.2.2.2.2.1 s.2.2.2.2.2.1 s.2.2.2.2.2.2
section
variable {W:List Str} (hW:W.length<=1000) (hs:∀ w∈W,w.length<=1000)
include hW hs
theorem A71 {i:Nat} (hi:i<=W.length) (o:Bool) (n:List Int) (hn:n.length<=10) (ways:List Wy) (way:Wy) (w:Str) {c k:Nat} (hk:k<c) (hc:c<=10) :
  icB ((W,((i:Int),o)),(n,(ways,(way,(w,((c:Int),(k:Int)))))))=match Fv W i with | none=>some (.inr (.inr ((W,((i:Int),o)),(ways,(way,(3,(i:Int))))))) | some x=>some (.inl ((W,(((i + 1:Nat):Int),o)),(n ++ [x],(ways,(way,(w,((c:Int),((k + 1:Nat):Int)))))))):=by
 unfold icB Eu;simp only;rw[decide_eq_true (by omega),cT,A8x hW hs hi,obs];cases hz:Fv W i with
 | none=>rfl
 | some x =>
  simp only;rw[nT,cF,Dm (by simp[Ag]; omega) (by simp[Ag]; omega),obs,AM (by omega)]
omit hW hs in
theorem A8l (W:List Str) (i:Int) (o:Bool) (n:List Int) (ways:List Wy) (way:Wy) (w:Str) (c:Nat):icB ((W,(i,o)),(n,(ways,(way,(w,((c:Int),(c:Int)))))))=some (.inr (.inl ((W,(i,o)),(n,(ways,(way,w)))))):=by
 unfold icB Eu;simp only;rw[decide_eq_false (by omega),cF]
theorem Bq4 {i:Nat} (hi:i<=W.length) (o:Bool) (ways:List Wy) (way:Wy) (w:Str):Ah icB ((W,((i:Int),o)),(([]:List Int),(ways,(way,(w,((1:Int),(0:Int))))))) =
  match Fv W i with | none=>some (.inr ((W,((i:Int),o)),(ways,(way,(3,(i:Int)))))) | some x=>some (.inl ((W,(((i + 1:Nat):Int),o)),([x],(ways,(way,w))))):=by
 have h1:=A71 hW hs hi o [] (by simp) ways way w (c:=1) (k:=0) (by omega) (by omega);cases hz:Fv W i with
 | none=>rw[hz] at h1; exact Aq h1
 | some x =>
  rw[hz] at h1;exact (AX h1).trans (Aq (A8l W _ o [x] ways way w 1))
theorem Bq3 {i:Nat} (hi:i<=W.length) (o:Bool) (ways:List Wy) (way:Wy) (w:Str):Ah icB ((W,((i:Int),o)),(([]:List Int),(ways,(way,(w,((2:Int),(0:Int))))))) =
  match Fv W i with | none=>some (.inr ((W,((i:Int),o)),(ways,(way,(3,(i:Int)))))) | some x=>(match Fv W (i + 1) with | none=>some (.inr ((W,(((i + 1:Nat):Int),o)),(ways,(way,(3,((i + 1:Nat):Int)))))) | some y=>some (.inl ((W,(((i + 2:Nat):Int),o)),([x,y],(ways,(way,w)))))):=by
 have h1:=A71 hW hs hi o [] (by simp) ways way w (c:=2) (k:=0) (by omega) (by omega);cases hz:Fv W i with
 | none=>rw[hz] at h1; exact Aq h1
 | some x =>
  rw[hz] at h1;have hlt:=Ks hW hs hz;have h2:=A71 hW hs (i:=i + 1) (by omega) o [x] (by simp) ways way w (c:=2) (k:=1) (by omega) (by omega);refine (AX h1).trans ?_
  simp only;cases hz2:Fv W (i + 1) with
  | none=>rw[hz2] at h2; exact Aq h2
  | some y =>
   rw[hz2] at h2;exact (AX h2).trans (Aq (A8l W _ o [x,y] ways way w 2))
noncomputable def icK (w:Str):(((List Str×(Int×Bool))×(List Int×(List Wy×(Wy×Str)))) ⊕ ISt)->Option ISt:=fun x7=>Sum.elim
   (fun x8 =>
   ((Bf (x8.1.1,(x8.1.2.1,x8.1.2.2)) x8.2.2.1 x8.2.2.2.1 x8.2.2.2.2 x8.2.1)).bind fun x9 =>
   ((IB (x9.2.2.2.1,x9.2.2.2.2))).bind fun x10 =>
   bif (!x10) then
    some ((x9.1.1,(x9.1.2.1,x9.1.2.2)),(x9.2.1,(x9.2.2.1,((6:Int),(IntKind.wrap .i64 (x9.1.2.1-(1:Int)))))))
   else
   ((Ct 16 2 x9.2.2.1 (List.cons (x9.2.2.2.1,x9.2.2.2.2) List.nil))).bind fun x11 =>
   some ((x9.1.1,(x9.1.2.1,true)),(x9.2.1,(x11,((0:Int),(0:Int))))))
   (fun x12 =>
   some ((x12.1.1,(x12.1.2.1,x12.1.2.2)),(x12.2.1,(x12.2.2.1,(x12.2.2.2.1,x12.2.2.2.2)))))
   x7
theorem Bk0 {i:Nat} (hi : 1<=i/\i<=2000) (o:Bool) (ways:List Wy) {way:Wy} (hw:way.length<=1000) (w:Str) (n:List Int) {p:Pn} (hn:Bf (W,((i:Int),o)) ways way w n=some ((W,((i:Int),o)),(ways,(way,p)))) :
  ∃ r,icK w (.inl ((W,((i:Int),o)),(n,(ways,(way,w)))))=some r/\EI W (ptV Hq i ways way p) r:=by
 unfold icK ptV;simp only[Sum.elim_inl];rw[hn,obs];simp only;rw[Bd9,obs];cases h:Hq (p.1,p.2) with
 | false =>
  rw[nF,cT,if_neg (by simp),Aj (by omega) (by omega)];exact ⟨_,rfl,by show ((6:Int),_)=_; congr 1; omega,by omega⟩
 | true =>
  rw[nT,cF,if_pos rfl,Dm (by simp[Ag]; omega) (by simp[Ag]; omega),obs];refine ⟨_,rfl,?_⟩
  show _=_;rw[decide_eq_true (show way ++ [p]≠[] by simp)]
theorem Z2 {i:Nat} (hi:i<=W.length) (o:Bool) (ways:List Wy) {way:Wy} (hw:way.length<=1000) (w:Str) {f:Int->Pn} (hf:∀ (j:Nat) x,Bf (W,((j:Int),o)) ways way w [x]=some ((W,((j:Int),o)),(ways,(way,f x)))) :
  ∃ r,((Ah icB ((W,((i:Int),o)),(([]:List Int),(ways,(way,(w,((1:Int),(0:Int)))))))).bind (icK w))=some r/\EI W (one W i ways way f) r:=by
 rw[Bq4 hW hs hi];unfold one;cases hz:Fv W i with
 | none=>exact ⟨_,rfl,rfl,by omega⟩
 | some x =>
  have:=Ks hW hs hz;exact Bk0 hW hs (by omega) o ways hw w [x] (hf (i + 1) x)
theorem AU8 {i:Nat} (hi:i<=W.length) (o:Bool) (ways:List Wy) {way:Wy} (hw:way.length<=1000) (w:Str) {f:Int->Int->Pn} (hf:∀ (j:Nat) x y,Bf (W,((j:Int),o)) ways way w [x,y]=some ((W,((j:Int),o)),(ways,(way,f x y)))) :
  ∃ r,((Ah icB ((W,((i:Int),o)),(([]:List Int),(ways,(way,(w,((2:Int),(0:Int)))))))).bind (icK w))=some r/\EI W (two W i ways way f) r:=by
 rw[Bq3 hW hs hi];unfold two one;cases hz:Fv W i with
 | none=>exact ⟨_,rfl,rfl,by omega⟩
 | some x =>
  have:=Ks hW hs hz;simp only;cases hz2:Fv W (i + 1) with
  | none=>exact ⟨_,rfl,rfl,by omega⟩
  | some y =>
   have:=Ks hW hs hz2;exact Bk0 hW hs (by omega) o ways hw w [x,y] (hf (i + 2) x y)
theorem A9P {i:Nat} {w:Str} (he:W[i]? = some w) (hk:w ∉ KW) (o:Bool) (ways:List Wy) (way:Wy):∃ r,AA (W,((i:Int),o)) ways way=some r/\EI W (CD W i ways way w) r:=by
 have h77:w≠[77]:=fun h=>hk (by rw[h]; decide)
 unfold AA Bq;simp only;rw[An,he,obs,show ([[77],[76],[108],[72],[86],[104],[118],[90]]:List Str)=KWi from rfl,JM,obs,decide_eq_false hk,nF,cT,obs];unfold CD;rw[if_neg h77,if_neg hk];exact ⟨_,rfl,rfl,by omega⟩
theorem A8C {i:Nat} (he:W[i]? = some [77]) (ways:List Wy) {way:Wy} (hw:way.length<=1000) (hwl:ways.length<=1000):∃ r,AA (W,((i:Int),decide (way≠[]))) ways way=some r/\EI W (CD W i ways way [77]) r:=by
 have hlt:=EC he;unfold AA Bq;simp only;rw[An,he,obs,show ([[77],[76],[108],[72],[86],[104],[118],[90]]:List Str)=KWi from rfl,JM,obs,decide_eq_true (show ([77]:Str)∈KW by decide)];unfold CD;by_cases h0:way = []
 ·subst h0;by_cases h4:ways.length=4
  ·have h4':((ways.length:Int)==4)=true:=by simp[h4]
   rw[if_pos rfl,if_pos rfl,if_pos h4];simp only[S1,Tf,OR,Ua,OH,Tb,NJ,TI,nT,nF,cF,cT,obs,h4',show decide (([]:Wy)≠[])=false from rfl,show (true==false)=false from rfl,show ((5:Int) != 0)=true from rfl];exact ⟨_,rfl,rfl,by omega⟩
  ·have h4':((ways.length:Int)==4)=false:=by simp; omega
   rw[if_pos rfl,if_pos rfl,if_neg h4];simp only[S1,Tf,OR,Ua,OH,Tb,NJ,TI,nT,nF,cF,cT,obs,h4',show decide (([]:Wy)≠[])=false from rfl,show (true==false)=false from rfl,show ((0:Int) != 0)=false from rfl,AM (show i<4611686018427387904 by omega),Oc,show Lib.contains [72,86,104,118] [77]=false from by decide,za8];refine AU8 hW hs (by omega) false ways (way:=[]) (by simp) [77] (f:=fun x y=>(x,y)) fun j x y=>?_
   unfold Bf;simp only[S1,Tf,OR,Ua,OH,Tb,NJ,TI,ze7,show decide (((0:Nat):Int)>0)=false from rfl,cF,obs,za8];rfl
 ·have hp:=zd2.2 h0;rw[if_pos rfl,if_neg h0];simp only[S1,Tf,OR,Ua,OH,Tb,NJ,TI,nT,nF,cF,cT,obs,show decide (way≠[])=true from decide_eq_true h0,show (true==true)=true from rfl,show ((4:Int) != 0)=true from rfl];exact ⟨_,rfl,rfl,by omega⟩
theorem A93 {i:Nat} (he:W[i]? = some [76]) (ways:List Wy) {way:Wy} (hw:way.length<=1000) (hwl:ways.length<=1000):∃ r,AA (W,((i:Int),decide (way≠[]))) ways way=some r/\EI W (CD W i ways way [76]) r:=by
 have hlt:=EC he;unfold AA Bq;simp only;rw[An,he,obs,show ([[77],[76],[108],[72],[86],[104],[118],[90]]:List Str)=KWi from rfl,JM,obs,decide_eq_true (show ([76]:Str)∈KW by decide)];unfold CD;rw[if_neg (by decide),if_pos (show ([76]:Str)∈KW by decide)];by_cases h0:way = []
 ·subst h0;rw[if_pos rfl];simp only[SO,TN,NK,TR,NZ,Tq,Nx,Tg,nT,nF,cF,cT,obs,show decide (([]:Wy)≠[])=false from rfl,show (false==false)=true from rfl,show ((4:Int) != 0)=true from rfl];exact ⟨_,rfl,rfl,by omega⟩
 ·have hp:=zd2.2 h0;rw[if_neg h0];rw[if_neg (by decide)];by_cases h12:way.length=12
  ·rw[if_pos h12];simp only[SO,TN,NK,TR,NZ,Tq,Nx,Tg,nT,nF,cF,cT,obs,show decide (way≠[])=true from decide_eq_true h0,show (false==true)=false from rfl,show ((way.length:Int)==12)=true by simp; omega,show ((5:Int) != 0)=true from rfl];exact ⟨_,rfl,rfl,by omega⟩
  ·rw[if_neg h12,if_pos rfl];simp only[SO,TN,NK,TR,NZ,Tq,Nx,Tg,nT,nF,cF,cT,obs,show decide (way≠[])=true from decide_eq_true h0,show (false==true)=false from rfl,show ((way.length:Int)==12)=false by simp; omega,show ((0:Int) != 0)=false from rfl,AM (show i<4611686018427387904 by omega),Oc,show Lib.contains [72,86,104,118] [76]=false from by decide,za8];refine AU8 hW hs (by omega) true ways hw [76] (f:=fun x y=>(x,y)) fun j x y=>?_
   unfold Bf;simp only[SO,TN,NK,TR,NZ,Tq,Nx,Tg,decide_eq_true (show (way.length:Int)>0 by omega),cT,cF,D4 h0 hw,Ed h0,obs,za8];rfl
theorem A7E {i:Nat} (he:W[i]? = some [108]) (ways:List Wy) {way:Wy} (hw:way.length<=1000) (hwl:ways.length<=1000):∃ r,AA (W,((i:Int),decide (way≠[]))) ways way=some r/\EI W (CD W i ways way [108]) r:=by
 have hlt:=EC he;unfold AA Bq;simp only;rw[An,he,obs,show ([[77],[76],[108],[72],[86],[104],[118],[90]]:List Str)=KWi from rfl,JM,obs,decide_eq_true (show ([108]:Str)∈KW by decide)];unfold CD;rw[if_neg (by decide),if_pos (show ([108]:Str)∈KW by decide)];by_cases h0:way = []
 ·subst h0;rw[if_pos rfl];simp only[Oo,NE,Kx,OG,KC,Ow,KG,ON,nT,nF,cF,cT,obs,show decide (([]:Wy)≠[])=false from rfl,show (false==false)=true from rfl,show ((4:Int) != 0)=true from rfl];exact ⟨_,rfl,rfl,by omega⟩
 ·have hp:=zd2.2 h0;rw[if_neg h0];rw[if_neg (by decide)];by_cases h12:way.length=12
  ·rw[if_pos h12];simp only[Oo,NE,Kx,OG,KC,Ow,KG,ON,nT,nF,cF,cT,obs,show decide (way≠[])=true from decide_eq_true h0,show (false==true)=false from rfl,show ((way.length:Int)==12)=true by simp; omega,show ((5:Int) != 0)=true from rfl];exact ⟨_,rfl,rfl,by omega⟩
  ·rw[if_neg h12,if_neg (by decide),if_pos rfl];simp only[Oo,NE,Kx,OG,KC,Ow,KG,ON,nT,nF,cF,cT,obs,show decide (way≠[])=true from decide_eq_true h0,show (false==true)=false from rfl,show ((way.length:Int)==12)=false by simp; omega,show ((0:Int) != 0)=false from rfl,AM (show i<4611686018427387904 by omega),Oc,show Lib.contains [72,86,104,118] [108]=false from by decide,za8];refine AU8 hW hs (by omega) true ways hw [108] (f:=fun x y=>(IntKind.wrap .i64 ((Eh way).1 + x),IntKind.wrap .i64 ((Eh way).2 + y))) fun j x y=>?_
   unfold Bf;simp only[Oo,NE,Kx,OG,KC,Ow,KG,ON,decide_eq_true (show (way.length:Int)>0 by omega),cT,cF,D4 h0 hw,Ed h0,obs,za8];rfl
theorem A84 {i:Nat} (he:W[i]? = some [72]) (ways:List Wy) {way:Wy} (hw:way.length<=1000) (hwl:ways.length<=1000):∃ r,AA (W,((i:Int),decide (way≠[]))) ways way=some r/\EI W (CD W i ways way [72]) r:=by
 have hlt:=EC he;unfold AA Bq;simp only;rw[An,he,obs,show ([[77],[76],[108],[72],[86],[104],[118],[90]]:List Str)=KWi from rfl,JM,obs,decide_eq_true (show ([72]:Str)∈KW by decide)];unfold CD;rw[if_neg (by decide),if_pos (show ([72]:Str)∈KW by decide)];by_cases h0:way = []
 ·subst h0;rw[if_pos rfl];simp only[TG,S5,NA,TF,NH,Tv,NW,T3,nT,nF,cF,cT,obs,show decide (([]:Wy)≠[])=false from rfl,show (false==false)=true from rfl,show ((4:Int) != 0)=true from rfl];exact ⟨_,rfl,rfl,by omega⟩
 ·have hp:=zd2.2 h0;rw[if_neg h0];rw[if_neg (by decide)];by_cases h12:way.length=12
  ·rw[if_pos h12];simp only[TG,S5,NA,TF,NH,Tv,NW,T3,nT,nF,cF,cT,obs,show decide (way≠[])=true from decide_eq_true h0,show (false==true)=false from rfl,show ((way.length:Int)==12)=true by simp; omega,show ((5:Int) != 0)=true from rfl];exact ⟨_,rfl,rfl,by omega⟩
  ·rw[if_neg h12,if_neg (by decide),if_neg (by decide),if_pos rfl];simp only[TG,S5,NA,TF,NH,Tv,NW,T3,nT,nF,cF,cT,obs,show decide (way≠[])=true from decide_eq_true h0,show (false==true)=false from rfl,show ((way.length:Int)==12)=false by simp; omega,show ((0:Int) != 0)=false from rfl,AM (show i<4611686018427387904 by omega),Oc,show Lib.contains [72,86,104,118] [72]=true from by decide,za8];refine Z2 hW hs (by omega) true ways hw [72] (f:=fun x=>(x,(Eh way).2)) fun j x=>?_
   unfold Bf;simp only[TG,S5,NA,TF,NH,Tv,NW,T3,decide_eq_true (show (way.length:Int)>0 by omega),cT,cF,D4 h0 hw,Ed h0,obs,za8];rfl
theorem A6i {i:Nat} (he:W[i]? = some [104]) (ways:List Wy) {way:Wy} (hw:way.length<=1000) (hwl:ways.length<=1000):∃ r,AA (W,((i:Int),decide (way≠[]))) ways way=some r/\EI W (CD W i ways way [104]) r:=by
 have hlt:=EC he;unfold AA Bq;simp only;rw[An,he,obs,show ([[77],[76],[108],[72],[86],[104],[118],[90]]:List Str)=KWi from rfl,JM,obs,decide_eq_true (show ([104]:Str)∈KW by decide)];unfold CD;rw[if_neg (by decide),if_pos (show ([104]:Str)∈KW by decide)];by_cases h0:way = []
 ·subst h0;rw[if_pos rfl];simp only[N1,OP,KZ,OJ,K2,Oh,Lt,Nz,nT,nF,cF,cT,obs,show decide (([]:Wy)≠[])=false from rfl,show (false==false)=true from rfl,show ((4:Int) != 0)=true from rfl];exact ⟨_,rfl,rfl,by omega⟩
 ·have hp:=zd2.2 h0;rw[if_neg h0];rw[if_neg (by decide)];by_cases h12:way.length=12
  ·rw[if_pos h12];simp only[N1,OP,KZ,OJ,K2,Oh,Lt,Nz,nT,nF,cF,cT,obs,show decide (way≠[])=true from decide_eq_true h0,show (false==true)=false from rfl,show ((way.length:Int)==12)=true by simp; omega,show ((5:Int) != 0)=true from rfl];exact ⟨_,rfl,rfl,by omega⟩
  ·rw[if_neg h12,if_neg (by decide),if_neg (by decide),if_neg (by decide),if_pos rfl];simp only[N1,OP,KZ,OJ,K2,Oh,Lt,Nz,nT,nF,cF,cT,obs,show decide (way≠[])=true from decide_eq_true h0,show (false==true)=false from rfl,show ((way.length:Int)==12)=false by simp; omega,show ((0:Int) != 0)=false from rfl,AM (show i<4611686018427387904 by omega),Oc,show Lib.contains [72,86,104,118] [104]=true from by decide,za8];refine Z2 hW hs (by omega) true ways hw [104] (f:=fun x=>(IntKind.wrap .i64 ((Eh way).1 + x),(Eh way).2)) fun j x=>?_
   unfold Bf;simp only[N1,OP,KZ,OJ,K2,Oh,Lt,Nz,decide_eq_true (show (way.length:Int)>0 by omega),cT,cF,D4 h0 hw,Ed h0,obs,za8];rfl
theorem A8e {i:Nat} (he:W[i]? = some [86]) (ways:List Wy) {way:Wy} (hw:way.length<=1000) (hwl:ways.length<=1000):∃ r,AA (W,((i:Int),decide (way≠[]))) ways way=some r/\EI W (CD W i ways way [86]) r:=by
 have hlt:=EC he;unfold AA Bq;simp only;rw[An,he,obs,show ([[77],[76],[108],[72],[86],[104],[118],[90]]:List Str)=KWi from rfl,JM,obs,decide_eq_true (show ([86]:Str)∈KW by decide)];unfold CD;rw[if_neg (by decide),if_pos (show ([86]:Str)∈KW by decide)];by_cases h0:way = []
 ·subst h0;rw[if_pos rfl];simp only[Ts,Ub,NQ,TT,OO,Tr,N2,SR,nT,nF,cF,cT,obs,show decide (([]:Wy)≠[])=false from rfl,show (false==false)=true from rfl,show ((4:Int) != 0)=true from rfl];exact ⟨_,rfl,rfl,by omega⟩
 ·have hp:=zd2.2 h0;rw[if_neg h0];rw[if_neg (by decide)];by_cases h12:way.length=12
  ·rw[if_pos h12];simp only[Ts,Ub,NQ,TT,OO,Tr,N2,SR,nT,nF,cF,cT,obs,show decide (way≠[])=true from decide_eq_true h0,show (false==true)=false from rfl,show ((way.length:Int)==12)=true by simp; omega,show ((5:Int) != 0)=true from rfl];exact ⟨_,rfl,rfl,by omega⟩
  ·rw[if_neg h12,if_neg (by decide),if_neg (by decide),if_neg (by decide),if_neg (by decide),if_pos rfl];simp only[Ts,Ub,NQ,TT,OO,Tr,N2,SR,nT,nF,cF,cT,obs,show decide (way≠[])=true from decide_eq_true h0,show (false==true)=false from rfl,show ((way.length:Int)==12)=false by simp; omega,show ((0:Int) != 0)=false from rfl,AM (show i<4611686018427387904 by omega),Oc,show Lib.contains [72,86,104,118] [86]=true from by decide,za8];refine Z2 hW hs (by omega) true ways hw [86] (f:=fun x=>((Eh way).1,x)) fun j x=>?_
   unfold Bf;simp only[Ts,Ub,NQ,TT,OO,Tr,N2,SR,decide_eq_true (show (way.length:Int)>0 by omega),cT,cF,D4 h0 hw,Ed h0,obs,za8];rfl
theorem A60 {i:Nat} (he:W[i]? = some [118]) (ways:List Wy) {way:Wy} (hw:way.length<=1000) (hwl:ways.length<=1000):∃ r,AA (W,((i:Int),decide (way≠[]))) ways way=some r/\EI W (CD W i ways way [118]) r:=by
 have hlt:=EC he;unfold AA Bq;simp only;rw[An,he,obs,show ([[77],[76],[108],[72],[86],[104],[118],[90]]:List Str)=KWi from rfl,JM,obs,decide_eq_true (show ([118]:Str)∈KW by decide)];unfold CD;rw[if_neg (by decide),if_pos (show ([118]:Str)∈KW by decide)];by_cases h0:way = []
 ·subst h0;rw[if_pos rfl];simp only[N3,Nr,Ld,Nq,Kw,OM,Lc,NY,nT,nF,cF,cT,obs,show decide (([]:Wy)≠[])=false from rfl,show (false==false)=true from rfl,show ((4:Int) != 0)=true from rfl];exact ⟨_,rfl,rfl,by omega⟩
 ·have hp:=zd2.2 h0;rw[if_neg h0];rw[if_neg (by decide)];by_cases h12:way.length=12
  ·rw[if_pos h12];simp only[N3,Nr,Ld,Nq,Kw,OM,Lc,NY,nT,nF,cF,cT,obs,show decide (way≠[])=true from decide_eq_true h0,show (false==true)=false from rfl,show ((way.length:Int)==12)=true by simp; omega,show ((5:Int) != 0)=true from rfl];exact ⟨_,rfl,rfl,by omega⟩
  ·rw[if_neg h12,if_neg (by decide),if_neg (by decide),if_neg (by decide),if_neg (by decide),if_neg (by decide)];simp only[N3,Nr,Ld,Nq,Kw,OM,Lc,NY,nT,nF,cF,cT,obs,show decide (way≠[])=true from decide_eq_true h0,show (false==true)=false from rfl,show ((way.length:Int)==12)=false by simp; omega,show ((0:Int) != 0)=false from rfl,AM (show i<4611686018427387904 by omega),Oc,show Lib.contains [72,86,104,118] [118]=true from by decide,za8];refine Z2 hW hs (by omega) true ways hw [118] (f:=fun x=>((Eh way).1,IntKind.wrap .i64 ((Eh way).2 + x))) fun j x=>?_
   unfold Bf;simp only[N3,Nr,Ld,Nq,Kw,OM,Lc,NY,decide_eq_true (show (way.length:Int)>0 by omega),cT,cF,D4 h0 hw,Ed h0,obs,za8];rfl
theorem A82 {i:Nat} (he:W[i]? = some [90]) (ways:List Wy) {way:Wy} (hw:way.length<=1000) (hwl:ways.length<=1000):∃ r,AA (W,((i:Int),decide (way≠[]))) ways way=some r/\EI W (CD W i ways way [90]) r:=by
 have hlt:=EC he;unfold AA Bq;simp only;rw[An,he,obs,show ([[77],[76],[108],[72],[86],[104],[118],[90]]:List Str)=KWi from rfl,JM,obs,decide_eq_true (show ([90]:Str)∈KW by decide)];unfold CD;rw[if_neg (by decide),if_pos (show ([90]:Str)∈KW by decide)];by_cases h0:way = []
 ·subst h0;rw[if_pos rfl];simp only[V9,W6,Rw,WN,Rj,WX,Rp,Wk,nT,nF,cF,cT,obs,show decide (([]:Wy)≠[])=false from rfl,show (false==false)=true from rfl,show ((4:Int) != 0)=true from rfl];exact ⟨_,rfl,rfl,by omega⟩
 ·have hp:=zd2.2 h0;rw[if_neg h0];rw[if_pos rfl];by_cases h3:way.length<3
  ·rw[if_pos h3];simp only[V9,W6,Rw,WN,Rj,WX,Rp,Wk,nT,nF,cF,cT,obs,show decide (way≠[])=true from decide_eq_true h0,show (false==true)=false from rfl,decide_eq_true (show (way.length:Int)<3 by omega),show ((5:Int) != 0)=true from rfl];exact ⟨_,rfl,rfl,by omega⟩
  ·rw[if_neg h3];simp only[V9,W6,Rw,WN,Rj,WX,Rp,Wk,nT,nF,cF,cT,obs,show decide (way≠[])=true from decide_eq_true h0,show (false==true)=false from rfl,decide_eq_false (show ¬(way.length:Int)<3 by omega),show ((0:Int) != 0)=false from rfl,AM (show i<4611686018427387904 by omega)];rw[Dm (by simp[Ag]; omega) (by simp[Ag]; omega),obs];exact ⟨_,rfl,rfl⟩
theorem A6m {i:Nat} {w:Str} (he:W[i]? = some w) (ways:List Wy) {way:Wy} (hw:way.length<=1000) (hwl:ways.length<=1000):∃ r,AA (W,((i:Int),decide (way≠[]))) ways way=some r/\EI W (CD W i ways way w) r:=by
 by_cases hk:w∈KW
 ·have hk':w = [77]\/w = [76]\/w = [108]\/w = [72]\/w = [104]\/w = [86]\/w = [118]\/w = [90]:=by simpa[KW] using hk
  rcases hk' with rfl | rfl | rfl | rfl | rfl | rfl | rfl | rfl
  ·exact A8C hW hs he ways hw hwl
  ·exact A93 hW hs he ways hw hwl
  ·exact A7E hW hs he ways hw hwl
  ·exact A84 hW hs he ways hw hwl
  ·exact A6i hW hs he ways hw hwl
  ·exact A8e hW hs he ways hw hwl
  ·exact A60 hW hs he ways hw hwl
  ·exact A82 hW hs he ways hw hwl
 ·exact A9P hW hs he hk _ ways way
end
end
section
open Go
def CF (W:List Str) (i:Nat) (ways:List Wy) (way:Wy):CV->Prop
 | .inl (c,_)=>c≠0
 | .inr (j,ways',way')=>i<j/\j<=W.length/\ways'.length<=ways.length + 1/\way'.length<=way.length + 1
section
variable {W:List Str} (hW:W.length<=1000) (hs:∀ w∈W,w.length<=1000)
include hW hs
theorem Bx1 {i j:Nat} (hi:i<j) (hj:j<=W.length) (ways:List Wy) (way:Wy) (p:Pn):CF W i ways way (ptV Hq j ways way p):=by
 unfold ptV
 split
 ·exact ⟨hi,hj,by omega,by simp⟩
 ·show (6:Int)≠0; omega
theorem A75 {i j:Nat} (hi:i<j) (ways:List Wy) (way:Wy) (f:Int->Pn):CF W i ways way (one W j ways way f):=by
 unfold one;cases hz:Fv W j with
 | none=>show (3:Int)≠0; omega
 | some x=>exact Bx1 hW hs (by omega) (Ks hW hs hz) ways way _
theorem Bq2 {i j:Nat} (hi:i<j) (ways:List Wy) (way:Wy) (f:Int->Int->Pn):CF W i ways way (two W j ways way f):=by
 unfold two;cases hz:Fv W j with
 | none=>show (3:Int)≠0; omega
 | some x=>exact A75 hW hs (by omega) ways way _
theorem Ba0 {i:Nat} {w:Str} (he:W[i]? = some w) (ways:List Wy) (way:Wy):CF W i ways way (CD W i ways way w):=by
 have hlt:=EC he;unfold CD
 repeat' split
 all_goals first
  | exact Bq2 hW hs (by omega) ways way _
  | exact A75 hW hs (by omega) ways way _
  | (show (5:Int)≠0; omega)
  | (show (4:Int)≠0; omega)
  | (show (2:Int)≠0; omega)
  | exact ⟨by omega,by omega,by simp,by simp⟩
def H8 (W:List Str):Nat->Nat->List Wy->Wy->(Int×Nat) ⊕ (List Wy×Wy)
 | 0,_,ways,way=>.inr (ways,way)
 | n + 1,i,ways,way=>match W[i]? with | none=>.inr (ways,way) | some w=>(match CD W i ways way w with | .inl e=>.inl e | .inr (j,ways',way')=>H8 W n j ways' way')
abbrev SP:=(List Str×Int×Int)×List Wy×Wy
noncomputable def spB:SP->Option (SP ⊕ SP):=fun s=>Dt s.1 s.2.1 s.2.2
def Bx3 (W:List Str):((Int×Nat) ⊕ (List Wy×Wy))->SP->Prop
 | .inl (c,i),r=>r.1.2=((i:Int),c)/\c≠0
 | .inr (ways,way),r=>r=((W,((W.length:Int),0)),(ways,way))
omit hW hs in
theorem Bq6 (W:List Str) (i c:Int) (hc:c≠0) (ways:List Wy) (way:Wy):Ah spB ((W,(i,c)),(ways,way))=some ((W,(i,c)),(ways,way)):=by
 refine Aq ?_
 unfold spB Dt;simp only;by_cases h:i<(W.length:Int)
 ·rw[decide_eq_true h,cT,show (c==0)=false by simpa using hc,cF]
 ·rw[decide_eq_false h,cF]
theorem Be3:∀ (n i:Nat) (ways:List Wy) (way:Wy),W.length<n + i->i<=W.length->ways.length<=i->way.length<=i->∃ r,Ah spB ((W,((i:Int),0)),(ways,way))=some r/\Bx3 W (H8 W n i ways way) r:=by
 intro n
 induction n with
 | zero=>intro i ways way h1 h2; omega
 | succ n ih =>
  intro i ways way h1 h2 h3 h4;unfold H8;by_cases hi:i=W.length
  ·subst hi;rw[List.getElem?_eq_none (za7 _)];refine ⟨_,Aq (r:=((W,((W.length:Int),0)),(ways,way))) ?_,rfl⟩
   unfold spB Dt;simp only;rw[decide_eq_false (by omega),cF]
  ·have he:W[i]? = some (W[i]'(by omega)):=za1 (by omega);generalize (W[i]'(by omega))=w at he;have hc:=A65 hW hs he ways (way:=way) (by omega) (by omega);have hf:=Ba0 hW hs he ways way;rw[he];simp only;have hgo:spB ((W,((i:Int),0)),(ways,way))=some (.inl (WK W ways way (CD W i ways way w))):=by
    unfold spB Dt;simp only;rw[decide_eq_true (by omega),cT,show ((0:Int)==0)=true from rfl,cT,hc,obs]
   rw[AX hgo];cases hz:CD W i ways way w with
   | inl e =>
    obtain ⟨c,j⟩:=e;rw[hz] at hf;exact ⟨_,Bq6 W _ c hf ways way,rfl,hf⟩
   | inr v =>
    obtain ⟨j,ways',way'⟩:=v;rw[hz] at hf;obtain ⟨f1,f2,f3,f4⟩:=hf;exact ih j ways' way' (by omega) f2 (by omega) (by omega)
abbrev IP:=(List Str×Int×Bool)×List Wy×Wy
noncomputable def ipB:IP->Option (IP ⊕ (IP ⊕ (List Wy×Int×Int×Bool))):=fun s=>EJ s.1 s.2.1 s.2.2
def By8 (W:List Str):((Int×Nat) ⊕ (List Wy×Wy))->(IP ⊕ (List Wy×Int×Int×Bool))->Prop
 | .inl (c,i),r=>r = .inr ([],c,(i:Int),false)
 | .inr (ways,way),r=>r = .inl ((W,((W.length:Int),decide (way≠[]))),(ways,way))
theorem Bg7:∀ (n i:Nat) (ways:List Wy) (way:Wy),W.length<n + i->i<=W.length->ways.length<=i->way.length<=i->∃ r,Ah ipB ((W,((i:Int),decide (way≠[]))),(ways,way))=some r/\By8 W (H8 W n i ways way) r:=by
 intro n
 induction n with
 | zero=>intro i ways way h1 h2; omega
 | succ n ih =>
  intro i ways way h1 h2 h3 h4;unfold H8;by_cases hi:i=W.length
  ·subst hi;rw[List.getElem?_eq_none (za7 _)];refine ⟨.inl ((W,((W.length:Int),decide (way≠[]))),(ways,way)),Aq ?_,rfl⟩
   unfold ipB EJ;simp only;rw[decide_eq_false (show ¬(W.length:Int)<(W.length:Int) by omega),cF]
  ·have he:W[i]? = some (W[i]'(by omega)):=za1 (by omega);generalize (W[i]'(by omega))=w at he;obtain ⟨r,hc,hE⟩:=A6m hW hs he ways (way:=way) (by omega) (by omega);have hf:=Ba0 hW hs he ways way;rw[he];simp only;have hgo:ipB ((W,((i:Int),decide (way≠[]))),(ways,way))=bif (r.2.2.2.1 != 0) then some (.inr (.inr ([],(r.2.2.2.1,(r.2.2.2.2,false))))) else some (.inl ((r.1.1,(r.1.2.1,r.1.2.2)),(r.2.1,r.2.2.1))):=by
    unfold ipB EJ;simp only;rw[decide_eq_true (show (i:Int)<(W.length:Int) by omega),cT,hc,obs]
   cases hz:CD W i ways way w with
   | inl e =>
    obtain ⟨c,j⟩:=e;rw[hz] at hf hE;have hE:r.2.2.2=(c,(j:Int))/\c≠0:=hE;rw[hE.1,show (c != 0)=true by simpa[bne] using hE.2,cT] at hgo;exact ⟨_,Aq hgo,rfl⟩
   | inr v =>
    obtain ⟨j,ways',way'⟩:=v;rw[hz] at hf hE;obtain ⟨f1,f2,f3,f4⟩:=hf;have hE:r=((W,((j:Int),decide (way'≠[]))),(ways',(way',(0,0)))):=hE;subst hE;simp only at hgo;rw[show ((0:Int) != 0)=false from rfl,cF] at hgo;rw[AX hgo];exact ih j ways' way' (by omega) f2 (by omega) (by omega)
end
def M1 (s:Str):List Wy×Int×Int×Bool :=
 if 1<=s.length/\s.length<=400 then (match H8 (Ap 32 s) ((Ap 32 s).length + 1) 0 [] [] with
  | .inl (c,i)=>([],c,(i:Int),false)
  | .inr (ways,way)=>if way≠[] then ([],7,((Ap 32 s).length:Int),false) else (ways,0,0,true)) else ([],1,0,false)
theorem Zi {c:UInt8}:∀ (n:Nat) (s:Str),s.length<=n->(Ap c s).length<=s.length + 1:=by
 intro n
 induction n with
 | zero =>
  intro s hs;have:s = []:=zb4 (by omega);subst this;rw[Im (by simp)];simp
 | succ n ih =>
  intro s hs;rcases A2L c s with h | ⟨x,r,rfl,h⟩
  ·rw[Im h]; simp
  ·rw[Oe h];rw[zc7,zb8] at hs ⊢
   have:=ih r (by omega);rw[zb8];omega
theorem A1d {s:Str} (hs:s.length<4611686018427387904):F9 s=some (M1 s):=by
 unfold F9 M1;by_cases h0:s.length=0
 ·rw[show ((s.length:Int)==0)=true by simp[h0],cT,if_neg (by omega)]
 rw[show ((s.length:Int)==0)=false from beq_eq_false_iff_ne.2 (by omega),cF];by_cases h1 : 400<s.length
 ·rw[decide_eq_true (by omega),cT,if_neg (by omega)]
 rw[decide_eq_false (by omega),cF,A2F (by omega),obs,if_pos (by omega)];have hc:=Zi (c:=32) s.length s (za7 _);have hl:∀ w∈Ap 32 s,w.length<=1000:=fun w hw=>by have:=AH7 s.length s (za7 _) w hw; omega
 obtain ⟨r,h2,h3⟩:=Be3 (W:=Ap 32 s) (by omega) hl ((Ap 32 s).length + 1) 0 [] [] (by omega) (by omega) (by simp) (by simp);have h2':Ah (fun (s:(((List Str)×(Int×Int))×((List Wy)×Wy)))=>Dt s.1 s.2.1 s.2.2) ((Ap 32 s,((0:Int),(0:Int))),(([]:List Wy),([]:Wy)))=some r:=h2;rw[h2',obs];cases hz:H8 (Ap 32 s) ((Ap 32 s).length + 1) 0 [] [] with
 | inl e =>
  obtain ⟨c,i⟩:=e;rw[hz] at h3;have h3:r.1.2=((i:Int),c)/\c≠0:=h3;simp only[h3.1];rw[show (c==0)=false by simpa using h3.2,cF,obs];simp only[za8];rw[show (c != 0)=true by simpa[bne] using h3.2,cT]
 | inr v =>
  obtain ⟨ways,way⟩:=v;rw[hz] at h3;have h3:r=((Ap 32 s,(((Ap 32 s).length:Int),0)),(ways,way)):=h3;subst h3;simp only;rw[show ((0:Int)==0)=true from rfl,cT];by_cases hw:way = []
  ·subst hw;rw[show decide (((([]:Wy).length:Nat):Int)>0)=false from rfl,cF,obs,if_neg (by simp)];rfl
  ·have hp:=zd2.2 hw;rw[decide_eq_true (by omega),cT,obs,if_pos hw];rfl
theorem AZ0 {s:Str} (hs:s.length<4294967281):Gl s=some (M1 s):=by
 unfold Gl M1;have hin:Bm (s.length:Int) 1 400=some (decide (1<=s.length/\s.length<=400)):=by
  unfold Bm;by_cases h:(s.length:Int)>=1
  ·rw[decide_eq_true h,cT]; congr 1; rw[decide_eq_decide]; omega
  ·rw[decide_eq_false h,cF]; congr 1; symm; rw[decide_eq_false]; omega
 rw[hin,obs];by_cases h : 1<=s.length/\s.length<=400
 ·rw[decide_eq_true h,nT,cF,if_pos h];unfold JC;rw[A9k hs,obs];have hc:=Zi (c:=32) s.length s (za7 _);have hl:∀ w∈Ap 32 s,w.length<=1000:=fun w hw=>by have:=AH7 s.length s (za7 _) w hw; omega
  obtain ⟨r,h2,h3⟩:=Bg7 (W:=Ap 32 s) (by omega) hl ((Ap 32 s).length + 1) 0 [] [] (by omega) (by omega) (by simp) (by simp);have h2':Ah (fun (s:(((List Str)×(Int×Bool))×((List Wy)×Wy)))=>EJ s.1 s.2.1 s.2.2) ((Ap 32 s,((0:Int),false)),(([]:List Wy),([]:Wy)))=some r:=h2;rw[h2',obs];cases hz:H8 (Ap 32 s) ((Ap 32 s).length + 1) 0 [] [] with
  | inl e =>
   obtain ⟨c,i⟩:=e;rw[hz] at h3;have h3:r = .inr ([],c,(i:Int),false):=h3;subst h3;rfl
  | inr v =>
   obtain ⟨ways,way⟩:=v;rw[hz] at h3;have h3:r = .inl ((Ap 32 s,(((Ap 32 s).length:Int),decide (way≠[]))),(ways,way)):=h3;subst h3;simp only[Sum.elim_inl];by_cases hw:way = []
   ·subst hw; rw[show decide (([]:Wy)≠[])=false from rfl,cF,if_neg (by simp)]
   ·rw[decide_eq_true hw,cT,if_pos hw]
 ·rw[decide_eq_false h,nF,cT,if_neg h]
end
section
open Go
theorem Bt9 {n:Int} (h1 : 0<=n) (h2:n<256):IntKind.wrap .u8 n=n:=by rw[IntKind.wrap_u8]; omega
theorem Ak9 {n:Nat} (h:n<10):Mc [IntKind.wrap .u8 (IntKind.wrap .i64 ((48:Int) + (n:Int)))] = [UInt8.ofNat (48 + n)]:=by
 rw[Aj (by omega) (by omega),Bt9 (by omega) (by omega)];unfold Mc;simp only[zb9,List.map_nil]
 congr 2
theorem A4I:∀ (f n:Nat),n<f->n<9223372036854775808->Il f (n:Int)=some (Lib.decDigits n)
 | 0,n,h,_=>by omega
 | f + 1,n,h,h1=>by
  unfold Il WS;by_cases hn:n<10
  ·rw[decide_eq_true (by omega),cT,Ak9 hn,Lib.decDigits,dif_pos hn]
  ·have e1:Int.tdiv (n:Int) 10=((n/10:Nat):Int):=by rw[zc1 (by omega)]; omega
   have e2:Int.tmod (n:Int) 10=((n%10:Nat):Int):=by rw[zc6 (by omega)]; omega
   rw[decide_eq_false (by omega),cF,e1,Aj (by omega) (by omega),A4I f (n/10) (by omega) (by omega),obs,e2,Ak9 (by omega),Gp (by
    have:=Mr (n:=n/10) (by omega);simp; omega),obs]
   conv=>rhs; rw[Lib.decDigits,dif_neg hn]
theorem Bi3 {n:Nat} (h:n<9223372036854775808):Ke (n:Int)=some (Lib.decDigits n):=by
 unfold Ke;exact A4I _ n (by omega) h
theorem Uo {n:Int} (h0 : 0<=n) (h1:n<9223372036854775808):Ke n=some (Lib.itoa n):=by
 obtain ⟨m,rfl⟩:∃ m:Nat,n=(m:Int):=⟨n.toNat,by omega⟩;rw[Bi3 (by omega),A9Q h0,zc5]
end
section
open Go
end
section
open Go
theorem A6K (xs:List Str) (x sep:Str):Lib.join (xs ++ [x]) sep=if xs = [] then x else Lib.join xs sep++(sep++x):=by
 cases xs with
 | nil=>rw[if_pos rfl,List.nil_append,Lib.join_one]
 | cons y ys =>
  rw[if_neg (by simp),List.cons_append,Lib.join_cons,Lib.join_cons];simp[Lib.joinTail]
theorem A04 {c:Nat}:∀ {xs:List Str},(∀ x∈xs,x.length<=c)->∀ b,(Lib.join xs [b]).length<=(c + 1)*xs.length
 | [],_,b=>by simp[Lib.join_nil]
 | x::xs,h,b=>by
  rw[Lib.join_cons];have ht:∀ ys:List Str,(∀ y∈ys,y.length<=c)->(Lib.joinTail [b] ys).length<=(c + 1)*ys.length:=by
   intro ys
   induction ys with
   | nil=>intro _; simp[Lib.joinTail]
   | cons y ys ih =>
    intro hy;have h1:=ih (fun z hz=>hy z (List.mem_cons_of_mem _ hz));have h2:=hy y (List.mem_cons_self ..);simp only[Lib.joinTail,zb9,List.flatten_cons,zc7,zb8,ze7] at h1 ⊢
    rw[Nat.mul_add];omega
  have h1:=ht xs (fun z hz=>h z (List.mem_cons_of_mem _ hz));have h2:=h x (List.mem_cons_self ..);rw[zc7,zb8,Nat.mul_add];omega
theorem Br9 {l:List Str} {sep:Str} (h1:l.length<=140737488355328) (h2:(Lib.join l sep).length<=140737488355328):HS l sep=some (Lib.join l sep):=by
 unfold HS Ae5;rw[if_pos ⟨h1,h2⟩]
end
section
open Go
abbrev FM:=List (List (Int×Int))
def Lx (l:FM):Bool:=l.all Mf&&(decide (1<=l.length)&&decide (l.length<=4))
end
section
open Go
def sp (ws:List Str):Str:=(ws.map (· ++ [32])).flatten
def SW (ws:List Str):Prop:=∀ x∈ws,x.length<=21
theorem SW.append {a b:List Str} (ha:SW a) (hb:SW b):SW (a++b):=fun x hx=>(zb3.1 hx).elim (ha x) (hb x)
section
variable {l:FM} (hl:l.length<=4) (hw:∀ w∈l,w.length<=12/\3<=w.length/\∀ p∈w,-1000<=p.1/\p.1<=1000/\-1000<=p.2/\p.2<=1000)
include hl hw
end
end
section
open Go
theorem A7T {i:Nat} {ways:List Wy} {way:Wy} {p:Pn} {j:Nat} {ways':List Wy} {way':Wy} (h:ptV Hq i ways way p = .inr (j,ways',way')):ways'=ways/\way'=way ++ [p]/\Hq p=true:=by
 unfold ptV at h
 split at h
 ·rename_i hg;cases h
  exact ⟨rfl,rfl,hg⟩
 ·cases h
theorem MW {W:List Str} {i:Nat} {ways:List Wy} {way:Wy} {f:Int->Pn} {j:Nat} {ways':List Wy} {way':Wy} (h:one W i ways way f = .inr (j,ways',way')):ways'=ways/\∃ p,way'=way ++ [p]/\Hq p=true:=by
 unfold one at h
 split at h
 ·cases h
 ·obtain ⟨a,b,c⟩:=A7T h;exact ⟨a,_,b,c⟩
theorem Vf {W:List Str} {i:Nat} {ways:List Wy} {way:Wy} {f:Int->Int->Pn} {j:Nat} {ways':List Wy} {way':Wy} (h:two W i ways way f = .inr (j,ways',way')):ways'=ways/\∃ p,way'=way ++ [p]/\Hq p=true:=by
 unfold two at h
 split at h
 ·cases h
 ·exact MW h
structure PInv (ways:List Wy) (way:Wy):Prop where
 len:ways.length<=4
 ok:∀ w∈ways,Mf w=true
 pts:∀ p∈way,EB p=true
 short:way.length<=12
 four:way≠[]->ways.length<4
theorem A9T (p:Pn):Hq p=EB p:=by
 unfold Hq EB Dq;rw[Bool.eq_iff_iff];simp
theorem A5S {ways:List Wy} {way:Wy} {p:Pn} (h:PInv ways way) (h4:ways.length<4) (h12:way.length<12) (hp:Hq p=true):PInv ways (way ++ [p]):=by
 refine ⟨h.len,h.ok,fun q hq=>?_,by rw[zc7,List.length_singleton]; omega,fun _=>h4⟩
 rcases zb3.1 hq with hq | hq
 ·exact h.pts q hq
 ·rw[zd8.1 hq,<-A9T]; exact hp
theorem Bd3 {W:List Str} {i:Nat} {w:Str} {ways:List Wy} {way:Wy} {j:Nat} {ways':List Wy} {way':Wy} (h:PInv ways way) (hc:CD W i ways way w = .inr (j,ways',way')):PInv ways' way':=by
 have key:∀ (x:CV),(∀ j ways' way',x = .inr (j,ways',way')->ways'=ways/\∃ p,way'=way ++ [p]/\Hq p=true)->ways.length<4->way.length<12->x = .inr (j,ways',way')->PInv ways' way':=by
  intro x hx h4 h12 he;obtain ⟨a,p,b,c⟩:=hx _ _ _ he;rw[a,b];exact A5S h h4 h12 c
 have hlen:=h.short;unfold CD at hc
 split at hc
 ·split at hc
  ·rename_i hway
   split at hc
   ·cases hc
   ·rename_i h4;have:=h.len;exact key _ (fun _ _ _=>Vf) (by omega) (by rw[hway]; simp) hc
  ·cases hc
 ·split at hc
  ·split at hc
   ·cases hc
   ·rename_i hne;have h4:=h.four hne
    split at hc
    ·split at hc
     ·cases hc
     ·rename_i h3;cases hc
      refine ⟨by rw[zc7,List.length_singleton]; omega,fun v hv=>?_,fun p hp=>(by cases hp),by decide,fun h=>absurd rfl h⟩
      rcases zb3.1 hv with hv | hv
      ·exact h.ok v hv
      ·rw[zd8.1 hv];exact J7.2 ⟨⟨by omega,h.short⟩,h.pts⟩
    ·split at hc
     ·cases hc
     ·rename_i h12;have h12:way.length<12:=by omega
      split at hc
      ·exact key _ (fun _ _ _=>Vf) h4 h12 hc
      ·split at hc
       ·exact key _ (fun _ _ _=>Vf) h4 h12 hc
       ·split at hc
        ·exact key _ (fun _ _ _=>MW) h4 h12 hc
        ·split at hc
         ·exact key _ (fun _ _ _=>MW) h4 h12 hc
         ·split at hc
          ·exact key _ (fun _ _ _=>MW) h4 h12 hc
          ·exact key _ (fun _ _ _=>MW) h4 h12 hc
  ·cases hc
theorem AF5 {W:List Str}:∀ (n i:Nat) (ways:List Wy) (way:Wy),PInv ways way->∀ ways' way',H8 W n i ways way = .inr (ways',way')->PInv ways' way'
 | 0,i,ways,way,h,ways',way',he=>by
  rw[H8] at he;cases he
  exact h
 | n + 1,i,ways,way,h,ways',way',he=>by
  rw[H8] at he
  split at he
  ·cases he; exact h
  ·rename_i w hw;cases hc:CD W i ways way w with
   | inl e=>rw[hc] at he; cases he
   | inr v =>
    obtain ⟨j,a,b⟩:=v;rw[hc] at he;exact AF5 n j a b (Bd3 h hc) _ _ he
theorem A1j {W:List Str} {i:Nat} {w:Str} {ways:List Wy} {way:Wy} {j:Nat} {ways':List Wy} {way':Wy} (hc:CD W i ways way w = .inr (j,ways',way')):way'≠[]\/1<=ways'.length:=by
 have k2:∀ f:Int->Int->Pn,two W (i + 1) ways way f = .inr (j,ways',way')->way'≠[]\/1<=ways'.length:=fun f h=>by
  obtain ⟨_,p,b,_⟩:=Vf h
  left; rw[b]; simp
 have k1:∀ f:Int->Pn,one W (i + 1) ways way f = .inr (j,ways',way')->way'≠[]\/1<=ways'.length:=fun f h=>by
  obtain ⟨_,p,b,_⟩:=MW h
  left; rw[b]; simp
 unfold CD at hc
 repeat' split at hc
 all_goals first
  | exact k2 _ hc
  | exact k1 _ hc
  | (cases hc; right; simp)
  | cases hc
theorem Af8 {W:List Str}:∀ (n i:Nat) (ways:List Wy) (way:Wy),(way≠[]\/1<=ways.length)->∀ ways' way',H8 W n i ways way = .inr (ways',way')->way'≠[]\/1<=ways'.length
 | 0,i,ways,way,h,ways',way',he=>by
  rw[H8] at he;cases he
  exact h
 | n + 1,i,ways,way,h,ways',way',he=>by
  rw[H8] at he
  split at he
  ·cases he; exact h
  ·rename_i w hw;cases hc:CD W i ways way w with
   | inl e=>rw[hc] at he; cases he
   | inr v =>
    obtain ⟨j,a,b⟩:=v;rw[hc] at he;exact Af8 n j a b (A1j hc) _ _ he
theorem A7p {s:Str} {l:List Wy} {c at_:Int} (h:M1 s=(l,c,at_,true)):Lx l=true/\c=0/\at_=0:=by
 unfold M1 at h
 split at h
 ·split at h
  ·cases h
  ·rename_i ways way hp
   split at h
   ·cases h
   ·rename_i hw;have hw:way = []:=Classical.byContradiction fun h=>hw h
    have inv:=AF5 _ _ _ _ (⟨by simp,by simp,by simp,by simp,fun h=>absurd rfl h⟩:PInv [] []) _ _ hp;have h1 : 1<=ways.length:=by
     have hne:=A90 32 s;obtain ⟨x,r,hx⟩:∃ x r,Ap 32 s=x::r:=List.exists_cons_of_ne_nil hne;rw[H8,hx] at hp;simp only[List.getElem?_cons_zero] at hp;cases hc:CD (x::r) 0 [] [] x with
     | inl e=>rw[hc] at hp; cases hp
     | inr v =>
      obtain ⟨j,a,b⟩:=v;rw[hc] at hp;rcases Af8 _ _ _ _ (A1j hc) _ _ hp with h | h
      ·exact absurd hw h
      ·exact h
    cases h
    refine ⟨?_,rfl,rfl⟩
    unfold Lx;rw[za2,za2,decide_eq_true_eq,decide_eq_true_eq];exact ⟨za5.2 inv.ok,h1,inv.len⟩
 ·cases h
theorem A9Z {W:List Str} {i:Nat} {w:Str} {ways:List Wy} {way:Wy} {c:Int} {j:Nat} (hc:CD W i ways way w = .inl (c,j)):c≠0:=by
 have kp:∀ (a:Nat) (p:Pn),ptV Hq a ways way p = .inl (c,j)->c≠0:=fun a p h=>by
  unfold ptV at h
  split at h <;> cases h
  omega
 have k1:∀ (a:Nat) (f:Int->Pn),one W a ways way f = .inl (c,j)->c≠0:=fun a f h=>by
  unfold one at h
  split at h
  ·cases h; omega
  ·exact kp _ _ h
 have k2:∀ (a:Nat) (f:Int->Int->Pn),two W a ways way f = .inl (c,j)->c≠0:=fun a f h=>by
  unfold two at h
  split at h
  ·cases h; omega
  ·exact k1 _ _ h
 unfold CD at hc
 repeat' split at hc
 all_goals first
  | exact k2 _ _ hc
  | exact k1 _ _ hc
  | (cases hc; omega)
  | cases hc
theorem Aj9 {W:List Str}:∀ (n i:Nat) (ways:List Wy) (way:Wy) (c:Int) (j:Nat),H8 W n i ways way = .inl (c,j)->c≠0
 | 0,i,ways,way,c,j,he=>by rw[H8] at he; cases he
 | n + 1,i,ways,way,c,j,he=>by
  rw[H8] at he
  split at he
  ·cases he
  ·rename_i w hw;cases hc:CD W i ways way w with
   | inl e=>rw[hc] at he; cases he; exact A9Z hc
   | inr v =>
    obtain ⟨j',a,b⟩:=v;rw[hc] at he;exact Aj9 n j' a b c j he
theorem A95 {s:Str} {l:List Wy} {c at_:Int} (h:M1 s=(l,c,at_,false)):c≠0/\l = []:=by
 unfold M1 at h
 split at h
 ·split at h
  ·rename_i c' i hp;cases h
   exact ⟨Aj9 _ _ _ _ _ _ hp,rfl⟩
  ·split at h <;> cases h
   exact ⟨by omega,rfl⟩
 ·cases h; exact ⟨by omega,rfl⟩
end
section
open Go
end
section
open Go
def mvW (d:P2) (w:List P2):List P2:=w.map fun p=>(p.1 + d.1,p.2 + d.2)
def Bl8 (d:P2) (w:List P2):Prop:=Mf w=true/\EB d=true/\(mvW d w).all EB=true
instance (d:P2) (w:List P2):Decidable (Bl8 d w):=by unfold Bl8; infer_instance
section
variable {l:FM} {d:P2} (hl:l.length<=1000) (hs:∀ w∈l,A0G w)
include hl hs
end
theorem TQ (s:Str):(∃ l,M1 s=(l,0,0,true)/\Lx l=true)\/∃ c a,M1 s=([],c,a,false)/\c≠0:=by
 have hv:∃ w c a ok,M1 s=(w,c,a,ok):=⟨_,_,_,_,rfl⟩;obtain ⟨w,c,a,ok,e⟩:=hv;cases ok with
 | true =>
  obtain ⟨h1,h2,h3⟩:=A7p e;exact .inl ⟨w,by rw[e,h2,h3],h1⟩
 | false =>
  obtain ⟨h1,h2⟩:=A95 e;exact .inr ⟨c,a,by rw[e,h2],h1⟩
theorem A5m {l:FM} (h:Lx l=true) : 1<=l.length/\l.length<=4:=by
 unfold Lx at h;simp only[za2,decide_eq_true_eq] at h;exact h.2
end
section
open Go
def B:Nat->Int
 | 0=>1
 | n + 1=>65536*B n
theorem Hb:∀ n,0<B n
 | 0=>by decide
 | n + 1=>by have:=Hb n; simp only[B]; omega
theorem UX:∀ m n,B (m + n)=B m*B n
 | 0,n=>by simp[B]
 | m + 1,n=>by rw[show m + 1 + n=(m + n) + 1 by omega]; simp only[B]; rw[UX m n,Int.mul_assoc]
theorem Kt {m n:Nat} (h:m<=n):B m<=B n:=by
 induction h with
 | refl=>exact Int.le_refl _
 | @step n h ih=>have:=Hb n; simp only[B]; omega
def val:List Int->Int
 | []=>0
 | x::l=>x + 65536*val l
def LB (l:List Int):Prop:=∀ x∈l,0<=x/\x<65536
theorem LB.nil:LB []:=fun _ h=>absurd h (List.not_mem_nil)
theorem LB.head {x:Int} {l:List Int} (h:LB (x::l)) : 0<=x/\x<65536:=h x (List.mem_cons_self ..)
theorem LB.tail {x:Int} {l:List Int} (h:LB (x::l)):LB l:=fun y hy=>h y (List.mem_cons_of_mem _ hy)
theorem LB.cons {x:Int} {l:List Int} (hx : 0<=x/\x<65536) (h:LB l):LB (x::l):=fun y hy=>by
 rcases zc8.1 hy with rfl | hy
 ·exact hx
 ·exact h y hy
theorem LB.append {l m:List Int} (h:LB l) (h':LB m):LB (l++m):=fun y hy=>(zb3.1 hy).elim (h y) (h' y)
theorem LB.take {l:List Int} (h:LB l) (n:Nat):LB (l.take n):=fun y hy=>h y (List.mem_of_mem_take hy)
theorem LB.drop {l:List Int} (h:LB l) (n:Nat):LB (l.drop n):=fun y hy=>h y (List.mem_of_mem_drop hy)
theorem LB.get {l:List Int} (h:LB l) {k:Nat} {x:Int} (hk:l[k]? = some x) : 0<=x/\x<65536:=h x (za4 hk)
theorem LB.set {l:List Int} (h:LB l) {k:Nat} {x:Int} (hx : 0<=x/\x<65536):LB (l.set k x):=fun y hy=>by
 rcases List.mem_or_eq_of_mem_set hy with hy | rfl
 ·exact h y hy
 ·exact hx
theorem LB.zeros (n:Nat):LB (List.replicate n 0):=fun y hy=>by have:=List.eq_of_mem_replicate hy; omega
theorem AZ:∀ {l:List Int},LB l->0<=val l
 | [],_=>Int.le_refl _
 | x::l,h=>by have:=h.head; have:=AZ h.tail; simp only[val]; omega
theorem Q0:∀ {l:List Int},LB l->val l<B l.length
 | [],_=>by decide
 | x::l,h=>by have:=h.head; have:=Q0 h.tail; simp only[val,zb8,B]; omega
theorem Ug:∀ (l m:List Int),val (l++m)=val l + B l.length*val m
 | [],m=>by simp[val,B]
 | x::l,m=>by
  simp only[List.cons_append,val,zb8,B,Ug l m];rw[ze1,Int.mul_assoc];omega
theorem FT:∀ n,val (List.replicate n 0)=0
 | 0=>rfl
 | n + 1=>by simp only[List.replicate_succ,val,FT n]; omega
theorem ML (l:List Int) (x:Int):val (l ++ [x])=val l + B l.length*x:=by rw[Ug]; simp[val]
theorem WG (l:List Int) (n:Nat) (h:n<=l.length):val l=val (l.take n) + B n*val (l.drop n):=by
 have:=Ug (l.take n) (l.drop n);rw[List.take_append_drop,List.length_take,Nat.min_eq_left h] at this;exact this
theorem Gq:∀ {l:List Int} {k:Nat} {x y:Int},l[k]? = some x->val (l.set k y)=val l + B k*(y-x)
 | [],k,x,y,h=>by simp at h
 | a::l,0,x,y,h=>by
  simp at h;subst h;simp only[List.set_cons_zero,val,B];omega
 | a::l,k + 1,x,y,h=>by
  simp only[List.getElem?_cons_succ] at h;simp only[List.set_cons_succ,val,B,Gq (y:=y) h];rw[ze1,Int.mul_assoc];omega
def NB (l:List Int):Prop:=∀ x,l.getLast? = some x->x≠0
theorem NB.nil:NB []:=fun x h=>by simp at h
theorem NB.tail {x:Int} {l:List Int} (h:NB (x::l)):NB l:=fun y hy=>by
 cases l with
 | nil=>simp at hy
 | cons a t=>exact h y (by rw[List.getLast?_cons_cons]; exact hy)
theorem AO1:∀ {l:List Int},LB l->NB l->l≠[]->B (l.length-1)<=val l
 | [],_,_,h=>absurd rfl h
 | [x],h,hn,_=>by
  have h1:=h.head;have h2:=hn x rfl;simp only[val,zb8,ze7,B];simp[B];omega
 | x::y::l,h,hn,_=>by
  have h1:=h.head;have h2:=AO1 h.tail hn.tail (by simp);simp only[zb8,Nat.add_sub_cancel] at h2 ⊢
  rw[val];simp only[B];omega
theorem A0i {l:List Int} (h:LB l) (hn:NB l) (h0:val l=0):l = []:=by
 cases l with
 | nil=>rfl
 | cons x l =>
  have h1:=AO1 h hn (by simp);have h2:=Hb ((x::l).length-1);omega
theorem A4H:∀ {l m:List Int},LB l->NB l->LB m->NB m->val l=val m->l=m
 | [],m,_,_,hm,nm,h=>by
  have:val m=0:=by rw[<-h]; rfl
  exact (A0i hm nm this).symm
 | x::l,[],hl,nl,_,_,h=>A0i hl nl (by rw[h]; rfl)
 | x::l,y::m,hl,nl,hm,nm,h=>by
  have h1:=hl.head;have h2:=hm.head;simp only[val] at h;have hx:x=y:=by omega
  have hv:val l=val m:=by omega
  rw[hx,A4H hl.tail nl.tail hm.tail nm.tail hv]
def lim (n:Nat):List Int:=if h:n=0 then [] else ((n%65536:Nat):Int)::lim (n/65536)
termination_by n
decreasing_by omega
theorem Cp:lim 0 = []:=by unfold lim; simp
theorem AO (n:Nat):LB (lim n):=by
 induction n using Nat.strongRecOn with
 | _ n ih =>
  unfold lim
  split
  ·exact LB.nil
  ·exact LB.cons (by omega) (ih (n/65536) (by omega))
theorem AE (n:Nat):val (lim n)=n:=by
 induction n using Nat.strongRecOn with
 | _ n ih =>
  unfold lim
  split
  ·rename_i h; rw[h]; rfl
  ·simp only[val,ih (n/65536) (by omega)];omega
theorem J0 {n:Nat}:lim n = []↔n=0:=by
 constructor
 ·intro h;have:=AE n;rw[h] at this;simp only[val] at this;omega
 ·rintro rfl; exact Cp
theorem Wu (n:Nat):NB (lim n):=by
 induction n using Nat.strongRecOn with
 | _ n ih =>
  unfold lim
  split
  ·exact NB.nil
  ·rename_i hn;intro x hx;by_cases h0:n/65536=0
   ·rw[h0,Cp] at hx;simp at hx;omega
   ·have hne:lim (n/65536)≠[]:=fun h=>h0 (J0.1 h)
    cases hl:lim (n/65536) with
    | nil=>exact absurd hl hne
    | cons a t =>
     rw[hl,List.getLast?_cons_cons] at hx;exact ih (n/65536) (by omega) x (by rw[hl]; exact hx)
theorem A8f {l:List Int} (h:LB l) (hn:NB l):l=lim (val l).toNat:=A4H h hn (AO _) (Wu _) (by rw[AE]; have:=AZ h; omega)
theorem Ax {n k:Nat}:(lim n).length<=k↔(n:Int)<B k:=by
 constructor
 ·intro h;have h1:=Q0 (AO n);rw[AE] at h1;have:=Kt h;omega
 ·intro h;rcases ze0 k (lim n).length with hk | hk
  ·exfalso
   have hne:lim n≠[]:=by intro h0; rw[h0] at hk; simp at hk
   have h1:=AO1 (AO n) (Wu n) hne;rw[AE] at h1;have:=Kt (show k<=(lim n).length-1 by omega);omega
  ·exact hk
def Fu:List Int->List Int
 | []=>[]
 | x::l=>match Fu l with | []=>if x=0 then [] else [x] | m=>x::m
theorem Ap1:∀ {l:List Int},LB l->LB (Fu l)/\NB (Fu l)/\val (Fu l)=val l
 | [],_=>⟨LB.nil,NB.nil,rfl⟩
 | x::l,h=>by
  obtain ⟨h1,h2,h3⟩:=Ap1 h.tail;simp only[Fu];cases hs:Fu l with
  | nil =>
   rw[hs] at h3;simp only[val] at h3;simp only
   split
   ·rename_i hx; subst hx; exact ⟨LB.nil,NB.nil,by simp only[val]; omega⟩
   ·rename_i hx;exact ⟨LB.cons h.head LB.nil,fun y hy=>by simp at hy; subst hy; exact hx,by simp only[val]; omega⟩
  | cons a t =>
   rw[hs] at h1 h2 h3;simp only;exact ⟨LB.cons h.head h1,fun y hy=>h2 y (by rw[List.getLast?_cons_cons] at hy; exact hy),by rw[val,h3]; rfl⟩
theorem Cz {l:List Int} (h:LB l):Fu l=lim (val l).toNat:=by
 obtain ⟨h1,h2,h3⟩:=Ap1 h;rw[A8f h1 h2,h3]
theorem Jp:∀ (l:List Int),Fu (l ++ [0])=Fu l
 | []=>rfl
 | x::l=>by simp only[List.cons_append,Fu,Jp l]
theorem P3:∀ {l:List Int},NB l->Fu l=l
 | [],_=>rfl
 | x::l,h=>by
  simp only[Fu,P3 h.tail];cases l with
  | nil=>simp only; rw[if_neg (h x rfl)]
  | cons a t=>rfl
theorem WH:∀ (l:List Int),(Fu l).length<=l.length
 | []=>za7 _
 | x::l=>by
  have:=WH l;simp only[Fu]
  split
  ·split <;> simp
  ·rename_i m hm; simp only[zb8] at *; omega
end
section
open Go
def AH (l:List Int):Prop:=l.length<=100000000
theorem A4U {l:List Int} (h:l≠[]):∃ m x,l=m ++ [x]:=⟨l.dropLast,l.getLast h,(List.dropLast_concat_getLast h).symm⟩
theorem A4Y {m:List Int} {x:Int} (h:x≠0):NB (m ++ [x]):=fun y hy=>by
 rw[List.getLast?_append] at hy;simp at hy;subst hy;exact h
theorem Bm4 {n:Nat} (h:n<=200000000):AD1 n 8 1=true:=by unfold AD1; rw[decide_eq_true (by unfold Ag; omega),decide_eq_true (by unfold Ag; omega)]; rfl
theorem Hy {l:List Int} (hb:AH l):Cw l=some (Fu l):=by
 have key:∀ (n:Nat) (l:List Int),l.length=n->n<=100000000->Ah (fun (s:(List Int))=>L4 s) l=some (Fu l):=by
  intro n
  induction n with
  | zero =>
   intro l hl _;have:l = []:=zb4 hl;subst this;exact Aq rfl
  | succ n ih =>
   intro l hl hn;obtain ⟨m,x,rfl⟩:=A4U (l:=l) (by intro h; subst h; simp at hl);have hm:m.length=n:=by simpa using hl
   have hlen:(((m ++ [x]).length:Nat):Int)=(n:Int) + 1:=by simp[hm]
   have hg:AP (m ++ [x]) (n:Int)=some x:=by rw[An,<-hm]; simp
   have hstep:L4 (m ++ [x])=if x=0 then some (Sum.inl m) else some (Sum.inr (m ++ [x])):=by
    unfold L4;rw[hlen,Aj (by omega) (by omega),show (n:Int) + 1-1=(n:Int) by omega,hg,decide_eq_true (by omega)];simp only[cond_true,za0];by_cases hx:x=0
    ·rw[if_pos hx,beq_iff_eq.2 hx];have:JL 0 (n:Int) (m ++ [x]).length=some (0,n):=by unfold JL; simp[hm]; omega
     rw[this];simp[<-hm]
    ·rw[if_neg hx,beq_eq_false_iff_ne.2 hx];rfl
   by_cases hx:x=0
   ·rw[if_pos hx] at hstep;rw[AX hstep,ih m hm (by omega),hx,Jp]
   ·rw[if_neg hx] at hstep;rw[Aq hstep,P3 (A4Y hx)]
 unfold Cw;have h:=WH l;unfold AH at hb;rw[key _ l rfl hb];simp only[za0,Bm4 (show (Fu l).length<=200000000 by omega),cond_true]
theorem AB5 {l:List Int} (hb:AH l):IR l=some (Fu l):=by
 unfold AH at hb;have key:∀ (n:Nat),n<=l.length->Fu (l.take n)=Fu l->∃ k:Nat,k<=l.length/\l.take k=Fu l/\Ah (fun (s:((List Int)×Int))=>Rs s.1 s.2) (l,(n:Int))=some (l,(k:Int)):=by
  intro n
  induction n with
  | zero =>
   intro _ h;exact ⟨0,by omega,by simpa[Fu] using h,Aq rfl⟩
  | succ n ih =>
   intro hn h;have hlt:n<l.length:=by omega
   have hg:AP l (n:Int)=some l[n]:=by rw[An,za1 hlt]
   have ht:l.take (n + 1)=l.take n ++ [l[n]]:=by rw[List.take_add_one,za1 hlt]; rfl
   have hstep:Rs l ((n + 1:Nat):Int)=if l[n]=0 then some (Sum.inl (l,(n:Int))) else some (Sum.inr (l,((n + 1:Nat):Int))):=by
    unfold Rs;rw[Aj (by omega) (by omega),show ((n + 1:Nat):Int)-1=(n:Int) by omega,hg,decide_eq_true (by omega)];simp only[cond_true,za0];by_cases hx:l[n]=0
    ·rw[if_pos hx,beq_iff_eq.2 hx]; rfl
    ·rw[if_neg hx,beq_eq_false_iff_ne.2 hx]; rfl
   by_cases hx:l[n]=0
   ·rw[if_pos hx] at hstep;obtain ⟨k,h1,h2,h3⟩:=ih (by omega) (by rw[<-h,ht,hx,Jp]);exact ⟨k,h1,h2,by rw[AX hstep]; exact h3⟩
   ·rw[if_neg hx] at hstep;refine ⟨n + 1,hn,?_,Aq hstep⟩
    rw[<-h,ht,P3 (A4Y hx)]
 obtain ⟨k,h1,h2,h3⟩:=key l.length (za7 _) (by rw[List.take_length]);unfold IR;rw[h3];have:JL 0 (k:Int) l.length=some (0,k):=by unfold JL; simp[h1]
 simp only[za0,this,ze8,h2]
theorem AI0 {l:List Int} (hb:AH l):BY l=some l:=by
 unfold BY A98;cases l with
 | nil=>rfl
 | cons a t =>
  unfold AH at hb;simp only[B7,neL,za0,Bm4 (show (a::t).length<=200000000 by omega),cond_true]
theorem AX9 {l:List Int} (h:AH l):AH (Fu l):=by have:=WH l; unfold AH at *; omega
theorem Ql (l:List Int):decide (((l.length:Nat):Int)>0) = !l.isEmpty:=by cases l <;> simp <;> omega
theorem MI (n:Nat):(!(lim n).isEmpty)=decide (n≠0):=by
 cases h:lim n with
 | nil=>rw[J0.1 h]; rfl
 | cons a t=>simp; intro h0; rw[h0,Cp] at h; cases h
theorem IU {l:List Int} (h:LB l) (hb:AH l) (neg:Bool):Bj neg l=some (lim (val l).toNat,neg&&decide ((val l).toNat≠0)):=by
 unfold Bj;simp only[AB5 hb,za0,AI0 (AX9 hb),Ql];rw[Cz h,MI];cases neg <;> rfl
theorem F7 {l:List Int} (h:LB l) (hb:AH l) (neg:Bool):Bs neg l=some (lim (val l).toNat,neg&&decide ((val l).toNat≠0)):=by
 unfold Bs;simp only[Hy hb,za0,Ql];rw[Cz h,MI];cases neg <;> rfl
def big (z:Int):Bool×List Int:=(decide (z<0),lim z.natAbs)
theorem A4A {x y:Int} (h:big x=big y):x=y:=by
 unfold big at h;have h1:=congrArg Prod.fst h;have h2:=congrArg Prod.snd h;simp only at h1 h2;have h3:x.natAbs=y.natAbs:=by
  have:=congrArg val h2;rw[AE,AE] at this;omega
 by_cases hx:x<0 <;> by_cases hy:y<0 <;> simp[hx,hy] at h1 <;> omega
def GL (b:Bool×List Int):Bool:=(b.2.all fun x=>decide (0<=x)&&decide (x<=65535))&&(match b.2.getLast? with | none=>!b.1 | some x=>decide (b.2.length<=40)&&(x != 0))
theorem IG {b:Bool×List Int}:GL b=true↔∃ z:Int,(z.natAbs:Int)<B 40/\b=big z:=by
 obtain ⟨neg,l⟩:=b;unfold GL;simp only[za2,za5,decide_eq_true_eq];constructor
 ·rintro ⟨h1,h2⟩;have hl:LB l:=fun x hx=>by have:=h1 x hx; omega
  cases hg:l.getLast? with
  | none =>
   rw[hg] at h2;have:l = []:=List.getLast?_eq_none_iff.1 hg;subst this;have hn:neg=false:=by simpa using h2
   subst hn;exact ⟨0,by decide,by unfold big; simp[Cp]⟩
  | some x =>
   rw[hg] at h2;simp only[za2,decide_eq_true_eq,bne_iff_ne] at h2;have hn:NB l:=fun y hy=>by rw[hg] at hy; cases hy; exact h2.2
   have hv:=A8f hl hn;have h0:(val l).toNat≠0:=by
    intro h0;rw[h0,Cp] at hv;rw[hv] at hg;simp at hg
   have hlt:((val l).toNat:Int)<B 40:=Ax.1 (by rw[<-hv]; exact h2.1);refine ⟨if neg then -((val l).toNat:Int) else ((val l).toNat:Int),?_,?_⟩
   ·cases neg <;> simp <;> omega
   ·unfold big;cases neg
    ·simp only[zc3,if_false];rw[decide_eq_false (by omega),Int.natAbs_natCast,<-hv]
    ·simp only[if_true];rw[decide_eq_true (by omega),Int.natAbs_neg,Int.natAbs_natCast,<-hv]
 ·rintro ⟨z,hz,h⟩;unfold big at h;have hn:neg=decide (z<0):=congrArg Prod.fst h;have hl:l=lim z.natAbs:=congrArg Prod.snd h;subst hl;refine ⟨fun x hx=>by have:=AO _ x hx; omega,?_⟩
  cases hg:(lim z.natAbs).getLast? with
  | none =>
   have:lim z.natAbs = []:=List.getLast?_eq_none_iff.1 hg;have:=J0.1 this;rw[hn];simp;omega
  | some x =>
   simp only[za2,decide_eq_true_eq,bne_iff_ne];exact ⟨Ax.2 hz,Wu _ x hg⟩
theorem J4 {z:Int} (h:(z.natAbs:Int)<B 40):GL (big z)=true:=IG.2 ⟨z,h,rfl⟩
theorem AF1 (a b c:Int):Bm a b c=some (decide (b<=a)&&decide (a<=c)):=by
 unfold Bm;by_cases h:a>=b <;> simp[h]
theorem A5A (a b c:Int):De a b c=some (decide (b<=a)&&decide (a<=c)):=by
 unfold De;by_cases h:a>=b <;> simp[h]
theorem IM {k:Nat} {α:Type} {l:List α} {a : α} (h:l[k]? = some a):decide ((k:Int)<(l.length:Int))=true:=by have:=EC h; simpa using this
theorem Vj {α:Type} (l:List α):decide ((l.length:Int)<(l.length:Int))=false:=by simp
theorem AK8 {l:List Int} (hb:AH l):AJ l=some (!(l.all fun x=>decide (0<=x)&&decide (x<=65535))):=by
 unfold AJ B4;unfold AH at hb;have key:=Ls (body:=fun (s:((List Int)×(Int×Int)))=>Bi s.1 s.2.1 s.2.2) (l:=l) (st:=fun k=>(l,(l.length:Int),(k:Int))) (p:=fun x=>decide (0<=x)&&decide (x<=65535)) (fin:=.inl ()) (bad:=fun k=>.inr (k:Int))
  (fun k a hk hp=>by
   have:=EC hk;unfold Bi Gh;simp only[IM hk,cond_true,An,hk,za0,AF1,hp,Bool.not_true,cond_false,AM (show k<4611686018427387904 by omega)])
  (fun k a hk hp=>by
   unfold Bi Gh;simp only[IM hk,cond_true,An,hk,za0,AF1,hp,Bool.not_false])
  (by unfold Bi; simp only[Vj,cond_false])
 cases hall:l.all fun x=>decide (0<=x)&&decide (x<=65535) with
 | true =>
  have h:=key.1 hall;rw[show ((0:Nat):Int)=0 from rfl] at h;simp only[h,za0,Sum.elim_inl];rfl
 | false =>
  obtain ⟨k,_,h⟩:=key.2 hall;rw[show ((0:Nat):Int)=0 from rfl] at h;simp only[h,za0,za8];have:decide ((k:Int)>=0)=true:=by simp
  rw[this]; rfl
theorem XY {l:List Int} {x:Int} (h:l.getLast? = some x):l.length≠0/\AP l ((l.length:Int)-1)=some x:=by
 have hne:l≠[]:=by intro h0; subst h0; simp at h
 obtain ⟨m,y,rfl⟩:=A4U hne;rw[List.getLast?_append] at h;simp at h;subst h;refine ⟨by simp,?_⟩
 have:(((m ++ [y]).length:Nat):Int)-1=(m.length:Int):=by simp
 rw[this,An];simp
theorem Xe {b:Bool×List Int} (hb:AH b.2):GN b=some (GL b):=by
 obtain ⟨neg,l⟩:=b;unfold GN GL;have hb':=hb;unfold AH at hb';simp only at hb hb' ⊢
 rw[Aj (by omega) (by omega),AK8 hb];cases hg:l.getLast? with
 | none =>
  have:l = []:=List.getLast?_eq_none_iff.1 hg;subst this;cases neg <;> rfl
 | some x =>
  obtain ⟨h0,h1⟩:=XY hg;have e0:(((l.length:Nat):Int)==0)=false:=beq_eq_false_iff_ne.2 (by omega);have e1:decide (((l.length:Nat):Int)>0)=true:=decide_eq_true (by omega);by_cases h40:l.length<=40
  ·have e2:decide (((l.length:Nat):Int)>40)=false:=decide_eq_false (by omega);simp only[e2,e0,e1,cond_false,cond_true,h1,za0,Bool.not_not,decide_eq_true h40,ze2];by_cases hx:x=0
   ·subst hx; simp
   ·rw[beq_eq_false_iff_ne.2 hx]; simp[hx]
  ·have e2:decide (((l.length:Nat):Int)>40)=true:=decide_eq_true (by omega);simp only[e2,cond_true,decide_eq_false h40,Bool.false_and,Bool.and_false]
theorem Xl {b:Bool×List Int} (hb:AH b.2):Ff b=some (GL b):=by
 obtain ⟨neg,l⟩:=b;unfold Ff GL;have hb':=hb;unfold AH at hb';simp only at hb hb' ⊢
 have key:=Ls (body:=fun (s:((Bool×(List Int))×((List Int)×(Int×Int))))=>Ga s.1 s.2.1 s.2.2.1 s.2.2.2) (l:=l) (st:=fun k=>((neg,l),(l,((l.length:Int),(k:Int))))) (p:=fun x=>decide (0<=x)&&decide (x<=65535)) (fin:=.inl (neg,l)) (bad:=fun k=>.inr false)
  (fun k a hk hp=>by
   have:=EC hk;unfold Ga;simp only[IM hk,cond_true,An,hk,za0,A5A,hp,Bool.not_true,cond_false,AM (show k<4611686018427387904 by omega)])
  (fun k a hk hp=>by
   unfold Ga;simp only[IM hk,cond_true,An,hk,za0,A5A,hp,Bool.not_false])
  (by unfold Ga; simp only[Vj,cond_false])
 rw[show ((0:Nat):Int)=0 from rfl] at key;cases hall:l.all fun x=>decide (0<=x)&&decide (x<=65535) with
 | false=>obtain ⟨k,_,h⟩:=key.2 hall; rw[h]; rfl
 | true =>
  rw[key.1 hall];simp only[za0,Sum.elim_inl,ze2];rw[Aj (by omega) (by omega)];cases hg:l.getLast? with
  | none =>
   have:l = []:=List.getLast?_eq_none_iff.1 hg;subst this;rfl
  | some x =>
   obtain ⟨h0,h1⟩:=XY hg;have e0:(((l.length:Nat):Int)==0)=false:=beq_eq_false_iff_ne.2 (by omega);simp only[e0,cond_false,h1,za0];by_cases h40:l.length<=40
   ·rw[decide_eq_true (show ((l.length:Nat):Int)<=40 by omega),decide_eq_true h40]; rfl
   ·rw[decide_eq_false (show ¬((l.length:Nat):Int)<=40 by omega),decide_eq_false h40]; rfl
theorem Ba6 {l:List (Bool×List Int)} (hl:l.length<=1000) (hb:∀ b∈l,AH b.2):Id l=some (l.all GL):=by
 unfold Id Bl Bz;have key:=Ls (body:=fun (s:((List (Bool×(List Int)))×(Int×Int)))=>A3 s.1 s.2.1 s.2.2) (l:=l) (st:=fun k=>(l,(l.length:Int),(k:Int))) (p:=GL) (fin:=.inl ()) (bad:=fun k=>.inr (k:Int))
  (fun k a hk hp=>by
   have:=EC hk;unfold A3 Hl;simp only[IM hk,cond_true,An,hk,za0,Xe (hb a (za4 hk)),hp,Bool.not_true,cond_false,AM (show k<4611686018427387904 by omega)])
  (fun k a hk hp=>by
   unfold A3 Hl;simp only[IM hk,cond_true,An,hk,za0,Xe (hb a (za4 hk)),hp,Bool.not_false])
  (by unfold A3; simp only[Vj,cond_false])
 rw[show ((0:Nat):Int)=0 from rfl] at key;cases hall:l.all GL with
 | true=>rw[key.1 hall]; rfl
 | false =>
  obtain ⟨k,_,h⟩:=key.2 hall;rw[h];simp only[za0,za8];have:decide ((k:Int)>=0)=true:=by simp
  rw[this]; rfl
end
section
open Go
def C3 (a b:Int):Int:=if a<b then -1 else if b<a then 1 else 0
theorem Ep {a b:Int} (h:a<b):C3 a b = -1:=by unfold C3; rw[if_pos h]
theorem Gn {a b:Int} (h:b<a):C3 a b=1:=by unfold C3; rw[if_neg (by omega),if_pos h]
theorem RG (a:Int):C3 a a=0:=by unfold C3; simp
theorem Cf (a b:Int):(C3 a b = -1/\a<b)\/(C3 a b=1/\b<a)\/(C3 a b=0/\a=b):=by unfold C3; split <;> (try split) <;> omega
theorem XI (a b:Int):B9 a b=some (C3 a b):=by
 unfold B9 EE C3;by_cases h1:a<b <;> by_cases h2:b<a <;> simp[h1,h2]
theorem A1L {k:Nat} {d:Int} (h:d<=-1):B k*d<=- B k:=by
 have:=zb2 h (ze3 (Hb k));omega
theorem A4C {l m:List Int} (hl:LB l) (hm:LB m) {k:Nat} {x y:Int} (hx:l[k]? = some x) (hy:m[k]? = some y) (hd:l.drop (k + 1)=m.drop (k + 1)):(x<y->val l<val m)/\(y<x->val m<val l):=by
 have kl:=EC hx;have km:=EC hy;have e1:=WG l k (by omega);have e2:=WG m k (by omega);have d1:l.drop k=x::l.drop (k + 1):=by rw[zb0 kl]; congr 1; rw[za1 kl] at hx; exact Option.some.inj hx
 have d2:m.drop k=y::m.drop (k + 1):=by rw[zb0 km]; congr 1; rw[za1 km] at hy; exact Option.some.inj hy
 rw[d1] at e1;rw[d2,<-hd] at e2;simp only[val] at e1 e2;have t1:=AZ (hl.take k);have t2:=AZ (hm.take k);have t3:=Q0 (hl.take k);have t4:=Q0 (hm.take k);rw[List.length_take,Nat.min_eq_left (by omega)] at t3 t4;rw[ze1] at e1 e2;constructor
 ·intro h;have:=A1L (k:=k) (show x-y<=-1 by omega);rw[Int.mul_sub] at this;omega
 ·intro h;have:=A1L (k:=k) (show y-x<=-1 by omega);rw[Int.mul_sub] at this;omega
theorem ZY {a b:Nat}:((lim a).length<(lim b).length->a<b):=by
 intro h;rcases ze0 a b with h1 | h1
 ·exact h1
 ·exfalso
  have h2:=(Ax (n:=a) (k:=(lim a).length)).1 (za7 _);have:=(Ax (n:=b) (k:=(lim a).length)).2 (by omega);omega
section
variable {l m:List Int} (hl:LB l) (hm:LB m) (hlen:l.length=m.length) (hb:AH l)
include hl hm hlen hb
theorem A32:(val l=val m->Ah (fun (s:((List Int)×((List Int)×Int)))=>Bk s.1 s.2.1 s.2.2) (l,(m,(l.length:Int)-1))=some (.inl ())) /\
  (val l≠val m->Ah (fun (s:((List Int)×((List Int)×Int)))=>Bk s.1 s.2.1 s.2.2) (l,(m,(l.length:Int)-1))=some (.inr (C3 (val l) (val m)))):=by
 unfold AH at hb;have key:∀ (n:Nat),n<=l.length->l.drop n=m.drop n->(l=m->Ah (fun (s:((List Int)×((List Int)×Int)))=>Bk s.1 s.2.1 s.2.2) (l,(m,(n:Int)-1))=some (.inl ()))/\(l≠m->Ah (fun (s:((List Int)×((List Int)×Int)))=>Bk s.1 s.2.1 s.2.2) (l,(m,(n:Int)-1))=some (.inr (C3 (val l) (val m)))/\val l≠val m):=by
  intro n
  induction n with
  | zero =>
   intro _ h;simp only[ze8] at h;refine ⟨fun _=>Aq rfl,fun hn=>absurd h hn⟩
  | succ n ih =>
   intro hn h;have k1:n<l.length:=by omega
   have k2:n<m.length:=by omega
   have hx:l[n]? = some l[n]:=za1 k1;have hy:m[n]? = some m[n]:=za1 k2;have hs:((n + 1:Nat):Int)-1=(n:Int):=by omega
   rw[hs];by_cases he:l[n]=m[n]
   ·have hd:l.drop n=m.drop n:=by rw[zb0 k1,zb0 k2,he,h]
    have hstep:Bk l m (n:Int)=some (.inl (l,(m,(n:Int)-1))):=by
     unfold Bk;rw[decide_eq_true (show (n:Int)>=0 by omega),An,An,hx,hy,Aj (by omega) (by omega)];simp only[cond_true,za0,he,bne_self_eq_false,cond_false]
    obtain ⟨i1,i2⟩:=ih (by omega) hd;exact ⟨fun hh=>by rw[AX hstep]; exact i1 hh,fun hh=>by rw[AX hstep]; exact i2 hh⟩
   ·obtain ⟨c1,c2⟩:=A4C hl hm hx hy h;have hne:l≠m:=fun hh=>he (by subst hh; rfl)
    have hc:C3 l[n] m[n]=C3 (val l) (val m):=by
     rcases Int.lt_or_gt_of_ne he with h1 | h1
     ·rw[Ep h1,Ep (c1 h1)]
     ·rw[Gn h1,Gn (c2 h1)]
    have hstep:Bk l m (n:Int)=some (.inr (.inr (C3 (val l) (val m)))):=by
     unfold Bk;rw[decide_eq_true (show (n:Int)>=0 by omega),An,An,hx,hy];have hb:(l[n] != m[n])=true:=by simpa using he
     simp only[cond_true,za0,hb,XI,hc]
    refine ⟨fun hh=>absurd hh hne,fun _=>⟨Aq hstep,?_⟩⟩
    rcases Int.lt_or_gt_of_ne he with h1 | h1
    ·have:=c1 h1; omega
    ·have:=c2 h1; omega
 obtain ⟨h1,h2⟩:=key l.length (za7 _) (by rw[List.drop_length,hlen,List.drop_length]);constructor
 ·intro hv;by_cases he:l=m
  ·exact h1 he
  ·exact absurd hv (h2 he).2
 ·intro hv;exact (h2 fun he=>hv (by rw[he])).1
theorem A2P:(val l=val m->Ah (fun (s:((List Int)×((List Int)×Int)))=>DF s.1 s.2.1 s.2.2) (l,(m,(l.length:Int)-1))=some (.inl ())) /\
  (val l≠val m->Ah (fun (s:((List Int)×((List Int)×Int)))=>DF s.1 s.2.1 s.2.2) (l,(m,(l.length:Int)-1))=some (.inr (C3 (val l) (val m)))):=by
 unfold AH at hb;have key:∀ (n:Nat),n<=l.length->l.drop n=m.drop n->(l=m->Ah (fun (s:((List Int)×((List Int)×Int)))=>DF s.1 s.2.1 s.2.2) (l,(m,(n:Int)-1))=some (.inl ()))/\(l≠m->Ah (fun (s:((List Int)×((List Int)×Int)))=>DF s.1 s.2.1 s.2.2) (l,(m,(n:Int)-1))=some (.inr (C3 (val l) (val m)))/\val l≠val m):=by
  intro n
  induction n with
  | zero =>
   intro _ h;simp only[ze8] at h;refine ⟨fun _=>Aq rfl,fun hn=>absurd h hn⟩
  | succ n ih =>
   intro hn h;have k1:n<l.length:=by omega
   have k2:n<m.length:=by omega
   have hx:l[n]? = some l[n]:=za1 k1;have hy:m[n]? = some m[n]:=za1 k2;have hs:((n + 1:Nat):Int)-1=(n:Int):=by omega
   rw[hs];by_cases he:l[n]=m[n]
   ·have hd:l.drop n=m.drop n:=by rw[zb0 k1,zb0 k2,he,h]
    have hstep:DF l m (n:Int)=some (.inl (l,(m,(n:Int)-1))):=by
     unfold DF;rw[decide_eq_true (show (n:Int)>=0 by omega),An,An,hx,hy,Aj (by omega) (by omega)];simp only[cond_true,za0,he];rw[decide_eq_false (Int.lt_irrefl _)];rfl
    obtain ⟨i1,i2⟩:=ih (by omega) hd;exact ⟨fun hh=>by rw[AX hstep]; exact i1 hh,fun hh=>by rw[AX hstep]; exact i2 hh⟩
   ·obtain ⟨c1,c2⟩:=A4C hl hm hx hy h;have hne:l≠m:=fun hh=>he (by subst hh; rfl)
    have hstep:DF l m (n:Int)=some (.inr (.inr (C3 (val l) (val m)))):=by
     unfold DF;rw[decide_eq_true (show (n:Int)>=0 by omega),An,An,hx,hy];simp only[cond_true,za0];rcases Int.lt_or_gt_of_ne he with h1 | h1
     ·rw[decide_eq_true h1,Ep (c1 h1)]; rfl
     ·rw[decide_eq_false (by omega),decide_eq_true h1,Gn (c2 h1)]; rfl
    refine ⟨fun hh=>absurd hh hne,fun _=>⟨Aq hstep,?_⟩⟩
    rcases Int.lt_or_gt_of_ne he with h1 | h1
    ·have:=c1 h1; omega
    ·have:=c2 h1; omega
 obtain ⟨h1,h2⟩:=key l.length (za7 _) (by rw[List.drop_length,hlen,List.drop_length]);constructor
 ·intro hv;by_cases he:l=m
  ·exact h1 he
  ·exact absurd hv (h2 he).2
 ·intro hv;exact (h2 fun he=>hv (by rw[he])).1
end
theorem HJ {a b:Nat} (ha:AH (lim a)) (hb:AH (lim b)):BH (lim a) (lim b)=some (C3 a b):=by
 unfold BH;have ha':=ha;have hb':=hb;unfold AH at ha' hb';by_cases h:(lim a).length=(lim b).length
 ·have e:((((lim a).length:Nat):Int) != (((lim b).length:Nat):Int))=false:=by simp[h]
  rw[e,Aj (by omega) (by omega)];simp only[cond_false];obtain ⟨h1,h2⟩:=A32 (AO a) (AO b) h ha;rw[AE,AE] at h1 h2;by_cases hv:(a:Int)=b
  ·rw[h1 hv,hv,RG]; rfl
  ·rw[h2 hv]; rfl
 ·have e:((((lim a).length:Nat):Int) != (((lim b).length:Nat):Int))=true:=by simp; omega
  rw[e];simp only[cond_true,XI,za0];rcases Nat.lt_or_gt_of_ne h with h1 | h1
  ·have:=ZY h1;rw[Ep (by omega),Ep (by omega)]
  ·have:=ZY h1;rw[Gn (by omega),Gn (by omega)]
theorem RJ {a b:Nat} (ha:AH (lim a)) (hb:AH (lim b)):Ci (lim a) (lim b)=some (C3 a b):=by
 unfold Ci;have ha':=ha;have hb':=hb;unfold AH at ha' hb';by_cases h:(lim a).length=(lim b).length
 ·have e:((((lim a).length:Nat):Int) != (((lim b).length:Nat):Int))=false:=by simp[h]
  rw[e,Aj (by omega) (by omega)];simp only[cond_false];obtain ⟨h1,h2⟩:=A2P (AO a) (AO b) h ha;rw[AE,AE] at h1 h2;by_cases hv:(a:Int)=b
  ·rw[h1 hv,hv,RG]; rfl
  ·rw[h2 hv]; rfl
 ·have e:((((lim a).length:Nat):Int) != (((lim b).length:Nat):Int))=true:=by simp; omega
  rw[e];simp only[cond_true];rcases Nat.lt_or_gt_of_ne h with h1 | h1
  ·have:=ZY h1;rw[decide_eq_true (by omega),Ep (by omega)]; rfl
  ·have:=ZY h1;rw[decide_eq_false (by omega),Gn (by omega)]; rfl
def dg (l:List Int) (k:Nat):Int:=l.getD k 0
theorem GF {l:List Int} {k:Nat} {x:Int} (h:l[k]? = some x):dg l k=x:=by unfold dg; rw[zb7,h]; rfl
theorem Jw {l:List Int} {k:Nat} (h:l.length<=k):dg l k=0:=by unfold dg; rw[zb7,List.getElem?_eq_none h]; rfl
theorem Bh {l:List Int} (h:LB l) (k:Nat) : 0<=dg l k/\dg l k<65536:=by
 rcases ze0 k l.length with hk | hk
 ·rw[GF (za1 hk)]; exact h _ (List.getElem_mem _)
 ·rw[Jw hk]; omega
theorem A9 (l:List Int) (k:Nat):val (l.take (k + 1))=val (l.take k) + B k*dg l k:=by
 rcases ze0 k l.length with hk | hk
 ·have he:=za1 hk;rw[List.take_add_one,he,GF he,Option.toList_some,ML,List.length_take,Nat.min_eq_left (by omega)]
 ·rw[Jw hk,zc4 (by omega),zc4 hk];omega
theorem M6 {l:List Int} (k:Nat):Db l (k:Int)=some (dg l k):=by
 unfold Db;rcases ze0 k l.length with hk | hk
 ·rw[decide_eq_true (by omega),An,za1 hk,GF (za1 hk)];rfl
 ·rw[decide_eq_false (by omega),Jw hk];rfl
theorem A1y {l:List Int} {x:Int} (h:l.length<=100000000):Ct 8 1 l [x]=some (l ++ [x]):=Dm (by simp[Ag]; omega) (by simp[Ag]; omega)
theorem AO9 {a b:List Int} (ha:LB a) (hb:LB b) (na:a.length<=10000000) (nb:b.length<=10000000) :
  ∃ r,Fk a b=some r/\LB r/\val r=val a + val b/\r.length<=max a.length b.length + 1/\(r.length<=max a.length b.length\/B (max a.length b.length)<=val a + val b):=by
 unfold Fk;obtain ⟨r,h1,h2⟩:=Hm (f:=fun (s:((List Int)×((List Int)×((List Int)×(Int×Int)))))=>D8 s.1 s.2.1 s.2.2.1 s.2.2.2.1 s.2.2.2.2)
  (I:=fun s=>∃ (k:Nat) (out:List Int) (c:Int),s=(out,(a,(b,(c,(k:Int)))))/\out.length=k/\k<=max a.length b.length + 1/\LB out/\(c=0\/c=1)/\(k=max a.length b.length + 1->c=0/\B (max a.length b.length)<=val a + val b)/\val out + B k*c=val (a.take k) + val (b.take k))
  (R:=fun r=>LB r/\val r=val a + val b/\r.length<=max a.length b.length + 1/\(r.length<=max a.length b.length\/B (max a.length b.length)<=val a + val b)) (fun s=>max a.length b.length + 2-s.1.length) (by
   rintro s ⟨k,out,c,rfl,h1,h2,h3,h4,h4',h5⟩;simp only;have da:=Bh ha k;have db:=Bh hb k;have go:k<max a.length b.length\/c=1->∃ c',D8 out a b c (k:Int)=some (.inl (out ++ [(dg a k + dg b k + c)%65536],(a,(b,(c',((k + 1:Nat):Int))))))/\c'=(dg a k + dg b k + c)/65536:=by
    intro hgo;refine ⟨_,?_,rfl⟩
    have hkk:k<=max a.length b.length:=by rcases hgo with h | h <;> omega
    unfold D8;have hcond:(bif decide ((k:Int)<((a.length:Nat):Int)) then some (Sum.inr (α:=(List Int×List Int×List Int×Int×Int) ⊕ List Int) (out,(a,(b,(c,(k:Int)))))) else bif decide ((k:Int)<((b.length:Nat):Int)) then some (Sum.inr (out,(a,(b,(c,(k:Int)))))) else bif decide (c>0) then some (Sum.inr (out,(a,(b,(c,(k:Int)))))) else some (Sum.inl (Sum.inr out)))=some (Sum.inr (out,(a,(b,(c,(k:Int)))))):=by
     by_cases c1:(k:Int)<(a.length:Int)
     ·rw[decide_eq_true c1]; rfl
     ·by_cases c2:(k:Int)<(b.length:Int)
      ·rw[decide_eq_false c1,decide_eq_true c2]; rfl
      ·have:c>0:=by rcases hgo with h | h <;> omega
       rw[decide_eq_false c1,decide_eq_false c2,decide_eq_true this]; rfl
    rw[hcond];simp only[za0,za8,M6];rw[Aj (n:=dg a k + dg b k) (by omega) (by omega),Aj (n:=dg a k + dg b k + c) (by omega) (by omega),zc6 (by omega),zc1 (by omega),Aj (by omega) (by omega),A1y (by omega),AM (by omega)];rfl
   by_cases hgo:k<max a.length b.length\/c=1
   ·obtain ⟨c',e1,e2⟩:=go hgo
    clear go
    have hkk:k<=max a.length b.length:=by
     rcases hgo with h | h
     ·omega
     ·rcases ze0 (max a.length b.length) k with h6 | h6
      ·have:=h4' (by omega); omega
      ·exact h6
    refine .inl ⟨_,e1,⟨k + 1,_,c',rfl,by simp[h1],by omega,h3.append (LB.cons (by omega) LB.nil),by omega,?_,?_⟩,by simp; omega⟩
    ·intro hk;have:k=max a.length b.length:=by omega
     rw[Jw (by omega),Jw (by omega)] at e2;refine ⟨by omega,?_⟩
     have hc1:c=1:=by omega
     rw[hc1,zc4 (by omega),zc4 (by omega),this] at h5;have:=AZ h3;omega
    ·rw[ML,h1,A9,A9];have:B (k + 1)*c'=B k*(65536*c'):=by simp only[B]; rw[Int.mul_comm 65536 (B k),Int.mul_assoc]
     rw[this];have hq:(dg a k + dg b k + c)%65536 + 65536*c'=dg a k + dg b k + c:=by omega
     have:B k*((dg a k + dg b k + c)%65536) + B k*(65536*c')=B k*dg a k + B k*dg b k + B k*c:=by rw[<-ze1,hq,ze1,ze1]
     omega
   ·clear go
    have hc:c=0:=by omega
    have hk:max a.length b.length<=k:=by omega
    subst hc;refine .inr ⟨out,?_,h3,?_,by omega,?_⟩
    ·unfold D8;rw[decide_eq_false (by omega),decide_eq_false (by omega)];rfl
    ·rw[zc4 (by omega),zc4 (by omega)] at h5;omega
    ·rcases ze0 (max a.length b.length) k with h6 | h6
     ·exact .inr (h4' (by omega)).2
     ·left; omega) ([],(a,(b,(0,0)))) ⟨0,[],0,rfl,rfl,by omega,LB.nil,.inl rfl,by omega,by simp[val,B]⟩
 exact ⟨r,by rw[h1]; rfl,h2⟩
theorem A3q {a b:List Int} (ha:LB a) (hb:LB b) (na:a.length<=10000000) (nb:b.length<=10000000) :
  ∃ r,Hz a b=some r/\LB r/\val r=val a + val b/\r.length<=max a.length b.length + 1:=by
 unfold Hz;have hM:Ba2 [((a.length:Nat):Int),((b.length:Nat):Int)]=((max a.length b.length:Nat):Int):=by simp only[Ba2,List.foldl]; split <;> omega
 obtain ⟨r,h1,h2⟩:=Hm (f:=fun (s:((List Int)×((List Int)×((List Int)×(Int×Int)))))=>Fz s.1 s.2.1 s.2.2.1 s.2.2.2.1 s.2.2.2.2)
  (I:=fun s=>∃ (k:Nat) (out:List Int) (c:Int),s=(out,(a,(b,(c,(k:Int)))))/\out.length=k/\k<=max a.length b.length + 1/\LB out/\(c=0\/c=1)/\(k=max a.length b.length + 1->c=0)/\val out + B k*c=val (a.take k) + val (b.take k))
  (R:=fun r=>LB r/\val r=val a + val b/\r.length<=max a.length b.length + 1) (fun s=>max a.length b.length + 2-s.1.length) (by
   rintro s ⟨k,out,c,rfl,h1,h2,h3,h4,h4',h5⟩;simp only;have da:=Bh ha k;have db:=Bh hb k;have go:k<max a.length b.length\/c=1->∃ c',Fz out a b c (k:Int)=some (.inl (out ++ [(dg a k + dg b k + c)%65536],(a,(b,(c',((k + 1:Nat):Int))))))/\c'=(dg a k + dg b k + c)/65536:=by
    intro hgo;refine ⟨_,?_,rfl⟩
    have hkk:k<=max a.length b.length:=by rcases hgo with h | h <;> omega
    unfold Fz;rw[hM];have hcond:(bif decide ((k:Int)<((max a.length b.length:Nat):Int)) then some (Sum.inr (α:=(List Int×List Int×List Int×Int×Int) ⊕ List Int) (out,(a,(b,(c,(k:Int)))))) else bif decide (c>0) then some (Sum.inr (out,(a,(b,(c,(k:Int)))))) else some (Sum.inl (Sum.inr out)))=some (Sum.inr (out,(a,(b,(c,(k:Int)))))):=by
     by_cases c1:(k:Int)<((max a.length b.length:Nat):Int)
     ·rw[decide_eq_true c1]; rfl
     ·have:c>0:=by rcases hgo with h | h <;> omega
      rw[decide_eq_false c1,decide_eq_true this]; rfl
    rw[hcond];simp only[za0,za8];have s1:(bif decide ((k:Int)<((a.length:Nat):Int)) then (AP a (k:Int)).bind fun x3=>some (Sum.inr (α:=(List Int×List Int×List Int×Int×Int) ⊕ List Int) (out,(a,(b,(IntKind.wrap .i64 (c + x3),(k:Int)))))) else some (Sum.inr (out,(a,(b,(c,(k:Int)))))))=some (Sum.inr (out,(a,(b,(c + dg a k,(k:Int)))))):=by
     rcases ze0 k a.length with hk | hk
     ·rw[decide_eq_true (by omega),An,za1 hk,<-GF (za1 hk)];simp only[cond_true,za0];rw[Aj (by omega) (by omega)]
     ·rw[decide_eq_false (by omega),Jw hk];simp
    rw[s1];simp only[za0,za8];have s2:(bif decide ((k:Int)<((b.length:Nat):Int)) then (AP b (k:Int)).bind fun x3=>some (Sum.inr (α:=(List Int×List Int×List Int×Int×Int) ⊕ List Int) (out,(a,(b,(IntKind.wrap .i64 (c + dg a k + x3),(k:Int)))))) else some (Sum.inr (out,(a,(b,(c + dg a k,(k:Int)))))))=some (Sum.inr (out,(a,(b,(dg a k + dg b k + c,(k:Int)))))):=by
     rcases ze0 k b.length with hk | hk
     ·rw[decide_eq_true (by omega),An,za1 hk,<-GF (za1 hk)];simp only[cond_true,za0];rw[Aj (by omega) (by omega),show c + dg a k + dg b k=dg a k + dg b k + c by omega]
     ·rw[decide_eq_false (by omega),Jw hk,show dg a k + 0 + c=c + dg a k by omega];rfl
    rw[s2];simp only[za0,za8];rw[zc6 (by omega),zc1 (by omega),Aj (by omega) (by omega),A1y (by omega),AM (by omega)];rfl
   by_cases hgo:k<max a.length b.length\/c=1
   ·obtain ⟨c',e1,e2⟩:=go hgo
    clear go
    have hkk:k<=max a.length b.length:=by
     rcases hgo with h | h
     ·omega
     ·rcases ze0 (max a.length b.length) k with h6 | h6
      ·have:=h4' (by omega); omega
      ·exact h6
    refine .inl ⟨_,e1,⟨k + 1,_,c',rfl,by simp[h1],by omega,h3.append (LB.cons (by omega) LB.nil),by omega,?_,?_⟩,by simp; omega⟩
    ·intro hk;have:k=max a.length b.length:=by omega
     rw[Jw (by omega),Jw (by omega)] at e2;omega
    ·rw[ML,h1,A9,A9];have:B (k + 1)*c'=B k*(65536*c'):=by simp only[B]; rw[Int.mul_comm 65536 (B k),Int.mul_assoc]
     rw[this];have hq:(dg a k + dg b k + c)%65536 + 65536*c'=dg a k + dg b k + c:=by omega
     have:B k*((dg a k + dg b k + c)%65536) + B k*(65536*c')=B k*dg a k + B k*dg b k + B k*c:=by rw[<-ze1,hq,ze1,ze1]
     omega
   ·clear go
    have hc:c=0:=by omega
    have hk:max a.length b.length<=k:=by omega
    subst hc;refine .inr ⟨out,?_,h3,?_,by omega⟩
    ·unfold Fz;rw[hM,decide_eq_false (by omega)];rfl
    ·rw[zc4 (by omega),zc4 (by omega)] at h5;omega) ([],(a,(b,(0,0)))) ⟨0,[],0,rfl,rfl,by omega,LB.nil,.inl rfl,by omega,by simp[val,B]⟩
 exact ⟨r,by rw[h1]; rfl,h2⟩
end
section
open Go
theorem XR {v:Int} (h : -65536<=v/\v<65536) : 0<=(if v<0 then v + 65536 else v)/\(if v<0 then v + 65536 else v)<65536/\(if v<0 then v + 65536 else v)-65536*(if v<0 then 1 else 0)=v/\((if v<0 then 1 else 0:Int)=0\/(if v<0 then 1 else 0:Int)=1):=by
 split <;> omega
theorem Aq9 {k:Nat} {A Bv out d br br' v x y:Int} (h1:out-B k*br=A-Bv) (h2:d-65536*br'=v) (h3:v=x-y-br):out + B k*d-B (k + 1)*br'=A + B k*x-(Bv + B k*y):=by
 have e1:B (k + 1)*br'=B k*(65536*br'):=by simp only[B]; rw[Int.mul_comm 65536 (B k),Int.mul_assoc]
 have e2:B k*d-B k*(65536*br')=B k*x-B k*y-B k*br:=by rw[<-Int.mul_sub,h2,h3,Int.mul_sub,Int.mul_sub]
 rw[e1];omega
theorem U7 {a b:List Int} (ha:LB a) (hb:LB b) (hlen:b.length<=a.length) (na:a.length<=10000000) (hle:val b<=val a) :
  Ec a b=some (lim (val a-val b).toNat):=by
 unfold Ec;obtain ⟨r,h1,h2⟩:=Hm (f:=fun (s:((List Int)×((List Int)×((List Int)×(Int×(Int×Int))))))=>FX s.1 s.2.1 s.2.2.1 s.2.2.2.1 s.2.2.2.2.1 s.2.2.2.2.2)
  (I:=fun s=>∃ (k:Nat) (out:List Int) (c:Int),s=(out,(a,(b,(c,((a.length:Int),(k:Int))))))/\out.length=k/\k<=a.length/\LB out/\(c=0\/c=1)/\val out-B k*c=val (a.take k)-val (b.take k))
  (R:=fun r=>LB r/\val r=val a-val b/\r.length=a.length) (fun s=>a.length + 1-s.1.length) (by
   rintro s ⟨k,out,c,rfl,h1,h2,h3,h4,h5⟩;simp only;by_cases hk:k<a.length
   ·have da:=Bh ha k;have db:=Bh hb k;have hg:=za1 hk;have hx:a[k]=dg a k:=(GF hg).symm;have hv:=XR (v:=dg a k-dg b k-c) (by omega);refine .inl ⟨(out ++ [if dg a k-dg b k-c<0 then dg a k-dg b k-c + 65536 else dg a k-dg b k-c],(a,(b,((if dg a k-dg b k-c<0 then 1 else 0),((a.length:Int),((k + 1:Nat):Int)))))),?_,⟨k + 1,_,_,rfl,by simp[h1],by omega,h3.append (LB.cons (by omega) LB.nil),hv.2.2.2,?_⟩,by simp; omega⟩
    ·unfold FX;rw[decide_eq_true (by omega),An,hg];simp only[cond_true,za0,M6,hx];rw[Aj (n:=dg a k-dg b k) (by omega) (by omega),Aj (n:=dg a k-dg b k-c) (by omega) (by omega),Aj (n:=dg a k-dg b k-c + 65536) (by omega) (by omega),AM (by omega)];by_cases hneg:dg a k-dg b k-c<0
     ·rw[decide_eq_true hneg,if_pos hneg,if_pos hneg];simp only[cond_true];rw[A1y (by omega)];rfl
     ·rw[decide_eq_false hneg,if_neg hneg,if_neg hneg];simp only[cond_false];rw[A1y (by omega)];rfl
    ·rw[ML,h1,A9,A9];exact Aq9 h5 hv.2.2.1 rfl
   ·have hk':k=a.length:=by omega
    refine .inr ⟨out,?_,h3,?_,by omega⟩
    ·unfold FX;rw[decide_eq_false (by omega)];rfl
    ·rw[zc4 (by omega),zc4 (by omega)] at h5;have b1:=Q0 h3;have b2:=AZ h3;rw[h1] at b1;rcases h4 with h4 | h4
     ·subst h4; omega
     ·subst h4; omega) ([],(a,(b,(0,((a.length:Int),0))))) ⟨0,[],0,rfl,rfl,by omega,LB.nil,.inl rfl,by simp[val,B]⟩
 rw[h1];simp only[za0];rw[Hy (by unfold AH; omega)];simp only[za0];rw[Cz h2.1,h2.2.1]
theorem Ao4 {a b:List Int} (ha:LB a) (hb:LB b) (hlen:b.length<=a.length) (na:a.length<=10000000) (hle:val b<=val a) :
  FR a b=some (lim (val a-val b).toNat):=by
 unfold FR;rw[AI0 (by unfold AH; omega)];simp only[za0];obtain ⟨r,h1,h2⟩:=Hm (f:=fun (s:((List Int)×((List Int)×(Int×(Int×Int)))))=>HE s.1 s.2.1 s.2.2.1 s.2.2.2.1 s.2.2.2.2)
  (I:=fun s=>∃ (k:Nat) (out:List Int) (c:Int),s=(out,(b,(c,((a.length:Int),(k:Int)))))/\out.length=a.length/\k<=a.length/\LB (out.take k)/\out.drop k=a.drop k/\(c=0\/c=1)/\val (out.take k)-B k*c=val (a.take k)-val (b.take k))
  (R:=fun r=>LB r/\val r=val a-val b/\r.length=a.length) (fun s=>(a.length + 1-s.2.2.2.2).toNat) (by
   rintro s ⟨k,out,c,rfl,h1,h2,h3,h3',h4,h5⟩;simp only;by_cases hk:k<a.length
   ·have da:=Bh ha k;have db:=Bh hb k;have hg:=za1 hk;have hx:a[k]=dg a k:=(GF hg).symm;have hko:k<out.length:=by omega
    have hox:out[k]? = some (dg a k):=by
     have e1:out.drop k=out[k]::out.drop (k + 1):=zb0 hko;have e2:a.drop k=a[k]::a.drop (k + 1):=zb0 hk;rw[za1 hko];rw[e1,e2] at h3';rw[(List.cons.inj h3').1,hx]
    have hv:=XR (v:=dg a k-dg b k-c) (by omega);have hset:∀ y:Int,(out.set k y)[k]? = some y:=fun y=>by rw[List.getElem?_set_self hko]
    have hdg:dg (out.set k (if dg a k-dg b k-c<0 then dg a k-dg b k-c + 65536 else dg a k-dg b k-c)) k=(if dg a k-dg b k-c<0 then dg a k-dg b k-c + 65536 else dg a k-dg b k-c):=GF (hset _);have htk:(out.set k (if dg a k-dg b k-c<0 then dg a k-dg b k-c + 65536 else dg a k-dg b k-c)).take k=out.take k:=List.take_set_of_le (za7 _);refine .inl ⟨(out.set k (if dg a k-dg b k-c<0 then dg a k-dg b k-c + 65536 else dg a k-dg b k-c),(b,((if dg a k-dg b k-c<0 then 1 else 0),((a.length:Int),((k + 1:Nat):Int))))),?_,⟨k + 1,_,_,rfl,by simp[h1],by omega,?_,?_,hv.2.2.2,?_⟩,by simp; omega⟩
    ·unfold HE AV;have i1:A2 (k:Int) out.length=some k:=A0 hko;have i2:∀ y:Int,A2 (k:Int) (out.set k y).length=some k:=fun y=>by rw[List.length_set]; exact i1
     rw[decide_eq_true (by omega)];simp only[cond_true,i1,za0,hox,i2,hset,An];have hw1:=AM (show k<4611686018427387904 by omega);rw[Aj (n:=dg a k-c) (by omega) (by omega)];have s1:(bif decide ((k:Int)<((b.length:Nat):Int)) then (b[k]?).bind fun x6=>some (Sum.inr (α:=(List Int×List Int×Int×Int×Int) ⊕ List Int) ((out.set k (dg a k-c)).set k (IntKind.wrap .i64 (dg a k-c-x6)),(b,((k:Int),((a.length:Int),(k:Int)))))) else some (Sum.inr (out.set k (dg a k-c),(b,((k:Int),((a.length:Int),(k:Int)))))))=some (Sum.inr (out.set k (dg a k-dg b k-c),(b,((k:Int),((a.length:Int),(k:Int)))))):=by
      rcases ze0 k b.length with hkb | hkb
      ·rw[decide_eq_true (by omega),za1 hkb,<-GF (za1 hkb)];simp only[cond_true,za0,List.set_set];rw[Aj (by omega) (by omega),show dg a k-c-dg b k=dg a k-dg b k-c by omega]
      ·rw[decide_eq_false (by omega),Jw hkb,show dg a k-0-c=dg a k-c by omega];rfl
     rw[s1];simp only[za0,za8,i2,hset,List.set_set,hw1];by_cases hneg:dg a k-dg b k-c<0
     ·rw[decide_eq_true hneg,if_pos hneg,if_pos hneg,Aj (by omega) (by omega)];rfl
     ·rw[decide_eq_false hneg,if_neg hneg,if_neg hneg];rfl
    ·rw[List.take_add_one,htk,hset];exact h3.append (LB.cons (by omega) LB.nil)
    ·rw[List.drop_set_of_lt (by omega)];have:out.drop (k + 1)=(out.drop k).drop 1:=by rw[List.drop_drop]
     rw[this,h3',List.drop_drop]
    ·rw[A9 (out.set k _),A9 a,A9 b,htk,hdg];exact Aq9 h5 hv.2.2.1 rfl
   ·have hk':k=a.length:=by omega
    refine .inr ⟨out,?_,?_,?_,h1⟩
    ·unfold HE;rw[decide_eq_false (by omega)];rfl
    ·rw[zc4 (by omega)] at h3; exact h3
    ·rw[zc4 (by omega)] at h3 h5;rw[zc4 (by omega),zc4 (by omega)] at h5;have b1:=Q0 h3;have b2:=AZ h3;rw[h1,<-hk'] at b1;rcases h4 with h4 | h4
     ·subst h4; omega
     ·subst h4; omega) (a,(b,(0,((a.length:Int),0)))) ⟨0,a,0,rfl,rfl,by omega,by rw[List.take_zero]; exact LB.nil,rfl,.inl rfl,by simp[val,B]⟩
 rw[h1];simp only[za0];rw[AB5 (by unfold AH; omega)];simp only[za0];rw[Cz h2.1,h2.2.1]
end
end Go.Proofs.YtiijheppiboglaaGreatDoor.Ev
