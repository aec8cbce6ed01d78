/- What the theorem of this claim leans on, part 5. -/
import Derived.Test.YtiijheppiboglaaGreatDoorKD
import Derived.Test.YtiijheppiboglaaGreatDoorProg
import Derived.KernelRfl
import Derived.Lib.ItoaNum
import Derived.Lib.ItoaLen
import Derived.Lib.AtoiAll
import Derived.Lib.Split
import Derived.Lib.SplitLaws
import Derived.Lib.IndexMore
import Derived.Lib.Join
set_option maxHeartbeats 2000000
open Option renaming bind_some → za0, map_eq_some_iff → zb5, map_some → zd8
open List renaming getElem?_eq_getElem → za1, getElem?_eq_some_iff → za3, mem_of_getElem? → za4, all_eq_true → za5, drop_eq_getElem_cons → zb0, mem_flatMap → zb1, flatMap_cons → zb3, mem_append → zb4, getD_eq_getElem?_getD → zb6, eq_nil_of_length_eq_zero → zb7, map_cons → zb8, getElem?_take → zb9, length_cons → zc0, take_of_length_le → zc3, mem_cons → zc5, getElem?_map → zc8, all_cons → zc9, length_pos_iff → zd0, drop_eq_nil_of_le → zd1, getElem?_drop → zd2, length_append → zd3, mem_map → zd4, length_map → zd5, getElem?_eq_none → ze1, append_nil → ze6, drop_zero → ze7, length_nil → ze9
open Bool renaming and_eq_true → za2, false_eq_true → zc2, true_and → ze2
open Nat renaming eq_of_beq_eq_true → za6, le_refl → za7, mul_le_mul_right → zd6, lt_of_lt_of_le → zd7, lt_or_ge → zd9, zero_add → ze4, le_trans → ze5, add_mul → zf0
open Sum renaming elim_inr → za8
open Int renaming mul_le_mul_of_nonneg_right → za9, mul_le_mul_of_nonneg_left → zb2, toNat_natCast → zc4, tmod_eq_emod_of_nonneg → zc6, tdiv_eq_ediv_of_nonneg → zc7, mul_add → ze0, le_of_lt → ze3, mul_nonneg → ze8
open Array renaming getD_eq_getD_getElem? → zc1
set_option linter.unusedVariables false
set_option linter.unusedSimpArgs false
set_option linter.unusedSectionVars false
namespace Go.Proofs.YtiijheppiboglaaGreatDoor.Ev
section
open Go
set_option maxRecDepth 100000
noncomputable def BS (s0:Tq5) (s1:(List Tq0)) (s2:(List Tq8)) (s3:Int) (s4:Int) (s5:(List Tq0)) (s6:Int) (s7:Int):Option (Tq18 ⊕ (Tq14 ⊕ Tq31)) :=
 bif decide (s7<s6) then
  ((AQ s5 s7)).bind fun x0 =>
  ((A8 s7 (List.length s1))).bind fun x1 =>
  ((A1 s1 x1)).bind fun x2 =>
  ((Fy (x2.1.1,(x2.1.2,(x2.2.1,x2.2.2))) (x0.1.1,(x0.1.2,(x0.2.1,x0.2.2))))).bind fun x3 =>
  ((Ed (x3.1,(x3.2.1,(x3.2.2.1,x3.2.2.2))))).bind fun x4 =>
  bif (!x4.2) then
   some (Sum.inr (Sum.inr ((List.nil:List Tq0),false)))
  else
  ((A8 s7 (List.length s1))).bind fun x5 =>
  ((A1 s1 x5)).bind fun x6 =>
  some (Sum.inl ((s0.1,(s0.2.1,(s0.2.2.1,s0.2.2.2))),((List.set s1 x5 ((x4.1.1,x4.1.2.1),(x4.1.2.2.1,x4.1.2.2.2))),(s2,(s3,(s4,(s5,(s6,(IntKind.wrap .i64 (s7 + (1:Int)))))))))))
 else
 some (Sum.inr (Sum.inl ((s0.1,(s0.2.1,(s0.2.2.1,s0.2.2.2))),(s1,(s2,(s3,s4))))))
noncomputable def Bp (s0:Tq5) (s1:(List Tq0)) (s2:(List Tq8)) (s3:Int) (s4:Int):Option (Tq14 ⊕ ((List Tq0) ⊕ Tq31)) :=
 bif decide (s4<s3) then
  ((A8 s4 (List.length s2))).bind fun x0 =>
  ((A1 s2 x0)).bind fun x1 =>
  ((JU x1)).bind fun x2 =>
  ((CO x2.1 (s0.1,(s0.2.1,(s0.2.2.1,s0.2.2.2))))).bind fun x3 =>
  bif (!x3.2) then
   some (Sum.inr (Sum.inr ((List.nil:List Tq0),false)))
  else
  (Ah (fun (s:Tq18)=>BS s.1 s.2.1 s.2.2.1 s.2.2.2.1 s.2.2.2.2.1 s.2.2.2.2.2.1 s.2.2.2.2.2.2.1 s.2.2.2.2.2.2.2) ((s0.1,(s0.2.1,(s0.2.2.1,s0.2.2.2))),(s1,(s2,(s3,(s4,(x3.1,((((List.length x3.1):Nat):Int),(0:Int))))))))).bind fun x4 =>
  Sum.elim
   (fun x5 =>
   some (Sum.inl ((x5.1.1,(x5.1.2.1,(x5.1.2.2.1,x5.1.2.2.2))),(x5.2.1,(x5.2.2.1,(x5.2.2.2.1,(IntKind.wrap .i64 (x5.2.2.2.2 + (1:Int)))))))))
   (fun x6 =>
   some (Sum.inr (Sum.inr (x6.1,x6.2))))
   x4
 else
 some (Sum.inr (Sum.inl s1))
noncomputable def EC (a0:(List UInt8)) (a1:Tq5):Option (List ((Tq10×Tq10))×Bool) :=
 ((FX a0)).bind fun x0 =>
 bif (!x0.2.2.2) then
  some ((List.nil:List Tq0),false)
 else
 ((C6 (a1.1,(a1.2.1,(a1.2.2.1,a1.2.2.2))))).bind fun x1 =>
 bif (!x1) then
  some ((List.nil:List Tq0),false)
 else
 (Ah (fun (s:(Tq5×((List Tq8)×((List Tq0)×Int))))=>Ci s.1 s.2.1 s.2.2.1 s.2.2.2) ((a1.1,(a1.2.1,(a1.2.2.1,a1.2.2.2))),(x0.1,((List.nil:List Tq0),(IntKind.wrap .i64 (a1.2.2.1*a1.2.2.2)))))).bind fun x2 =>
 (Ah (fun (s:Tq14)=>Bp s.1 s.2.1 s.2.2.1 s.2.2.2.1 s.2.2.2.2) ((x2.1.1,(x2.1.2.1,(x2.1.2.2.1,x2.1.2.2.2))),(x2.2.2,(x2.2.1,((((List.length x2.2.1):Nat):Int),(0:Int)))))).bind fun x3 =>
 Sum.elim
  (fun x4 =>
  some (x4,true))
  (fun x5 =>
  some (x5.1,x5.2))
  x3
noncomputable def RI:Ent:=⟨LT,fun x=>EC x.1 x.2⟩
noncomputable def RD:TX:=⟨Ak,Ae,[],[4],[Ry,KI,L9,Ac3,U8,JL,MN],LT⟩
theorem Aq0 (a0:List UInt8) (a1:Tq22):wtF RD Tryz.f51 (a0,a1)=EC a0 a1:=by kernel_rfl
theorem Ad0:Ai RR RI:=Aa (X:=RD) ⟨AD,Af,AA⟩ (Ab (by exact ⟨⟨ZN,rfl⟩,⟨⟨Ot,rfl⟩,⟨⟨N6,rfl⟩,⟨⟨AU9,rfl⟩,⟨⟨Al4,rfl⟩,⟨⟨KP,rfl⟩,⟨⟨O5,rfl⟩,trivial⟩⟩⟩⟩⟩⟩⟩)) (Al (by kernel_rfl)) ⟨Tryz.func51,rfl,by kernel_rfl,rfl⟩ (fun x=>by exact Aq0 x.1 x.2)
noncomputable def My (a0:Tq1):Option (Tq3) :=
 ((Bs false a0.2.1)).bind fun x0 =>
 some (x0.2,(x0.1,(a0.2.2.1,a0.2.2.2)))
noncomputable def At7:Ent:=⟨VV,fun x=>My x⟩
noncomputable def Aw7:TX:=⟨Ak,Ae,[],[4],[Ef],VV⟩
theorem A4a (a0:Tq3):wtF Aw7 Tryz.f167 (a0)=My a0:=by kernel_rfl
theorem A2f:Ai RR At7:=Aa (X:=Aw7) ⟨AD,Af,AA⟩ (Ab (by exact ⟨⟨D3,rfl⟩,trivial⟩)) (Al (by kernel_rfl)) ⟨Tryz.func167,rfl,by kernel_rfl,rfl⟩ (fun x=>by exact A4a x)
noncomputable def Ml (a0:Tq7) (a1:Tq7):Option (Tq10) :=
 ((GK (a1.1,a1.2))).bind fun x0 =>
 ((JN (a0.1,a0.2) (x0.1,x0.2))).bind fun x1 =>
 some (x1.1,x1.2)
noncomputable def Au5:Ent:=⟨VM,fun x=>Ml x.1 x.2⟩
noncomputable def Ax0:TX:=⟨Ak,Ae,[],[4],[QF,Wc],VM⟩
theorem A4p (a0:Tq10) (a1:Tq10):wtF Ax0 Tryz.f218 (a0,a1)=Ml a0 a1:=by kernel_rfl
theorem A2k:Ai RR Au5:=Aa (X:=Ax0) ⟨AD,Af,AA⟩ (Ab (by exact ⟨⟨S8,rfl⟩,⟨⟨Ak7,rfl⟩,trivial⟩⟩)) (Al (by kernel_rfl)) ⟨Tryz.func218,rfl,by kernel_rfl,rfl⟩ (fun x=>by exact A4p x.1 x.2)
noncomputable def IM (a0:Tq1):Option (Tq10) :=
 ((HZ (a0.1,a0.2.1) (a0.2.2.1,a0.2.2.2))).bind fun x0 =>
 bif x0.2.1 then
  ((DN (1:Int))).bind fun x1 =>
  ((Ml (x0.1.1,x0.1.2) (x1.1,x1.2))).bind fun x2 =>
  some (x2.1,x2.2)
 else
 some (x0.1.1,x0.1.2)
noncomputable def XL:Ent:=⟨OZ,fun x=>IM x⟩
noncomputable def XF:TX:=⟨Ak,Ae,[],[4],[WE,L2,Au5],OZ⟩
theorem AY2 (a0:Tq3):wtF XF Tryz.f170 (a0)=IM a0:=by kernel_rfl
theorem AC0:Ai RR XL:=Aa (X:=XF) ⟨AD,Af,AA⟩ (Ab (by exact ⟨⟨Aa4,rfl⟩,⟨⟨Nn,rfl⟩,⟨⟨A2k,rfl⟩,trivial⟩⟩⟩)) (Al (by kernel_rfl)) ⟨Tryz.func170,rfl,by kernel_rfl,rfl⟩ (fun x=>by exact AY2 x)
noncomputable def Lu (s0:Tq7) (s1:Int) (s2:Int):Option ((Tq7×(Int×Int)) ⊕ (Tq7×Int)) :=
 bif decide (s2>=(0:Int)) then
  ((AQ s0.2 s2)).bind fun x0 =>
  some (Sum.inl ((s0.1,s0.2),((IntKind.wrap .i64 ((IntKind.wrap .i64 (s1*(65536:Int))) + x0)),(IntKind.wrap .i64 (s2-(1:Int))))))
 else
 some (Sum.inr ((s0.1,s0.2),s1))
noncomputable def JG (a0:Tq7):Option (Int×Bool) :=
 ((Fd (a0.1,a0.2))).bind fun x0 =>
 bif (!x0) then
  some ((0:Int),false)
 else
 bif decide ((((List.length a0.2):Nat):Int)>(4:Int)) then
  some ((0:Int),false)
 else
 ((DN (4611686018427387904:Int))).bind fun x1 =>
 ((Cf a0.2 x1.2)).bind fun x2 =>
 bif decide (x2>(0:Int)) then
  some ((0:Int),false)
 else
 (Ah (fun (s:(Tq7×(Int×Int)))=>Lu s.1 s.2.1 s.2.2) ((a0.1,a0.2),((0:Int),(IntKind.wrap .i64 ((((List.length a0.2):Nat):Int)-(1:Int)))))).bind fun x3 =>
 bif x3.1.1 then
  some ((IntKind.wrap .i64 ((0:Int)-x3.2)),true)
 else
 some (x3.2,true)
noncomputable def Az0:Ent:=⟨VO,fun x=>JG x⟩
noncomputable def AB0:TX:=⟨Ak,Ae,[],[4],[Pw,L2,JC],VO⟩
theorem A4g (a0:Tq10):wtF AB0 Tryz.f169 (a0)=JG a0:=by kernel_rfl
theorem A1X:Ai RR Az0:=Aa (X:=AB0) ⟨AD,Af,AA⟩ (Ab (by exact ⟨⟨TT,rfl⟩,⟨⟨Nn,rfl⟩,⟨⟨Lf,rfl⟩,trivial⟩⟩⟩)) (Al (by kernel_rfl)) ⟨Tryz.func169,rfl,by kernel_rfl,rfl⟩ (fun x=>by exact A4g x)
noncomputable def IJ (a0:Tq1):Option (Int) :=
 ((My (a0.1,(a0.2.1,(a0.2.2.1,a0.2.2.2))))).bind fun x0 =>
 ((Cx (1:Int))).bind fun x1 =>
 ((GU (x0.1,(x0.2.1,(x0.2.2.1,x0.2.2.2))) (x1.1,(x1.2.1,(x1.2.2.1,x1.2.2.2))))).bind fun x2 =>
 bif decide (x2>(0:Int)) then
  some (255:Int)
 else
 ((DN (1:Int))).bind fun x3 =>
 ((DN (2:Int))).bind fun x4 =>
 ((Fp (x3.1,x3.2) (x4.1,x4.2))).bind fun x5 =>
 ((Cx (255:Int))).bind fun x6 =>
 ((GC (x0.1,(x0.2.1,(x0.2.2.1,x0.2.2.2))) (x6.1,(x6.2.1,(x6.2.2.1,x6.2.2.2))))).bind fun x7 =>
 ((Fy (x7.1,(x7.2.1,(x7.2.2.1,x7.2.2.2))) (x5.1,(x5.2.1,(x5.2.2.1,x5.2.2.2))))).bind fun x8 =>
 ((IM (x8.1,(x8.2.1,(x8.2.2.1,x8.2.2.2))))).bind fun x9 =>
 ((JG (x9.1,x9.2))).bind fun x10 =>
 some x10.1
noncomputable def X6:Ent:=⟨Pz,fun x=>IJ x⟩
noncomputable def X4:TX:=⟨Ak,Ae,[],[4],[At7,L9,Q6,L2,KY,QQ,JL,XL,Az0],Pz⟩
theorem AS2 (a0:Tq3):wtF X4 Tryz.f108 (a0)=IJ a0:=by kernel_rfl
theorem AJ6:Ai RR X6:=Aa (X:=X4) ⟨AD,Af,AA⟩ (Ab (by exact ⟨⟨A2f,rfl⟩,⟨⟨N6,rfl⟩,⟨⟨R8,rfl⟩,⟨⟨Nn,rfl⟩,⟨⟨Ls,rfl⟩,⟨⟨SQ,rfl⟩,⟨⟨KP,rfl⟩,⟨⟨AC0,rfl⟩,⟨⟨A1X,rfl⟩,trivial⟩⟩⟩⟩⟩⟩⟩⟩⟩)) (Al (by kernel_rfl)) ⟨Tryz.func108,rfl,by kernel_rfl,rfl⟩ (fun x=>by exact AS2 x)
noncomputable def BX (s0:(List Int)) (s1:(List Tq0)) (s2:Int) (s3:Int):Option (Tq30 ⊕ (List Int)) :=
 bif decide (s3<s2) then
  ((AQ s1 s3)).bind fun x0 =>
  ((IJ (x0.1.1,(x0.1.2,(x0.2.1,x0.2.2))))).bind fun x1 =>
  ((De 8 1 s0 (List.cons x1 (List.nil:List Int)))).bind fun x2 =>
  some (Sum.inl (x2,(s1,(s2,(IntKind.wrap .i64 (s3 + (1:Int)))))))
 else
 some (Sum.inr s0)
noncomputable def E8 (a0:(List UInt8)) (a1:Tq5):Option (List (Int)×Bool) :=
 ((EC a0 (a1.1,(a1.2.1,(a1.2.2.1,a1.2.2.2))))).bind fun x0 =>
 bif (!x0.2) then
  some ((List.nil:List Int),false)
 else
 (Ah (fun (s:Tq30)=>BX s.1 s.2.1 s.2.2.1 s.2.2.2) ((List.nil:List Int),(x0.1,((((List.length x0.1):Nat):Int),(0:Int))))).bind fun x1 =>
 some (x1,true)
noncomputable def Pc:Ent:=⟨Ks,fun x=>E8 x.1 x.2⟩
noncomputable def OM:TX:=⟨Ak,Ae,[],[4],[RI,X6],Ks⟩
theorem ZH (a0:List UInt8) (a1:Tq22):wtF OM Tryz.f38 (a0,a1)=E8 a0 a1:=by kernel_rfl
theorem Yy:Ai RR Pc:=Aa (X:=OM) ⟨AD,Af,AA⟩ (Ab (by exact ⟨⟨Ad0,rfl⟩,⟨⟨AJ6,rfl⟩,trivial⟩⟩)) (Al (by kernel_rfl)) ⟨Tryz.func38,rfl,by kernel_rfl,rfl⟩ (fun x=>by exact ZH x.1 x.2)
noncomputable def Bk (a0:Int) (a1:Int) (a2:Int):Option (Bool) :=
 bif decide (a0>=a1) then
  some (decide (a0<=a2))
 else
 some false
noncomputable def HS:Ent:=⟨S9,fun x=>Bk x.1 x.2.1 x.2.2⟩
noncomputable def Zc:TX:=⟨Ak,Ae,[],[4],[],S9⟩
theorem A1F (a0:Int) (a1:Int) (a2:Int):wtF Zc Tryz.f85 (a0,a1,a2)=Bk a0 a1 a2:=by kernel_rfl
theorem IY:Ai RR HS:=Aa (X:=Zc) ⟨AD,Af,AA⟩ (Ab (by exact trivial)) (Al (by kernel_rfl)) ⟨Tryz.func85,rfl,by kernel_rfl,rfl⟩ (fun x=>by exact A1F x.1 x.2.1 x.2.2)
noncomputable def Ja (a0:List UInt8) (a1:List UInt8):Option Tq13:=QD a0 a1
noncomputable def Oq:Ent:=⟨Oy,fun x=>Ja x.1 x.2⟩
theorem WM:Ai RR Oq:=A5E fun _ _ _ _ _ h=>Or.inr (Or.inl h)
noncomputable def Ba (s0:Tq13) (s1:(List UInt8)) (s2:Int) (s3:Int):Option ((Tq13×Tq28) ⊕ (Unit ⊕ Int)) :=
 bif decide (s3<s2) then
  ((AQ s0 s3)).bind fun x0 =>
  bif (s1==x0) then
   some (Sum.inr (Sum.inr s3))
  else
  some (Sum.inl (s0,(s1,(s2,(IntKind.wrap .i64 (s3 + (1:Int)))))))
 else
 some (Sum.inr (Sum.inl ()))
noncomputable def BK (a0:Tq13) (a1:(List UInt8)):Option (Int) :=
 (Ah (fun (s:(Tq13×Tq28))=>Ba s.1 s.2.1 s.2.2.1 s.2.2.2) (a0,(a1,((((List.length a0):Nat):Int),(0:Int))))).bind fun x0 =>
 Sum.elim
  (fun x1 =>
  some (-(1:Int)))
  (fun x2 =>
  some x2)
  x0
noncomputable def D9:Ent:=⟨CG,fun x=>BK x.1 x.2⟩
noncomputable def D6:TX:=⟨Ak,Ae,[],[4],[],CG⟩
theorem Iz (a0:List (List UInt8)) (a1:List UInt8):wtF D6 Tryz.f259 (a0,a1)=BK a0 a1:=by kernel_rfl
theorem HV:Ai RR D9:=Aa (X:=D6) ⟨AD,Af,AA⟩ (Ab (by exact trivial)) (Al (by kernel_rfl)) ⟨Tryz.func259,rfl,by kernel_rfl,rfl⟩ (fun x=>by exact Iz x.1 x.2)
noncomputable def A7 (a0:Tq13) (a1:(List UInt8)):Option (Bool) :=
 ((BK a0 a1)).bind fun x0 =>
 some (decide (x0>=(0:Int)))
noncomputable def Dm:Ent:=⟨Cb,fun x=>A7 x.1 x.2⟩
noncomputable def Dk:TX:=⟨Ak,Ae,[],[4],[D9],Cb⟩
theorem Hx (a0:List (List UInt8)) (a1:List UInt8):wtF Dk Tryz.f208 (a0,a1)=A7 a0 a1:=by kernel_rfl
theorem GY:Ai RR Dm:=Aa (X:=Dk) ⟨AD,Af,AA⟩ (Ab (by exact ⟨⟨HV,rfl⟩,trivial⟩)) (Al (by kernel_rfl)) ⟨Tryz.func208,rfl,by kernel_rfl,rfl⟩ (fun x=>by exact Hx x.1 x.2)
noncomputable def Bq (a0:Tq21) (a1:(List Tq8)) (a2:Tq8) (a3:(List UInt8)):Option (Tq23×List Tq19×List ((Int×Int))×Int) :=
 ((A7 (List.cons (List.cons 77 (List.nil:List UInt8)) (List.cons (List.cons 76 (List.nil:List UInt8)) (List.cons (List.cons 108 (List.nil:List UInt8)) (List.cons (List.cons 72 (List.nil:List UInt8)) (List.cons (List.cons 86 (List.nil:List UInt8)) (List.cons (List.cons 104 (List.nil:List UInt8)) (List.cons (List.cons 118 (List.nil:List UInt8)) (List.cons (List.cons 90 (List.nil:List UInt8)) (List.nil:List (List UInt8)))))))))) a3)).bind fun x0 =>
 bif (!x0) then
  some ((a0.1,(a0.2.1,a0.2.2)),(a1,(a2,(2:Int))))
 else
 bif ((a3==(List.cons 77 (List.nil:List UInt8)))==a0.2.2) then
  some ((a0.1,(a0.2.1,a0.2.2)),(a1,(a2,(4:Int))))
 else
 bif (a3==(List.cons 77 (List.nil:List UInt8))) then
  bif ((((List.length a1):Nat):Int)==(4:Int)) then
   bif ((((List.length a1):Nat):Int)==(4:Int)) then
    some ((a0.1,(a0.2.1,a0.2.2)),(a1,(a2,(5:Int))))
   else
   some ((a0.1,(a0.2.1,a0.2.2)),(a1,(a2,(0:Int))))
  else
  bif (a3==(List.cons 90 (List.nil:List UInt8))) then
   bif decide ((((List.length a2):Nat):Int)<(3:Int)) then
    bif decide ((((List.length a2):Nat):Int)<(3:Int)) then
     some ((a0.1,(a0.2.1,a0.2.2)),(a1,(a2,(5:Int))))
    else
    some ((a0.1,(a0.2.1,a0.2.2)),(a1,(a2,(0:Int))))
   else
   bif (!(a3==(List.cons 77 (List.nil:List UInt8)))) then
    bif (!(a3==(List.cons 90 (List.nil:List UInt8)))) then
     bif ((((List.length a2):Nat):Int)==(12:Int)) then
      some ((a0.1,(a0.2.1,a0.2.2)),(a1,(a2,(5:Int))))
     else
     some ((a0.1,(a0.2.1,a0.2.2)),(a1,(a2,(0:Int))))
    else
    some ((a0.1,(a0.2.1,a0.2.2)),(a1,(a2,(0:Int))))
   else
   some ((a0.1,(a0.2.1,a0.2.2)),(a1,(a2,(0:Int))))
  else
  bif (!(a3==(List.cons 77 (List.nil:List UInt8)))) then
   bif (!(a3==(List.cons 90 (List.nil:List UInt8)))) then
    bif ((((List.length a2):Nat):Int)==(12:Int)) then
     some ((a0.1,(a0.2.1,a0.2.2)),(a1,(a2,(5:Int))))
    else
    some ((a0.1,(a0.2.1,a0.2.2)),(a1,(a2,(0:Int))))
   else
   some ((a0.1,(a0.2.1,a0.2.2)),(a1,(a2,(0:Int))))
  else
  some ((a0.1,(a0.2.1,a0.2.2)),(a1,(a2,(0:Int))))
 else
 bif (a3==(List.cons 90 (List.nil:List UInt8))) then
  bif decide ((((List.length a2):Nat):Int)<(3:Int)) then
   bif decide ((((List.length a2):Nat):Int)<(3:Int)) then
    some ((a0.1,(a0.2.1,a0.2.2)),(a1,(a2,(5:Int))))
   else
   some ((a0.1,(a0.2.1,a0.2.2)),(a1,(a2,(0:Int))))
  else
  bif (!(a3==(List.cons 77 (List.nil:List UInt8)))) then
   bif (!(a3==(List.cons 90 (List.nil:List UInt8)))) then
    bif ((((List.length a2):Nat):Int)==(12:Int)) then
     some ((a0.1,(a0.2.1,a0.2.2)),(a1,(a2,(5:Int))))
    else
    some ((a0.1,(a0.2.1,a0.2.2)),(a1,(a2,(0:Int))))
   else
   some ((a0.1,(a0.2.1,a0.2.2)),(a1,(a2,(0:Int))))
  else
  some ((a0.1,(a0.2.1,a0.2.2)),(a1,(a2,(0:Int))))
 else
 bif (!(a3==(List.cons 77 (List.nil:List UInt8)))) then
  bif (!(a3==(List.cons 90 (List.nil:List UInt8)))) then
   bif ((((List.length a2):Nat):Int)==(12:Int)) then
    some ((a0.1,(a0.2.1,a0.2.2)),(a1,(a2,(5:Int))))
   else
   some ((a0.1,(a0.2.1,a0.2.2)),(a1,(a2,(0:Int))))
  else
  some ((a0.1,(a0.2.1,a0.2.2)),(a1,(a2,(0:Int))))
 else
 some ((a0.1,(a0.2.1,a0.2.2)),(a1,(a2,(0:Int))))
noncomputable def PS:Ent:=⟨J4,fun x=>Bq x.1 x.2.1 x.2.2.1 x.2.2.2⟩
noncomputable def Qb:TX:=⟨Ak,Ae,[],[4],[Dm],J4⟩
theorem Aj9 (a0:Tq23) (a1:List Tq19) (a2:List ((Int×Int))) (a3:List UInt8):wtF Qb Tryz.f154 (a0,a1,a2,a3)=Bq a0 a1 a2 a3:=by kernel_rfl
theorem Yw:Ai RR PS:=Aa (X:=Qb) ⟨AD,Af,AA⟩ (Ab (by exact ⟨⟨GY,rfl⟩,trivial⟩)) (Al (by kernel_rfl)) ⟨Tryz.func154,rfl,by kernel_rfl,rfl⟩ (fun x=>by exact Aj9 x.1 x.2.1 x.2.2.1 x.2.2.2)
noncomputable def Eh (a0:List UInt8) (a1:List UInt8):Option (Bool):=K9 a0 a1
noncomputable def Kp:Ent:=⟨JT,fun x=>Eh x.1 x.2⟩
theorem Rb:Ai RR Kp:=AK8 fun _ _ _ _ _ h=>Or.inr (Or.inr (Or.inl h))
noncomputable def Ko (a0:List UInt8):Option (Int×Bool):=ZC a0
noncomputable def O3:Ent:=⟨PP,fun x=>Ko x⟩
theorem YI:Ai RR O3:=A7L fun _ _ _ _ _ h=>Or.inr (Or.inr (Or.inr (Or.inl h)))
noncomputable def G9 (a0:Int):Option (Bool) :=
 ((Bk a0 (-(9999:Int)) (9999:Int))).bind fun x0 =>
 some x0
noncomputable def Uz:Ent:=⟨Nf,fun x=>G9 x⟩
noncomputable def U1:TX:=⟨Ak,Ae,[],[4],[HS],Nf⟩
theorem AJ4 (a0:Int):wtF U1 Tryz.f98 (a0)=G9 a0:=by kernel_rfl
theorem An8:Ai RR Uz:=Aa (X:=U1) ⟨AD,Af,AA⟩ (Ab (by exact ⟨⟨IY,rfl⟩,trivial⟩)) (Al (by kernel_rfl)) ⟨Tryz.func98,rfl,by kernel_rfl,rfl⟩ (fun x=>by exact AJ4 x)
noncomputable def Hw (a0:Int):Option (List UInt8):=ZW a0
noncomputable def PL:Ent:=⟨P8,fun x=>Hw x⟩
theorem YB:Ai RR PL:=A6e fun _ _ _ _ _ h=>Or.inr (Or.inr (Or.inr (Or.inr (h))))
noncomputable def Fi (a0:(List UInt8)):Option (Int×Bool) :=
 ((Ko a0)).bind fun x0 =>
 bif x0.2 then
  some ((0:Int),false)
 else
 ((G9 x0.1)).bind fun x1 =>
 bif (!x1) then
  some ((0:Int),false)
 else
 ((Hw x0.1)).bind fun x2 =>
 bif (!(x2==a0)) then
  some ((0:Int),false)
 else
 some (x0.1,true)
noncomputable def P5:Ent:=⟨Kd,fun x=>Fi x⟩
noncomputable def OX:TX:=⟨Ak,Ae,[],[4],[O3,Uz,PL],Kd⟩
theorem Ae1 (a0:List UInt8):wtF OX Tryz.f30 (a0)=Fi a0:=by kernel_rfl
theorem Yx:Ai RR P5:=Aa (X:=OX) ⟨AD,Af,AA⟩ (Ab (by exact ⟨⟨YI,rfl⟩,⟨⟨An8,rfl⟩,⟨⟨YB,rfl⟩,trivial⟩⟩⟩)) (Al (by kernel_rfl)) ⟨Tryz.func30,rfl,by kernel_rfl,rfl⟩ (fun x=>by exact Ae1 x)
noncomputable def Ep (a0:Tq21) (a1:(List Tq8)) (a2:Tq8):Option (Tq23×List Tq19×List ((Int×Int))×Int×Bool) :=
 bif (a0.2.1==(((List.length a0.1):Nat):Int)) then
  some ((a0.1,(a0.2.1,a0.2.2)),(a1,(a2,((0:Int),false))))
 else
 ((AQ a0.1 a0.2.1)).bind fun x0 =>
 ((Fi x0)).bind fun x1 =>
 bif x1.2 then
  some ((a0.1,((IntKind.wrap .i64 (a0.2.1 + (1:Int))),a0.2.2)),(a1,(a2,(x1.1,x1.2))))
 else
 some ((a0.1,(a0.2.1,a0.2.2)),(a1,(a2,(x1.1,x1.2))))
noncomputable def Om:Ent:=⟨IZ,fun x=>Ep x.1 x.2.1 x.2.2⟩
noncomputable def Ou:TX:=⟨Ak,Ae,[],[4],[P5],IZ⟩
theorem Yp (a0:Tq23) (a1:List Tq19) (a2:List ((Int×Int))):wtF Ou Tryz.f156 (a0,a1,a2)=Ep a0 a1 a2:=by kernel_rfl
theorem Vn:Ai RR Om:=Aa (X:=Ou) ⟨AD,Af,AA⟩ (Ab (by exact ⟨⟨Yx,rfl⟩,trivial⟩)) (Al (by kernel_rfl)) ⟨Tryz.func156,rfl,by kernel_rfl,rfl⟩ (fun x=>by exact Yp x.1 x.2.1 x.2.2)
noncomputable def Bg (a0:Tq21) (a1:(List Tq8)) (a2:Tq8) (a3:(List UInt8)) (a4:(List Int)):Option (Tq23×List Tq19×List ((Int×Int))×(Int×Int)) :=
 (bif decide ((((List.length a2):Nat):Int)>(0:Int)) then
   ((A8 (IntKind.wrap .i64 ((((List.length a2):Nat):Int)-(1:Int))) (List.length a2))).bind fun x0 =>
   ((A1 a2 x0)).bind fun x1 =>
   some (Sum.inr ((a0.1,(a0.2.1,a0.2.2)),(((0:Int),(0:Int)),((x1.1,x1.2),(a1,(a2,(a3,a4)))))))
  else
  some (Sum.inr ((a0.1,(a0.2.1,a0.2.2)),(((0:Int),(0:Int)),(((0:Int),(0:Int)),(a1,(a2,(a3,a4)))))))).bind fun x2 =>
 Sum.elim
  (fun x3 =>
  some x3)
  (fun x4 =>
  bif (x4.2.2.2.2.2.1==(List.cons 108 (List.nil:List UInt8))) then
   ((AQ x4.2.2.2.2.2.2 (0:Int))).bind fun x5 =>
   ((AQ x4.2.2.2.2.2.2 (1:Int))).bind fun x6 =>
   some ((x4.1.1,(x4.1.2.1,x4.1.2.2)),(x4.2.2.2.1,(x4.2.2.2.2.1,((IntKind.wrap .i64 (x4.2.2.1.1 + x5)),(IntKind.wrap .i64 (x4.2.2.1.2 + x6))))))
  else
  bif (x4.2.2.2.2.2.1==(List.cons 72 (List.nil:List UInt8))) then
   ((AQ x4.2.2.2.2.2.2 (0:Int))).bind fun x7 =>
   some ((x4.1.1,(x4.1.2.1,x4.1.2.2)),(x4.2.2.2.1,(x4.2.2.2.2.1,(x7,x4.2.2.1.2))))
  else
  bif (x4.2.2.2.2.2.1==(List.cons 86 (List.nil:List UInt8))) then
   ((AQ x4.2.2.2.2.2.2 (0:Int))).bind fun x8 =>
   some ((x4.1.1,(x4.1.2.1,x4.1.2.2)),(x4.2.2.2.1,(x4.2.2.2.2.1,(x4.2.2.1.1,x8))))
  else
  bif (x4.2.2.2.2.2.1==(List.cons 104 (List.nil:List UInt8))) then
   ((AQ x4.2.2.2.2.2.2 (0:Int))).bind fun x9 =>
   some ((x4.1.1,(x4.1.2.1,x4.1.2.2)),(x4.2.2.2.1,(x4.2.2.2.2.1,((IntKind.wrap .i64 (x4.2.2.1.1 + x9)),x4.2.2.1.2))))
  else
  bif (x4.2.2.2.2.2.1==(List.cons 118 (List.nil:List UInt8))) then
   ((AQ x4.2.2.2.2.2.2 (0:Int))).bind fun x10 =>
   some ((x4.1.1,(x4.1.2.1,x4.1.2.2)),(x4.2.2.2.1,(x4.2.2.2.2.1,(x4.2.2.1.1,(IntKind.wrap .i64 (x4.2.2.1.2 + x10))))))
  else
  ((AQ x4.2.2.2.2.2.2 (0:Int))).bind fun x11 =>
  ((AQ x4.2.2.2.2.2.2 (1:Int))).bind fun x12 =>
  some ((x4.1.1,(x4.1.2.1,x4.1.2.2)),(x4.2.2.2.1,(x4.2.2.2.2.1,(x11,x12)))))
  x2
noncomputable def Rz:Ent:=⟨LR,fun x=>Bg x.1 x.2.1 x.2.2.1 x.2.2.2.1 x.2.2.2.2⟩
noncomputable def Rs:TX:=⟨Ak,Ae,[],[4],[],LR⟩
theorem Ap5 (a0:Tq23) (a1:List Tq19) (a2:List ((Int×Int))) (a3:List UInt8) (a4:List (Int)):wtF Rs Tryz.f157 (a0,a1,a2,a3,a4)=Bg a0 a1 a2 a3 a4:=by kernel_rfl
theorem Zv:Ai RR Rz:=Aa (X:=Rs) ⟨AD,Af,AA⟩ (Ab (by exact trivial)) (Al (by kernel_rfl)) ⟨Tryz.func157,rfl,by kernel_rfl,rfl⟩ (fun x=>by exact Ap5 x.1 x.2.1 x.2.2.1 x.2.2.2.1 x.2.2.2.2)
noncomputable def H5 (a0:(Int×Int)):Option (Bool) :=
 ((Bk a0.1 (-(1000:Int)) (1000:Int))).bind fun x0 =>
 bif x0 then
  ((Bk a0.2 (-(1000:Int)) (1000:Int))).bind fun x1 =>
  some x1
 else
 some false
noncomputable def Ab7:Ent:=⟨SD,fun x=>H5 x⟩
noncomputable def Ab1:TX:=⟨Ak,Ae,[],[4],[HS],SD⟩
theorem A2Q (a0:(Int×Int)):wtF Ab1 Tryz.f104 (a0)=H5 a0:=by kernel_rfl
theorem AV6:Ai RR Ab7:=Aa (X:=Ab1) ⟨AD,Af,AA⟩ (Ab (by exact ⟨⟨IY,rfl⟩,trivial⟩)) (Al (by kernel_rfl)) ⟨Tryz.func104,rfl,by kernel_rfl,rfl⟩ (fun x=>by exact A2Q x)
noncomputable def Ee (s0:Tq21) (s1:(List Int)) (s2:(List Tq8)) (s3:Tq8) (s4:(List UInt8)) (s5:Int) (s6:Int):Option ((Tq21×((List Int)×((List Tq8)×(Tq8×Tq28)))) ⊕ ((Tq21×((List Int)×((List Tq8)×(Tq8×(List UInt8))))) ⊕ (Tq21×((List Tq8)×Tq34)))) :=
 bif decide (s6<s5) then
  ((Ep (s0.1,(s0.2.1,s0.2.2)) s2 s3)).bind fun x0 =>
  bif (!x0.2.2.2.2) then
   some (Sum.inr (Sum.inr ((x0.1.1,(x0.1.2.1,x0.1.2.2)),(x0.2.1,(x0.2.2.1,((3:Int),x0.1.2.1))))))
  else
  ((De 8 1 s1 (List.cons x0.2.2.2.1 (List.nil:List Int)))).bind fun x1 =>
  some (Sum.inl ((x0.1.1,(x0.1.2.1,x0.1.2.2)),(x1,(x0.2.1,(x0.2.2.1,(s4,(s5,(IntKind.wrap .i64 (s6 + (1:Int))))))))))
 else
 some (Sum.inr (Sum.inl ((s0.1,(s0.2.1,s0.2.2)),(s1,(s2,(s3,s4))))))
noncomputable def Az (a0:Tq21) (a1:(List Tq8)) (a2:Tq8):Option (Tq23×List Tq19×List ((Int×Int))×Int×Int) :=
 ((AQ a0.1 a0.2.1)).bind fun x0 =>
 ((Bq (a0.1,(a0.2.1,a0.2.2)) a1 a2 x0)).bind fun x1 =>
 bif (x1.2.2.2 != (0:Int)) then
  some ((x1.1.1,(x1.1.2.1,x1.1.2.2)),(x1.2.1,(x1.2.2.1,(x1.2.2.2,x1.1.2.1))))
 else
 bif (x0==(List.cons 90 (List.nil:List UInt8))) then
  ((De 24 1 x1.2.1 (List.cons x1.2.2.1 (List.nil:List Tq8)))).bind fun x2 =>
  some ((x1.1.1,((IntKind.wrap .i64 (x1.1.2.1 + (1:Int))),false)),(x2,((List.nil:List (Int×Int)),((0:Int),(0:Int)))))
 else
 (((Eh (List.cons 72 (List.cons 86 (List.cons 104 (List.cons 118 (List.nil:List UInt8))))) x0)).bind fun x3 =>
  bif x3 then
   some (Sum.inr ((x1.1.1,((IntKind.wrap .i64 (x1.1.2.1 + (1:Int))),x1.1.2.2)),(x1.2.1,(x1.2.2.1,(x0,(1:Int))))))
  else
  some (Sum.inr ((x1.1.1,((IntKind.wrap .i64 (x1.1.2.1 + (1:Int))),x1.1.2.2)),(x1.2.1,(x1.2.2.1,(x0,(2:Int))))))).bind fun x4 =>
 Sum.elim
  (fun x5 =>
  some x5)
  (fun x6 =>
  (Ah (fun (s:(Tq21×((List Int)×((List Tq8)×(Tq8×Tq28)))))=>Ee s.1 s.2.1 s.2.2.1 s.2.2.2.1 s.2.2.2.2.1 s.2.2.2.2.2.1 s.2.2.2.2.2.2) ((x6.1.1,(x6.1.2.1,x6.1.2.2)),((List.nil:List Int),(x6.2.1,(x6.2.2.1,(x6.2.2.2.1,(x6.2.2.2.2,(0:Int)))))))).bind fun x7 =>
  Sum.elim
   (fun x8 =>
   ((Bg (x8.1.1,(x8.1.2.1,x8.1.2.2)) x8.2.2.1 x8.2.2.2.1 x8.2.2.2.2 x8.2.1)).bind fun x9 =>
   ((H5 (x9.2.2.2.1,x9.2.2.2.2))).bind fun x10 =>
   bif (!x10) then
    some ((x9.1.1,(x9.1.2.1,x9.1.2.2)),(x9.2.1,(x9.2.2.1,((6:Int),(IntKind.wrap .i64 (x9.1.2.1-(1:Int)))))))
   else
   ((De 16 2 x9.2.2.1 (List.cons (x9.2.2.2.1,x9.2.2.2.2) (List.nil:List (Int×Int))))).bind fun x11 =>
   some ((x9.1.1,(x9.1.2.1,true)),(x9.2.1,(x11,((0:Int),(0:Int))))))
   (fun x12 =>
   some ((x12.1.1,(x12.1.2.1,x12.1.2.2)),(x12.2.1,(x12.2.2.1,(x12.2.2.2.1,x12.2.2.2.2)))))
   x7)
  x4
noncomputable def Mr:Ent:=⟨Ie,fun x=>Az x.1 x.2.1 x.2.2⟩
noncomputable def MF:TX:=⟨Ak,Ae,[],[4],[PS,Kp,Om,Rz,Ab7],Ie⟩
theorem V8 (a0:Tq23) (a1:List Tq19) (a2:List ((Int×Int))):wtF MF Tryz.f92 (a0,a1,a2)=Az a0 a1 a2:=by kernel_rfl
theorem TH:Ai RR Mr:=Aa (X:=MF) ⟨AD,Af,AA⟩ (Ab (by exact ⟨⟨Yw,rfl⟩,⟨⟨Rb,rfl⟩,⟨⟨Vn,rfl⟩,⟨⟨Zv,rfl⟩,⟨⟨AV6,rfl⟩,trivial⟩⟩⟩⟩⟩)) (Al (by kernel_rfl)) ⟨Tryz.func92,rfl,by kernel_rfl,rfl⟩ (fun x=>by exact V8 x.1 x.2.1 x.2.2)
noncomputable def Ew (s0:Tq21) (s1:(List Tq8)) (s2:Tq8):Option ((Tq21×((List Tq8)×Tq8)) ⊕ ((Tq21×((List Tq8)×Tq8)) ⊕ ((List Tq8)×(Int×(Int×Bool))))) :=
 bif decide (s0.2.1<(((List.length s0.1):Nat):Int)) then
  ((Az (s0.1,(s0.2.1,s0.2.2)) s1 s2)).bind fun x0 =>
  bif (x0.2.2.2.1 != (0:Int)) then
   some (Sum.inr (Sum.inr ((List.nil:List Tq8),(x0.2.2.2.1,(x0.2.2.2.2,false)))))
  else
  some (Sum.inl ((x0.1.1,(x0.1.2.1,x0.1.2.2)),(x0.2.1,x0.2.2.1)))
 else
 some (Sum.inr (Sum.inl ((s0.1,(s0.2.1,s0.2.2)),(s1,s2))))
noncomputable def FV (a0:(List UInt8)):Option (List Tq19×Int×Int×Bool) :=
 ((Bk (((List.length a0):Nat):Int) (1:Int) (400:Int))).bind fun x0 =>
 bif (!x0) then
  some ((List.nil:List Tq8),((1:Int),((0:Int),false)))
 else
 ((Ja a0 (List.cons 32 (List.nil:List UInt8)))).bind fun x1 =>
 (Ah (fun (s:(Tq21×((List Tq8)×Tq8)))=>Ew s.1 s.2.1 s.2.2) ((x1,((0:Int),false)),((List.nil:List Tq8),(List.nil:List (Int×Int))))).bind fun x2 =>
 Sum.elim
  (fun x3 =>
  bif x3.1.2.2 then
   some ((List.nil:List Tq8),((7:Int),((((List.length x3.1.1):Nat):Int),false)))
  else
  some (x3.2.1,((0:Int),((0:Int),true))))
  (fun x4 =>
  some (x4.1,(x4.2.1,(x4.2.2.1,x4.2.2.2))))
  x2
noncomputable def Rl:Ent:=⟨LY,fun x=>FV x⟩
noncomputable def Rj:TX:=⟨Ak,Ae,[],[4],[HS,Oq,Mr],LY⟩
theorem Am0 (a0:List UInt8):wtF Rj Tryz.f22 (a0)=FV a0:=by kernel_rfl
theorem Ai4:Ai RR Rl:=Aa (X:=Rj) ⟨AD,Af,AA⟩ (Ab (by exact ⟨⟨IY,rfl⟩,⟨⟨WM,rfl⟩,⟨⟨TH,rfl⟩,trivial⟩⟩⟩)) (Al (by kernel_rfl)) ⟨Tryz.func22,rfl,by kernel_rfl,rfl⟩ (fun x=>by exact Am0 x)
noncomputable def Da (a0:Tq5):Option (Bool) :=
 ((Bk a0.1 (-(20:Int)) (20:Int))).bind fun x0 =>
 bif x0 then
  ((Bk a0.2.1 (-(20:Int)) (20:Int))).bind fun x1 =>
  bif x1 then
   ((Bk a0.2.2.1 (1:Int) (8:Int))).bind fun x2 =>
   bif x2 then
    ((Bk a0.2.2.2 (1:Int) (8:Int))).bind fun x3 =>
    some x3
   else
   some false
  else
  some false
 else
 some false
noncomputable def Kg:Ent:=⟨JX,fun x=>Da x⟩
noncomputable def Pa:TX:=⟨Ak,Ae,[],[4],[HS],JX⟩
theorem Zb (a0:Tq22):wtF Pa Tryz.f58 (a0)=Da a0:=by kernel_rfl
theorem Oo:Ai RR Kg:=Aa (X:=Pa) ⟨AD,Af,AA⟩ (Ab (by exact ⟨⟨IY,rfl⟩,trivial⟩)) (Al (by kernel_rfl)) ⟨Tryz.func58,rfl,by kernel_rfl,rfl⟩ (fun x=>by exact Zb x)
noncomputable def Ly (s0:Tq7) (s1:(List Int)) (s2:Bool) (s3:Int):Option ((Tq7×((List Int)×(Bool×Int))) ⊕ (Tq7×((List Int)×Bool))) :=
 bif decide (s3>(0:Int)) then
  ((De 8 1 s1 (List.cons (IntKind.wrap .i64 (Int.tmod s3 (65536:Int))) (List.nil:List Int)))).bind fun x0 =>
  some (Sum.inl ((s0.1,s0.2),(x0,(s2,(IntKind.wrap .u64 (Int.tdiv s3 (65536:Int)))))))
 else
 some (Sum.inr ((s0.1,s0.2),(s1,s2)))
noncomputable def Dj (a0:Int):Option (Tq10) :=
 (bif decide (a0<(0:Int)) then
   some (Sum.inr ((false,(List.nil:List Int)),(decide (a0<(0:Int)),(IntKind.wrap .u64 ((0:Int)-(IntKind.wrap .u64 a0))))))
  else
  some (Sum.inr ((false,(List.nil:List Int)),(decide (a0<(0:Int)),(IntKind.wrap .u64 a0))))).bind fun x0 =>
 Sum.elim
  (fun x1 =>
  some x1)
  (fun x2 =>
  (Ah (fun (s:(Tq7×((List Int)×(Bool×Int))))=>Ly s.1 s.2.1 s.2.2.1 s.2.2.2) ((x2.1.1,x2.1.2),((List.nil:List Int),(x2.2.1,x2.2.2)))).bind fun x3 =>
  some (x3.2.2,x3.2.1))
  x0
noncomputable def JK:Ent:=⟨Vv,fun x=>Dj x⟩
noncomputable def AB3:TX:=⟨Ak,Ae,[],[4],[],Vv⟩
theorem A5t (a0:Int):wtF AB3 Tryz.f137 (a0)=Dj a0:=by kernel_rfl
theorem Kj:Ai RR JK:=Aa (X:=AB3) ⟨AD,Af,AA⟩ (Ab (by exact trivial)) (Al (by kernel_rfl)) ⟨Tryz.func137,rfl,by kernel_rfl,rfl⟩ (fun x=>by exact A5t x)
noncomputable def Bc (a0:Int):Option (Tq3) :=
 ((Dj a0)).bind fun x0 =>
 ((Dj (1:Int))).bind fun x1 =>
 some (x0.1,(x0.2,(x1.1,x1.2)))
noncomputable def GL:Ent:=⟨WL,fun x=>Bc x⟩
noncomputable def As7:TX:=⟨Ak,Ae,[],[4],[JK],WL⟩
theorem A4t (a0:Int):wtF As7 Tryz.f73 (a0)=Bc a0:=by kernel_rfl
theorem Gh:Ai RR GL:=Aa (X:=As7) ⟨AD,Af,AA⟩ (Ab (by exact ⟨⟨Kj,rfl⟩,trivial⟩)) (Al (by kernel_rfl)) ⟨Tryz.func73,rfl,by kernel_rfl,rfl⟩ (fun x=>by exact A4t x)
noncomputable def Dv (s0:Tq6) (s1:Tq8) (s2:Int) (s3:Int):Option ((Tq6×Tq34) ⊕ Tq6) :=
 bif decide (s3<s2) then
  ((AQ s1 s3)).bind fun x0 =>
  ((Bc x0.1)).bind fun x1 =>
  ((Bc x0.2)).bind fun x2 =>
  ((De 128 8 s0 (List.cons (((x1.1,x1.2.1),(x1.2.2.1,x1.2.2.2)),((x2.1,x2.2.1),(x2.2.2.1,x2.2.2.2))) (List.nil:List (Tq0×Tq0))))).bind fun x3 =>
  some (Sum.inl (x3,(s1,(s2,(IntKind.wrap .i64 (s3 + (1:Int)))))))
 else
 some (Sum.inr s0)
noncomputable def JY (a0:Tq8):Option (List Tq2) :=
 (Ah (fun (s:(Tq6×Tq34))=>Dv s.1 s.2.1 s.2.2.1 s.2.2.2) ((List.nil:List (Tq0×Tq0)),(a0,((((List.length a0):Nat):Int),(0:Int))))).bind fun x0 =>
 some x0
noncomputable def Z6:Ent:=⟨R7,fun x=>JY x⟩
noncomputable def Ad2:TX:=⟨Ak,Ae,[],[4],[GL],R7⟩
theorem A2G (a0:List ((Int×Int))):wtF Ad2 Tryz.f76 (a0)=JY a0:=by kernel_rfl
theorem A0L:Ai RR Z6:=Aa (X:=Ad2) ⟨AD,Af,AA⟩ (Ab (by exact ⟨⟨Gh,rfl⟩,trivial⟩)) (Al (by kernel_rfl)) ⟨Tryz.func76,rfl,by kernel_rfl,rfl⟩ (fun x=>by exact A2G x)
noncomputable def FY (a0:Int):Option (Bool) :=
 ((Bk a0 (0:Int) (65535:Int))).bind fun x0 =>
 some (!x0)
noncomputable def Rv:Ent:=⟨LX,fun x=>FY x⟩
noncomputable def Rr:TX:=⟨Ak,Ae,[],[4],[HS],LX⟩
theorem Aq1 (a0:Int):wtF Rr Tryz.f293 (a0)=FY a0:=by kernel_rfl
theorem Ab0:Ai RR Rv:=Aa (X:=Rr) ⟨AD,Af,AA⟩ (Ab (by exact ⟨⟨IY,rfl⟩,trivial⟩)) (Al (by kernel_rfl)) ⟨Tryz.func293,rfl,by kernel_rfl,rfl⟩ (fun x=>by exact Aq1 x)
noncomputable def Bh (s0:(List Int)) (s1:Int) (s2:Int):Option (Tq11 ⊕ (Unit ⊕ Int)) :=
 bif decide (s2<s1) then
  ((AQ s0 s2)).bind fun x0 =>
  ((FY x0)).bind fun x1 =>
  bif x1 then
   some (Sum.inr (Sum.inr s2))
  else
  some (Sum.inl (s0,(s1,(IntKind.wrap .i64 (s2 + (1:Int))))))
 else
 some (Sum.inr (Sum.inl ()))
noncomputable def B3 (a0:(List Int)):Option (Int) :=
 (Ah (fun (s:Tq11)=>Bh s.1 s.2.1 s.2.2) (a0,((((List.length a0):Nat):Int),(0:Int)))).bind fun x0 =>
 Sum.elim
  (fun x1 =>
  some (-(1:Int)))
  (fun x2 =>
  some x2)
  x0
noncomputable def EL:Ent:=⟨CQ,fun x=>B3 x⟩
noncomputable def ET:TX:=⟨Ak,Ae,[],[4],[Rv],CQ⟩
theorem Jm (a0:List (Int)):wtF ET Tryz.f233 (a0)=B3 a0:=by kernel_rfl
theorem I8:Ai RR EL:=Aa (X:=ET) ⟨AD,Af,AA⟩ (Ab (by exact ⟨⟨Ab0,rfl⟩,trivial⟩)) (Al (by kernel_rfl)) ⟨Tryz.func233,rfl,by kernel_rfl,rfl⟩ (fun x=>by exact Jm x)
noncomputable def AJ (a0:(List Int)):Option (Bool) :=
 ((B3 a0)).bind fun x0 =>
 some (decide (x0>=(0:Int)))
noncomputable def DX:Ent:=⟨Ct,fun x=>AJ x⟩
noncomputable def DS:TX:=⟨Ak,Ae,[],[4],[EL],Ct⟩
theorem HU (a0:List (Int)):wtF DS Tryz.f180 (a0)=AJ a0:=by kernel_rfl
theorem HG:Ai RR DX:=Aa (X:=DS) ⟨AD,Af,AA⟩ (Ab (by exact ⟨⟨I8,rfl⟩,trivial⟩)) (Al (by kernel_rfl)) ⟨Tryz.func180,rfl,by kernel_rfl,rfl⟩ (fun x=>by exact HU x)
noncomputable def GX (a0:Tq7):Option (Bool) :=
 bif decide ((((List.length a0.2):Nat):Int)>(40:Int)) then
  some false
 else
 bif ((((List.length a0.2):Nat):Int)==(0:Int)) then
  bif a0.1 then
   some false
  else
  bif decide ((((List.length a0.2):Nat):Int)>(0:Int)) then
   ((AQ a0.2 (IntKind.wrap .i64 ((((List.length a0.2):Nat):Int)-(1:Int))))).bind fun x0 =>
   bif (x0==(0:Int)) then
    some false
   else
   ((AJ a0.2)).bind fun x1 =>
   some (!x1)
  else
  ((AJ a0.2)).bind fun x2 =>
  some (!x2)
 else
 bif decide ((((List.length a0.2):Nat):Int)>(0:Int)) then
  ((AQ a0.2 (IntKind.wrap .i64 ((((List.length a0.2):Nat):Int)-(1:Int))))).bind fun x3 =>
  bif (x3==(0:Int)) then
   some false
  else
  ((AJ a0.2)).bind fun x4 =>
  some (!x4)
 else
 ((AJ a0.2)).bind fun x5 =>
 some (!x5)
noncomputable def PT:Ent:=⟨OS,fun x=>GX x⟩
noncomputable def Xi:TX:=⟨Ak,Ae,[],[4],[DX],OS⟩
theorem AZ5 (a0:Tq10):wtF Xi Tryz.f265 (a0)=GX a0:=by kernel_rfl
theorem U6:Ai RR PT:=Aa (X:=Xi) ⟨AD,Af,AA⟩ (Ab (by exact ⟨⟨HG,rfl⟩,trivial⟩)) (Al (by kernel_rfl)) ⟨Tryz.func265,rfl,by kernel_rfl,rfl⟩ (fun x=>by exact AZ5 x)
noncomputable def Hy (a0:Tq7):Option (Bool) :=
 ((GX (a0.1,a0.2))).bind fun x0 =>
 some (!x0)
noncomputable def T3:Ent:=⟨MX,fun x=>Hy x⟩
noncomputable def TL:TX:=⟨Ak,Ae,[],[4],[PT],MX⟩
theorem AC2 (a0:Tq10):wtF TL Tryz.f278 (a0)=Hy a0:=by kernel_rfl
theorem Ap0:Ai RR T3:=Aa (X:=TL) ⟨AD,Af,AA⟩ (Ab (by exact ⟨⟨U6,rfl⟩,trivial⟩)) (Al (by kernel_rfl)) ⟨Tryz.func278,rfl,by kernel_rfl,rfl⟩ (fun x=>by exact AC2 x)
noncomputable def A0 (s0:(List Tq7)) (s1:Int) (s2:Int):Option (((List Tq7)×(Int×Int)) ⊕ (Unit ⊕ Int)) :=
 bif decide (s2<s1) then
  ((AQ s0 s2)).bind fun x0 =>
  ((Hy (x0.1,x0.2))).bind fun x1 =>
  bif x1 then
   some (Sum.inr (Sum.inr s2))
  else
  some (Sum.inl (s0,(s1,(IntKind.wrap .i64 (s2 + (1:Int))))))
 else
 some (Sum.inr (Sum.inl ()))
noncomputable def Bu (a0:(List Tq7)):Option (Int) :=
 (Ah (fun (s:((List Tq7)×(Int×Int)))=>A0 s.1 s.2.1 s.2.2) (a0,((((List.length a0):Nat):Int),(0:Int)))).bind fun x0 =>
 Sum.elim
  (fun x1 =>
  some (-(1:Int)))
  (fun x2 =>
  some x2)
  x0
noncomputable def DC:Ent:=⟨Cl,fun x=>Bu x⟩
noncomputable def DH:TX:=⟨Ak,Ae,[],[4],[T3],Cl⟩
theorem HJ (a0:List (Tq10)):wtF DH Tryz.f302 (a0)=Bu a0:=by kernel_rfl
theorem G7:Ai RR DC:=Aa (X:=DH) ⟨AD,Af,AA⟩ (Ab (by exact ⟨⟨Ap0,rfl⟩,trivial⟩)) (Al (by kernel_rfl)) ⟨Tryz.func302,rfl,by kernel_rfl,rfl⟩ (fun x=>by exact HJ x)
noncomputable def Bl (a0:(List Tq7)):Option (Bool) :=
 ((Bu a0)).bind fun x0 =>
 some (decide (x0>=(0:Int)))
noncomputable def C2:Ent:=⟨BV,fun x=>Bl x⟩
noncomputable def Db:TX:=⟨Ak,Ae,[],[4],[DC],BV⟩
theorem Gm (a0:List (Tq10)):wtF Db Tryz.f277 (a0)=Bl a0:=by kernel_rfl
theorem F8:Ai RR C2:=Aa (X:=Db) ⟨AD,Af,AA⟩ (Ab (by exact ⟨⟨G7,rfl⟩,trivial⟩)) (Al (by kernel_rfl)) ⟨Tryz.func277,rfl,by kernel_rfl,rfl⟩ (fun x=>by exact Gm x)
noncomputable def Ic (a0:(List Tq7)):Option (Bool) :=
 ((Bl a0)).bind fun x0 =>
 some (!x0)
noncomputable def Ag3:Ent:=⟨Sw,fun x=>Ic x⟩
noncomputable def Ad8:TX:=⟨Ak,Ae,[],[4],[C2],Sw⟩
theorem A2J (a0:List (Tq10)):wtF Ad8 Tryz.f234 (a0)=Ic a0:=by kernel_rfl
theorem AZ4:Ai RR Ag3:=Aa (X:=Ad8) ⟨AD,Af,AA⟩ (Ab (by exact ⟨⟨F8,rfl⟩,trivial⟩)) (Al (by kernel_rfl)) ⟨Tryz.func234,rfl,by kernel_rfl,rfl⟩ (fun x=>by exact A2J x)
noncomputable def BH (a0:Tq7):Option (Int) :=
 bif ((((List.length a0.2):Nat):Int)==(0:Int)) then
  some (0:Int)
 else
 bif a0.1 then
  some (-(1:Int))
 else
 some (1:Int)
noncomputable def Jq:Ent:=⟨Ny,fun x=>BH x⟩
noncomputable def U7:TX:=⟨Ak,Ae,[],[4],[],Ny⟩
theorem AK2 (a0:Tq10):wtF U7 Tryz.f235 (a0)=BH a0:=by kernel_rfl
theorem LN:Ai RR Jq:=Aa (X:=U7) ⟨AD,Af,AA⟩ (Ab (by exact trivial)) (Al (by kernel_rfl)) ⟨Tryz.func235,rfl,by kernel_rfl,rfl⟩ (fun x=>by exact AK2 x)
noncomputable def Er (a0:Int):Option (Bool) :=
 some (a0 != a0)
noncomputable def Oi:Ent:=⟨Jb,fun x=>Er x⟩
noncomputable def Og:TX:=⟨Ak,Ae,[],[4],[],Jb⟩
theorem YG (a0:Int):wtF Og Tryz.f284 (a0)=Er a0:=by kernel_rfl
theorem VK:Ai RR Oi:=Aa (X:=Og) ⟨AD,Af,AA⟩ (Ab (by exact trivial)) (Al (by kernel_rfl)) ⟨Tryz.func284,rfl,by kernel_rfl,rfl⟩ (fun x=>by exact YG x)
noncomputable def B6 (a0:Int) (a1:Int):Option (Int) :=
 ((Er a0)).bind fun x0 =>
 ((Er a1)).bind fun x1 =>
 bif x0 then
  bif x1 then
   some (0:Int)
  else
  some (-(1:Int))
 else
 bif x1 then
  some (1:Int)
 else
 bif decide (a0<a1) then
  some (-(1:Int))
 else
 bif decide (a0>a1) then
  some (1:Int)
 else
 some (0:Int)
noncomputable def Hu:Ent:=⟨HE,fun x=>B6 x.1 x.2⟩
noncomputable def LA:TX:=⟨Ak,Ae,[],[4],[Oi],HE⟩
theorem Tq (a0:Int) (a1:Int):wtF LA Tryz.f248 (a0,a1)=B6 a0 a1:=by kernel_rfl
theorem J1:Ai RR Hu:=Aa (X:=LA) ⟨AD,Af,AA⟩ (Ab (by exact ⟨⟨VK,rfl⟩,trivial⟩)) (Al (by kernel_rfl)) ⟨Tryz.func248,rfl,by kernel_rfl,rfl⟩ (fun x=>by exact Tq x.1 x.2)
noncomputable def Bm (s0:(List Int)) (s1:(List Int)) (s2:Int):Option (Tq17 ⊕ (Unit ⊕ Int)) :=
 bif decide (s2>=(0:Int)) then
  ((AQ s0 s2)).bind fun x0 =>
  ((AQ s1 s2)).bind fun x1 =>
  bif (x0 != x1) then
   ((AQ s0 s2)).bind fun x2 =>
   ((AQ s1 s2)).bind fun x3 =>
   ((B6 x2 x3)).bind fun x4 =>
   some (Sum.inr (Sum.inr x4))
  else
  some (Sum.inl (s0,(s1,(IntKind.wrap .i64 (s2-(1:Int))))))
 else
 some (Sum.inr (Sum.inl ()))
noncomputable def BG (a0:(List Int)) (a1:(List Int)):Option (Int) :=
 bif ((((List.length a0):Nat):Int) != (((List.length a1):Nat):Int)) then
  ((B6 (((List.length a0):Nat):Int) (((List.length a1):Nat):Int))).bind fun x0 =>
  some x0
 else
 (Ah (fun (s:Tq17)=>Bm s.1 s.2.1 s.2.2) (a0,(a1,(IntKind.wrap .i64 ((((List.length a0):Nat):Int)-(1:Int)))))).bind fun x1 =>
 Sum.elim
  (fun x2 =>
  some (0:Int))
  (fun x3 =>
  some x3)
  x1
noncomputable def D2:Ent:=⟨Ih,fun x=>BG x.1 x.2⟩
noncomputable def Mk:TX:=⟨Ak,Ae,[],[4],[Hu],Ih⟩
theorem VI (a0:List (Int)) (a1:List (Int)):wtF Mk Tryz.f195 (a0,a1)=BG a0 a1:=by kernel_rfl
theorem ER:Ai RR D2:=Aa (X:=Mk) ⟨AD,Af,AA⟩ (Ab (by exact ⟨⟨J1,rfl⟩,trivial⟩)) (Al (by kernel_rfl)) ⟨Tryz.func195,rfl,by kernel_rfl,rfl⟩ (fun x=>by exact VI x.1 x.2)
noncomputable def QE (s0:(List Int)) (s1:Int):Option (Tq33 ⊕ Tq33) :=
 bif decide (s1>(0:Int)) then
  ((AQ s0 (IntKind.wrap .i64 (s1-(1:Int))))).bind fun x0 =>
  bif (x0==(0:Int)) then
   some (Sum.inl (s0,(IntKind.wrap .i64 (s1-(1:Int)))))
  else
  some (Sum.inr (s0,s1))
 else
 some (Sum.inr (s0,s1))
noncomputable def Ix (a0:(List Int)):Option (List (Int)) :=
 (Ah (fun (s:Tq33)=>QE s.1 s.2) (a0,(((List.length a0):Nat):Int))).bind fun x0 =>
 ((LL (0:Int) x0.2 (List.length x0.1))).bind fun x1 =>
 some (List.drop x1.1 (List.take x1.2 x0.1))
noncomputable def UX:Ent:=⟨AC7,fun x=>Ix x⟩
noncomputable def A3i:TX:=⟨Ak,Ae,[],[4],[],AC7⟩
theorem A8P (a0:List (Int)):wtF A3i Tryz.f247 (a0)=Ix a0:=by kernel_rfl
theorem TY:Ai RR UX:=Aa (X:=A3i) ⟨AD,Af,AA⟩ (Ab (by exact trivial)) (Al (by kernel_rfl)) ⟨Tryz.func247,rfl,by kernel_rfl,rfl⟩ (fun x=>by exact A8P x)
noncomputable def Fs (s0:(List Int)) (s1:(List Int)) (s2:Int) (s3:Int) (s4:Int):Option (Tq12 ⊕ Tq33) :=
 bif decide (s4>=(0:Int)) then
  ((AQ s1 s4)).bind fun x0 =>
  bif (s2==(0:Int)) then
   none
  else
  ((A8 s4 (List.length s0))).bind fun x1 =>
  ((A1 s0 x1)).bind fun x2 =>
  bif (s2==(0:Int)) then
   none
  else
  some (Sum.inl ((List.set s0 x1 (IntKind.wrap .i64 (Int.tdiv (IntKind.wrap .i64 ((IntKind.wrap .i64 (s3*(65536:Int))) + x0)) s2))),(s1,(s2,((Int.tmod (IntKind.wrap .i64 ((IntKind.wrap .i64 (s3*(65536:Int))) + x0)) s2),(IntKind.wrap .i64 (s4-(1:Int))))))))
 else
 some (Sum.inr (s0,s3))
noncomputable def FL (a0:(List Int)) (a1:Int):Option (List (Int)×Int) :=
 ((Re (((List.length a0):Nat):Int) 8 1)).bind fun x0 =>
 (Ah (fun (s:Tq12)=>Fs s.1 s.2.1 s.2.2.1 s.2.2.2.1 s.2.2.2.2) ((List.replicate x0 (0:Int)),(a0,(a1,((0:Int),(IntKind.wrap .i64 ((((List.length a0):Nat):Int)-(1:Int)))))))).bind fun x1 =>
 ((Ix x1.1)).bind fun x2 =>
 some (x2,x1.2)
noncomputable def Uq:Ent:=⟨M6,fun x=>FL x.1 x.2⟩
noncomputable def Uf:TX:=⟨Ak,Ae,[],[4],[UX],M6⟩
theorem AE6 (a0:List (Int)) (a1:Int):wtF Uf Tryz.f283 (a0,a1)=FL a0 a1:=by kernel_rfl
theorem Aq4:Ai RR Uq:=Aa (X:=Uf) ⟨AD,Af,AA⟩ (Ab (by exact ⟨⟨TY,rfl⟩,trivial⟩)) (Al (by kernel_rfl)) ⟨Tryz.func283,rfl,by kernel_rfl,rfl⟩ (fun x=>by exact AE6 x.1 x.2)
noncomputable def Cc (a0:(List Int)):Option (List (Int)) :=
 ((neL a0)).bind fun x0 =>
 bif (AA3 (List.length a0) 8 1) then
  some a0
 else
 none
noncomputable def JW:Ent:=⟨BY,fun x=>Cc x⟩
noncomputable def Gz:TX:=⟨Ak,Ae,[],[4],[],BY⟩
theorem Me (a0:List (Int)):wtF Gz Tryz.f246 a0=Cc a0:=by kernel_rfl
theorem Lk:Ai (He Tryz.prog cfC Ba0) JW:=Aa (X:=Gz) ⟨AD,Af,AA⟩ (A7y rfl) (Al (by kernel_rfl)) ⟨Tryz.func246,rfl,by kernel_rfl,rfl⟩ (fun x=>by exact Me x)
noncomputable def BW (a0:List (Int)):Option (List (Int)):=A7s Cc a0
noncomputable def DJ:Ent:=⟨BY,fun x=>BW x⟩
theorem FT:Ai RR DJ:=A1x Lk (.head _) fun _ _ _ _ _ h=>Or.inl h
noncomputable def Bj (a0:Bool) (a1:(List Int)):Option (List (Int)×(Bool)) :=
 ((Ix a1)).bind fun x0 =>
 ((BW x0)).bind fun x1 =>
 bif a0 then
  some (x1,decide ((((List.length x1):Nat):Int)>(0:Int)))
 else
 some (x1,false)
noncomputable def DP:Ent:=⟨V4,fun x=>Bj x.1 x.2⟩
noncomputable def Ay9:TX:=⟨Ak,Ae,[],[4],[UX,DJ],V4⟩
theorem A4P (a0:Bool) (a1:List (Int)):wtF Ay9 Tryz.f193 (a0,a1)=Bj a0 a1:=by kernel_rfl
theorem Dx:Ai RR DP:=Aa (X:=Ay9) ⟨AD,Af,AA⟩ (Ab (by exact ⟨⟨TY,rfl⟩,⟨⟨FT,rfl⟩,trivial⟩⟩)) (Al (by kernel_rfl)) ⟨Tryz.func193,rfl,by kernel_rfl,rfl⟩ (fun x=>by exact A4P x.1 x.2)
noncomputable def F2 (s0:Tq7) (s1:Tq7) (s2:Tq7) (s3:(List Int)) (s4:Int) (s5:Int) (s6:Int) (s7:(List Int)) (s8:Int) (s9:Int) (s10:(List Int)) (s11:Int) (s12:Int):Option (Tq32 ⊕ (Tq7×(Tq7×(Tq7×((List Int)×(Int×(Int×Tq11))))))) :=
 bif decide (s12<s11) then
  ((AQ s10 s12)).bind fun x0 =>
  ((A8 (IntKind.wrap .i64 (s4 + s12)) (List.length s3))).bind fun x1 =>
  ((A1 s3 x1)).bind fun x2 =>
  ((A8 (IntKind.wrap .i64 (s4 + s12)) (List.length s3))).bind fun x3 =>
  ((A1 s3 x3)).bind fun x4 =>
  some (Sum.inl ((s0.1,s0.2),((s1.1,s1.2),((s2.1,s2.2),((List.set s3 x3 (Int.tmod (IntKind.wrap .i64 (s6 + (IntKind.wrap .i64 (x2 + (IntKind.wrap .i64 (s5*x0)))))) (65536:Int))),(s4,(s5,((IntKind.wrap .i64 (Int.tdiv (IntKind.wrap .i64 (s6 + (IntKind.wrap .i64 (x2 + (IntKind.wrap .i64 (s5*x0)))))) (65536:Int))),(s7,(s8,(s9,(s10,(s11,(IntKind.wrap .i64 (s12 + (1:Int))))))))))))))))
 else
 some (Sum.inr ((s0.1,s0.2),((s1.1,s1.2),((s2.1,s2.2),(s3,(s4,(s6,(s7,(s8,s9)))))))))
noncomputable def Il (s0:Tq7) (s1:Tq7) (s2:Tq7) (s3:(List Int)) (s4:(List Int)) (s5:Int) (s6:Int):Option ((Tq7×(Tq7×(Tq7×((List Int)×Tq11)))) ⊕ (Tq7×(Tq7×(Tq7×(List Int))))) :=
 bif decide (s6<s5) then
  ((AQ s4 s6)).bind fun x0 =>
  (Ah (fun (s:Tq32)=>F2 s.1 s.2.1 s.2.2.1 s.2.2.2.1 s.2.2.2.2.1 s.2.2.2.2.2.1 s.2.2.2.2.2.2.1 s.2.2.2.2.2.2.2.1 s.2.2.2.2.2.2.2.2.1 s.2.2.2.2.2.2.2.2.2.1 s.2.2.2.2.2.2.2.2.2.2.1 s.2.2.2.2.2.2.2.2.2.2.2.1 s.2.2.2.2.2.2.2.2.2.2.2.2) ((s0.1,s0.2),((s1.1,s1.2),((s2.1,s2.2),(s3,(s6,(x0,((0:Int),(s4,(s5,(s6,(s1.2,((((List.length s1.2):Nat):Int),(0:Int)))))))))))))).bind fun x1 =>
  ((A8 (IntKind.wrap .i64 (x1.2.2.2.2.1 + (((List.length x1.2.1.2):Nat):Int))) (List.length x1.2.2.2.1))).bind fun x2 =>
  ((A1 x1.2.2.2.1 x2)).bind fun x3 =>
  ((A8 (IntKind.wrap .i64 (x1.2.2.2.2.1 + (((List.length x1.2.1.2):Nat):Int))) (List.length x1.2.2.2.1))).bind fun x4 =>
  ((A1 x1.2.2.2.1 x4)).bind fun x5 =>
  some (Sum.inl ((x1.1.1,x1.1.2),((x1.2.1.1,x1.2.1.2),((x1.2.2.1.1,x1.2.2.1.2),((List.set x1.2.2.2.1 x4 (IntKind.wrap .i64 (x3 + x1.2.2.2.2.2.1))),(x1.2.2.2.2.2.2.1,(x1.2.2.2.2.2.2.2.1,(IntKind.wrap .i64 (x1.2.2.2.2.2.2.2.2 + (1:Int))))))))))
 else
 some (Sum.inr ((s0.1,s0.2),((s1.1,s1.2),((s2.1,s2.2),s3))))
noncomputable def BE (a0:Tq7) (a1:Tq7):Option (List (Int)×(Bool)) :=
 ((Re (IntKind.wrap .i64 ((((List.length a0.2):Nat):Int) + (((List.length a1.2):Nat):Int))) 8 1)).bind fun x0 =>
 (Ah (fun (s:(Tq7×(Tq7×(Tq7×((List Int)×Tq11)))))=>Il s.1 s.2.1 s.2.2.1 s.2.2.2.1 s.2.2.2.2.1 s.2.2.2.2.2.1 s.2.2.2.2.2.2) ((a0.1,a0.2),((a1.1,a1.2),((false,(List.nil:List Int)),((List.replicate x0 (0:Int)),(a0.2,((((List.length a0.2):Nat):Int),(0:Int)))))))).bind fun x1 =>
 ((Bj (!(x1.1.1==x1.2.1.1)) x1.2.2.2)).bind fun x2 =>
 some (x2.1,x2.2)
noncomputable def GS:Ent:=⟨Qn,fun x=>BE x.1 x.2⟩
noncomputable def WO:TX:=⟨Ak,Ae,[],[4],[DP],Qn⟩
theorem AV1 (a0:Tq10) (a1:Tq10):wtF WO Tryz.f139 (a0,a1)=BE a0 a1:=by kernel_rfl
theorem Hj:Ai RR GS:=Aa (X:=WO) ⟨AD,Af,AA⟩ (Ab (by exact ⟨⟨Dx,rfl⟩,trivial⟩)) (Al (by kernel_rfl)) ⟨Tryz.func139,rfl,by kernel_rfl,rfl⟩ (fun x=>by exact AV1 x.1 x.2)
noncomputable def OF (s0:(List Int)) (s1:(List Int)) (s2:(List Int)) (s3:Int) (s4:Int):Option (Tq15 ⊕ ((List Int)×Tq11)) :=
 bif decide ((((List.length s0):Nat):Int)<(IntKind.wrap .i64 ((((List.length s2):Nat):Int) + (1:Int)))) then
  ((De 8 1 s0 (List.cons (0:Int) (List.nil:List Int)))).bind fun x0 =>
  some (Sum.inl (x0,(s1,(s2,(s3,s4)))))
 else
 some (Sum.inr (s0,(s1,(s3,s4))))
noncomputable def C8 (s0:(List Int)) (s1:(List Int)) (s2:(List Int)) (s3:Int) (s4:Int) (s5:Int) (s6:Int) (s7:Int):Option (Tq25 ⊕ ((List Int)×Tq29)) :=
 (bif decide (s6>=(65536:Int)) then
   some (Sum.inr (s0,(s1,(s2,(s3,(s4,(s5,(s6,s7))))))))
  else
  bif decide (s7<(65536:Int)) then
   ((A8 (IntKind.wrap .i64 (s3-(2:Int))) (List.length s1))).bind fun x0 =>
   ((A1 s1 x0)).bind fun x1 =>
   ((A8 (IntKind.wrap .i64 ((IntKind.wrap .i64 (s5 + s3))-(2:Int))) (List.length s0))).bind fun x2 =>
   ((A1 s0 x2)).bind fun x3 =>
   bif decide ((IntKind.wrap .i64 (s6*x1))>(IntKind.wrap .i64 ((IntKind.wrap .i64 (s7*(65536:Int))) + x3))) then
    some (Sum.inr (s0,(s1,(s2,(s3,(s4,(s5,(s6,s7))))))))
   else
   some (Sum.inl (Sum.inr (s0,(s1,(s2,(s3,(s4,(s5,s6))))))))
  else
  some (Sum.inl (Sum.inr (s0,(s1,(s2,(s3,(s4,(s5,s6))))))))).bind fun x4 =>
 Sum.elim
  (fun x5 =>
  some x5)
  (fun x6 =>
  ((A8 (IntKind.wrap .i64 (x6.2.2.2.1-(1:Int))) (List.length x6.2.1))).bind fun x7 =>
  ((A1 x6.2.1 x7)).bind fun x8 =>
  some (Sum.inl (x6.1,(x6.2.1,(x6.2.2.1,(x6.2.2.2.1,(x6.2.2.2.2.1,(x6.2.2.2.2.2.1,((IntKind.wrap .i64 (x6.2.2.2.2.2.2.1-(1:Int))),(IntKind.wrap .i64 (x6.2.2.2.2.2.2.2 + x8)))))))))))
  x4
noncomputable def EY (s0:(List Int)) (s1:(List Int)) (s2:(List Int)) (s3:Int) (s4:Int) (s5:Int) (s6:Int) (s7:Int) (s8:Int) (s9:Int):Option (Tq20 ⊕ Tq25) :=
 bif decide (s9<s8) then
  ((A8 (IntKind.wrap .i64 (s5 + s9)) (List.length s0))).bind fun x0 =>
  ((A1 s0 x0)).bind fun x1 =>
  ((A8 s9 (List.length s1))).bind fun x2 =>
  ((A1 s1 x2)).bind fun x3 =>
  (bif decide ((IntKind.wrap .i64 ((IntKind.wrap .i64 (x1-(IntKind.wrap .i64 (s6*x3))))-s7))<(0:Int)) then
    some (Sum.inr (s0,(s1,(s2,(s3,(s4,(s5,(s6,((IntKind.wrap .i64 (Int.tdiv (IntKind.wrap .i64 ((IntKind.wrap .i64 ((IntKind.wrap .i64 ((0:Int)-(IntKind.wrap .i64 ((IntKind.wrap .i64 (x1-(IntKind.wrap .i64 (s6*x3))))-s7)))) + (65536:Int)))-(1:Int))) (65536:Int))),(s9,((IntKind.wrap .i64 ((IntKind.wrap .i64 ((IntKind.wrap .i64 (x1-(IntKind.wrap .i64 (s6*x3))))-s7)) + (IntKind.wrap .i64 ((IntKind.wrap .i64 (Int.tdiv (IntKind.wrap .i64 ((IntKind.wrap .i64 ((IntKind.wrap .i64 ((0:Int)-(IntKind.wrap .i64 ((IntKind.wrap .i64 (x1-(IntKind.wrap .i64 (s6*x3))))-s7)))) + (65536:Int)))-(1:Int))) (65536:Int)))*(65536:Int))))),(s8,s9))))))))))))
   else
   some (Sum.inr (s0,(s1,(s2,(s3,(s4,(s5,(s6,((0:Int),(s9,((IntKind.wrap .i64 ((IntKind.wrap .i64 (x1-(IntKind.wrap .i64 (s6*x3))))-s7)),(s8,s9))))))))))))).bind fun x4 =>
  Sum.elim
   (fun x5 =>
   some x5)
   (fun x6 =>
   ((A8 (IntKind.wrap .i64 (x6.2.2.2.2.2.1 + x6.2.2.2.2.2.2.2.2.1)) (List.length x6.1))).bind fun x7 =>
   ((A1 x6.1 x7)).bind fun x8 =>
   some (Sum.inl ((List.set x6.1 x7 x6.2.2.2.2.2.2.2.2.2.1),(x6.2.1,(x6.2.2.1,(x6.2.2.2.1,(x6.2.2.2.2.1,(x6.2.2.2.2.2.1,(x6.2.2.2.2.2.2.1,(x6.2.2.2.2.2.2.2.1,(x6.2.2.2.2.2.2.2.2.2.2.1,(IntKind.wrap .i64 (x6.2.2.2.2.2.2.2.2.2.2.2 + (1:Int))))))))))))))
   x4
 else
 some (Sum.inr (s0,(s1,(s2,(s3,(s4,(s5,(s6,s7))))))))
noncomputable def Fh (s0:(List Int)) (s1:(List Int)) (s2:(List Int)) (s3:Int) (s4:Int) (s5:Int) (s6:Int) (s7:Int) (s8:Int) (s9:Int):Option (Tq20 ⊕ Tq25) :=
 bif decide (s9<s8) then
  ((A8 (IntKind.wrap .i64 (s5 + s9)) (List.length s0))).bind fun x0 =>
  ((A1 s0 x0)).bind fun x1 =>
  ((A8 s9 (List.length s1))).bind fun x2 =>
  ((A1 s1 x2)).bind fun x3 =>
  ((A8 (IntKind.wrap .i64 (s5 + s9)) (List.length s0))).bind fun x4 =>
  ((A1 s0 x4)).bind fun x5 =>
  some (Sum.inl ((List.set s0 x4 (Int.tmod (IntKind.wrap .i64 (s7 + (IntKind.wrap .i64 (x1 + x3)))) (65536:Int))),(s1,(s2,(s3,(s4,(s5,(s6,((IntKind.wrap .i64 (Int.tdiv (IntKind.wrap .i64 (s7 + (IntKind.wrap .i64 (x1 + x3)))) (65536:Int))),(s8,(IntKind.wrap .i64 (s9 + (1:Int)))))))))))))
 else
 some (Sum.inr (s0,(s1,(s2,(s3,(s4,(s5,(s6,s7))))))))
noncomputable def C7 (s0:(List Int)) (s1:(List Int)) (s2:(List Int)) (s3:Int) (s4:Int) (s5:Int):Option (((List Int)×Tq12) ⊕ ((List Int)×Tq11)) :=
 bif decide (s5>=(0:Int)) then
  ((A8 (IntKind.wrap .i64 (s5 + s3)) (List.length s0))).bind fun x0 =>
  ((A1 s0 x0)).bind fun x1 =>
  ((A8 (IntKind.wrap .i64 ((IntKind.wrap .i64 (s5 + s3))-(1:Int))) (List.length s0))).bind fun x2 =>
  ((A1 s0 x2)).bind fun x3 =>
  ((A8 (IntKind.wrap .i64 (s3-(1:Int))) (List.length s1))).bind fun x4 =>
  ((A1 s1 x4)).bind fun x5 =>
  bif (x5==(0:Int)) then
   none
  else
  ((A8 (IntKind.wrap .i64 (s3-(1:Int))) (List.length s1))).bind fun x6 =>
  ((A1 s1 x6)).bind fun x7 =>
  bif (x7==(0:Int)) then
   none
  else
  (Ah (fun (s:Tq25)=>C8 s.1 s.2.1 s.2.2.1 s.2.2.2.1 s.2.2.2.2.1 s.2.2.2.2.2.1 s.2.2.2.2.2.2.1 s.2.2.2.2.2.2.2) (s0,(s1,(s2,(s3,(s4,(s5,((IntKind.wrap .i64 (Int.tdiv (IntKind.wrap .i64 ((IntKind.wrap .i64 (x1*(65536:Int))) + x3)) x5)),(Int.tmod (IntKind.wrap .i64 ((IntKind.wrap .i64 (x1*(65536:Int))) + x3)) x7))))))))).bind fun x8 =>
  (Ah (fun (s:Tq20)=>EY s.1 s.2.1 s.2.2.1 s.2.2.2.1 s.2.2.2.2.1 s.2.2.2.2.2.1 s.2.2.2.2.2.2.1 s.2.2.2.2.2.2.2.1 s.2.2.2.2.2.2.2.2.1 s.2.2.2.2.2.2.2.2.2) (x8.1,(x8.2.1,(x8.2.2.1,(x8.2.2.2.1,(x8.2.2.2.2.1,(x8.2.2.2.2.2.1,(x8.2.2.2.2.2.2,((0:Int),(x8.2.2.2.1,(0:Int))))))))))).bind fun x9 =>
  ((A8 (IntKind.wrap .i64 (x9.2.2.2.2.2.1 + x9.2.2.2.1)) (List.length x9.1))).bind fun x10 =>
  ((A1 x9.1 x10)).bind fun x11 =>
  ((A8 (IntKind.wrap .i64 (x9.2.2.2.2.2.1 + x9.2.2.2.1)) (List.length x9.1))).bind fun x12 =>
  ((A1 x9.1 x12)).bind fun x13 =>
  ((A8 (IntKind.wrap .i64 (x9.2.2.2.2.2.1 + x9.2.2.2.1)) (List.length (List.set x9.1 x12 (IntKind.wrap .i64 (x11-x9.2.2.2.2.2.2.2)))))).bind fun x14 =>
  ((A1 (List.set x9.1 x12 (IntKind.wrap .i64 (x11-x9.2.2.2.2.2.2.2))) x14)).bind fun x15 =>
  bif decide (x15<(0:Int)) then
   (Ah (fun (s:Tq20)=>Fh s.1 s.2.1 s.2.2.1 s.2.2.2.1 s.2.2.2.2.1 s.2.2.2.2.2.1 s.2.2.2.2.2.2.1 s.2.2.2.2.2.2.2.1 s.2.2.2.2.2.2.2.2.1 s.2.2.2.2.2.2.2.2.2) ((List.set x9.1 x12 (IntKind.wrap .i64 (x11-x9.2.2.2.2.2.2.2))),(x9.2.1,(x9.2.2.1,(x9.2.2.2.1,(x9.2.2.2.2.1,(x9.2.2.2.2.2.1,((IntKind.wrap .i64 (x9.2.2.2.2.2.2.1-(1:Int))),((0:Int),(x9.2.2.2.1,(0:Int))))))))))).bind fun x16 =>
   ((A8 (IntKind.wrap .i64 (x16.2.2.2.2.2.1 + x16.2.2.2.1)) (List.length x16.1))).bind fun x17 =>
   ((A1 x16.1 x17)).bind fun x18 =>
   ((A8 (IntKind.wrap .i64 (x16.2.2.2.2.2.1 + x16.2.2.2.1)) (List.length x16.1))).bind fun x19 =>
   ((A1 x16.1 x19)).bind fun x20 =>
   ((A8 x16.2.2.2.2.2.1 (List.length x16.2.2.1))).bind fun x21 =>
   ((A1 x16.2.2.1 x21)).bind fun x22 =>
   some (Sum.inl ((List.set x16.1 x19 (IntKind.wrap .i64 (x18 + x16.2.2.2.2.2.2.2))),(x16.2.1,((List.set x16.2.2.1 x21 x16.2.2.2.2.2.2.1),(x16.2.2.2.1,(x16.2.2.2.2.1,(IntKind.wrap .i64 (x16.2.2.2.2.2.1-(1:Int)))))))))
  else
  ((A8 x9.2.2.2.2.2.1 (List.length x9.2.2.1))).bind fun x23 =>
  ((A1 x9.2.2.1 x23)).bind fun x24 =>
  some (Sum.inl ((List.set x9.1 x12 (IntKind.wrap .i64 (x11-x9.2.2.2.2.2.2.2))),(x9.2.1,((List.set x9.2.2.1 x23 x9.2.2.2.2.2.2.1),(x9.2.2.2.1,(x9.2.2.2.2.1,(IntKind.wrap .i64 (x9.2.2.2.2.2.1-(1:Int)))))))))
 else
 some (Sum.inr (s0,(s2,(s3,s4))))
noncomputable def FH (a0:(List Int)) (a1:(List Int)):Option (List (Int)×List (Int)) :=
 ((BG a0 a1)).bind fun x0 =>
 bif decide (x0<(0:Int)) then
  some ((List.nil:List Int),a0)
 else
 bif ((((List.length a1):Nat):Int)==(1:Int)) then
  ((AQ a1 (0:Int))).bind fun x1 =>
  ((FL a0 x1)).bind fun x2 =>
  ((Ix (List.cons x2.2 (List.nil:List Int)))).bind fun x3 =>
  some (x2.1,x3)
 else
 ((AQ a1 (IntKind.wrap .i64 ((((List.length a1):Nat):Int)-(1:Int))))).bind fun x4 =>
 bif ((IntKind.wrap .i64 (x4 + (1:Int)))==(0:Int)) then
  none
 else
 ((Bj false a0)).bind fun x5 =>
 ((Dj (IntKind.wrap .i64 (Int.tdiv (65536:Int) (IntKind.wrap .i64 (x4 + (1:Int))))))).bind fun x6 =>
 ((BE (x5.2,x5.1) (x6.1,x6.2))).bind fun x7 =>
 ((De 8 1 x7.1 (List.cons (0:Int) (List.nil:List Int)))).bind fun x8 =>
 ((Bj false a1)).bind fun x9 =>
 ((Dj (IntKind.wrap .i64 (Int.tdiv (65536:Int) (IntKind.wrap .i64 (x4 + (1:Int))))))).bind fun x10 =>
 ((BE (x9.2,x9.1) (x10.1,x10.2))).bind fun x11 =>
 (Ah (fun (s:Tq15)=>OF s.1 s.2.1 s.2.2.1 s.2.2.2.1 s.2.2.2.2) (x8,(x11.1,(a0,((((List.length a1):Nat):Int),(IntKind.wrap .i64 (Int.tdiv (65536:Int) (IntKind.wrap .i64 (x4 + (1:Int)))))))))).bind fun x12 =>
 ((Re (IntKind.wrap .i64 ((((List.length x12.1):Nat):Int)-x12.2.2.1)) 8 1)).bind fun x13 =>
 (Ah (fun (s:((List Int)×Tq12))=>C7 s.1 s.2.1 s.2.2.1 s.2.2.2.1 s.2.2.2.2.1 s.2.2.2.2.2) (x12.1,(x12.2.1,((List.replicate x13 (0:Int)),(x12.2.2.1,(x12.2.2.2,(IntKind.wrap .i64 ((IntKind.wrap .i64 ((((List.length x12.1):Nat):Int)-x12.2.2.1))-(1:Int))))))))).bind fun x14 =>
 ((LL (0:Int) x14.2.2.1 (List.length x14.1))).bind fun x15 =>
 ((Ix (List.drop x15.1 (List.take (x15.1 + (x15.2-x15.1)) x14.1)))).bind fun x16 =>
 ((FL x16 x14.2.2.2)).bind fun x17 =>
 ((Ix x14.2.1)).bind fun x18 =>
 some (x18,x17.1)
noncomputable def MP:Ent:=⟨NP,fun x=>FH x.1 x.2⟩
noncomputable def Ts:TX:=⟨Ak,Ae,[],[4],[D2,Uq,UX,DP,JK,GS],NP⟩
theorem AG2 (a0:List (Int)) (a1:List (Int)):wtF Ts Tryz.f245 (a0,a1)=FH a0 a1:=by kernel_rfl
theorem Ri:Ai RR MP:=Aa (X:=Ts) ⟨AD,Af,AA⟩ (Ab (by exact ⟨⟨ER,rfl⟩,⟨⟨Aq4,rfl⟩,⟨⟨TY,rfl⟩,⟨⟨Dx,rfl⟩,⟨⟨Kj,rfl⟩,⟨⟨Hj,rfl⟩,trivial⟩⟩⟩⟩⟩⟩)) (Al (by kernel_rfl)) ⟨Tryz.func245,rfl,by kernel_rfl,rfl⟩ (fun x=>by exact AG2 x.1 x.2)
noncomputable def Im (s0:Tq7) (s1:(List Int)) (s2:(List Int)):Option ((Tq7×((List Int)×(List Int))) ⊕ (Tq7×(List Int))) :=
 bif decide ((((List.length s2):Nat):Int)>(0:Int)) then
  ((FH s1 s2)).bind fun x0 =>
  some (Sum.inl ((s0.1,s0.2),(s2,x0.2)))
 else
 some (Sum.inr ((s0.1,s0.2),s1))
noncomputable def GO (a0:Tq7) (a1:Tq7):Option (Tq10) :=
 (Ah (fun (s:(Tq7×((List Int)×(List Int))))=>Im s.1 s.2.1 s.2.2) ((false,(List.nil:List Int)),(a0.2,a1.2))).bind fun x0 =>
 ((Bj false x0.2)).bind fun x1 =>
 some (x1.2,x1.1)
noncomputable def O7:Ent:=⟨Pk,fun x=>GO x.1 x.2⟩
noncomputable def WP:TX:=⟨Ak,Ae,[],[4],[MP,DP],Pk⟩
theorem A0C (a0:Tq10) (a1:Tq10):wtF WP Tryz.f190 (a0,a1)=GO a0 a1:=by kernel_rfl
theorem Va:Ai RR O7:=Aa (X:=WP) ⟨AD,Af,AA⟩ (Ab (by exact ⟨⟨Ri,rfl⟩,⟨⟨Dx,rfl⟩,trivial⟩⟩)) (Al (by kernel_rfl)) ⟨Tryz.func190,rfl,by kernel_rfl,rfl⟩ (fun x=>by exact A0C x.1 x.2)
noncomputable def DY (a0:Tq7) (a1:Tq7):Option (Int) :=
 ((BH (a0.1,a0.2))).bind fun x0 =>
 ((BH (a1.1,a1.2))).bind fun x1 =>
 bif (x0 != x1) then
  ((BH (a0.1,a0.2))).bind fun x2 =>
  ((BH (a1.1,a1.2))).bind fun x3 =>
  ((B6 x2 x3)).bind fun x4 =>
  some x4
 else
 ((BH (a0.1,a0.2))).bind fun x5 =>
 ((BG a0.2 a1.2)).bind fun x6 =>
 some (IntKind.wrap .i64 (x5*x6))
noncomputable def KU:Ent:=⟨Le,fun x=>DY x.1 x.2⟩
noncomputable def Pr:TX:=⟨Ak,Ae,[],[4],[Jq,Hu,D2],Le⟩
theorem Ac5 (a0:Tq10) (a1:Tq10):wtF Pr Tryz.f236 (a0,a1)=DY a0 a1:=by kernel_rfl
theorem Ok:Ai RR KU:=Aa (X:=Pr) ⟨AD,Af,AA⟩ (Ab (by exact ⟨⟨LN,rfl⟩,⟨⟨J1,rfl⟩,⟨⟨ER,rfl⟩,trivial⟩⟩⟩)) (Al (by kernel_rfl)) ⟨Tryz.func236,rfl,by kernel_rfl,rfl⟩ (fun x=>by exact Ac5 x.1 x.2)
noncomputable def IB (a0:Tq1):Option (Bool) :=
 ((Ic (List.cons (a0.1,a0.2.1) (List.cons (a0.2.2.1,a0.2.2.2) (List.nil:List Tq7))))).bind fun x0 =>
 bif x0 then
  ((BH (a0.2.2.1,a0.2.2.2))).bind fun x1 =>
  bif decide (x1>(0:Int)) then
   ((GO (a0.1,a0.2.1) (a0.2.2.1,a0.2.2.2))).bind fun x2 =>
   ((Dj (1:Int))).bind fun x3 =>
   ((DY (x2.1,x2.2) (x3.1,x3.2))).bind fun x4 =>
   some (x4==(0:Int))
  else
  some false
 else
 some false
noncomputable def Ya:Ent:=⟨Qp,fun x=>IB x⟩
noncomputable def XI:TX:=⟨Ak,Ae,[],[4],[Ag3,Jq,O7,JK,KU],Qp⟩
theorem A0Q (a0:Tq3):wtF XI Tryz.f182 (a0)=IB a0:=by kernel_rfl
theorem AE3:Ai RR Ya:=Aa (X:=XI) ⟨AD,Af,AA⟩ (Ab (by exact ⟨⟨AZ4,rfl⟩,⟨⟨LN,rfl⟩,⟨⟨Va,rfl⟩,⟨⟨Kj,rfl⟩,⟨⟨Ok,rfl⟩,trivial⟩⟩⟩⟩⟩)) (Al (by kernel_rfl)) ⟨Tryz.func182,rfl,by kernel_rfl,rfl⟩ (fun x=>by exact A0Q x)
noncomputable def Ik (s0:(List Tq0)) (s1:Int) (s2:Int):Option (((List Tq0)×(Int×Int)) ⊕ (Unit ⊕ Bool)) :=
 bif decide (s2<s1) then
  ((AQ s0 s2)).bind fun x0 =>
  ((IB (x0.1.1,(x0.1.2,(x0.2.1,x0.2.2))))).bind fun x1 =>
  bif (!x1) then
   some (Sum.inr (Sum.inr false))
  else
  some (Sum.inl (s0,(s1,(IntKind.wrap .i64 (s2 + (1:Int))))))
 else
 some (Sum.inr (Sum.inl ()))
noncomputable def Fv (a0:(List Tq0)):Option (Bool) :=
 (Ah (fun (s:((List Tq0)×(Int×Int)))=>Ik s.1 s.2.1 s.2.2) (a0,((((List.length a0):Nat):Int),(0:Int)))).bind fun x0 =>
 Sum.elim
  (fun x1 =>
  some true)
  (fun x2 =>
  some x2)
  x0
noncomputable def XU:Ent:=⟨Qi,fun x=>Fv x⟩
noncomputable def W6:TX:=⟨Ak,Ae,[],[4],[Ya],Qi⟩
theorem AO2 (a0:List ((Tq10×Tq10))):wtF W6 Tryz.f124 (a0)=Fv a0:=by kernel_rfl
theorem AI1:Ai RR XU:=Aa (X:=W6) ⟨AD,Af,AA⟩ (Ab (by exact ⟨⟨AE3,rfl⟩,trivial⟩)) (Al (by kernel_rfl)) ⟨Tryz.func124,rfl,by kernel_rfl,rfl⟩ (fun x=>by exact AO2 x)
noncomputable def BR (a0:Tq1) (a1:Int):Option (Bool) :=
 bif decide ((((List.length a0.2.1):Nat):Int)<=a1) then
  some (decide ((((List.length a0.2.2.2):Nat):Int)<=a1))
 else
 some false
noncomputable def I5:Ent:=⟨I1,fun x=>BR x.1 x.2⟩
noncomputable def Ox:TX:=⟨Ak,Ae,[],[4],[],I1⟩
theorem Yz (a0:Tq3) (a1:Int):wtF Ox Tryz.f144 (a0,a1)=BR a0 a1:=by kernel_rfl
theorem Mq:Ai RR I5:=Aa (X:=Ox) ⟨AD,Af,AA⟩ (Ab (by exact trivial)) (Al (by kernel_rfl)) ⟨Tryz.func144,rfl,by kernel_rfl,rfl⟩ (fun x=>by exact Yz x.1 x.2)
noncomputable def FK (a0:Tq9) (a1:Int):Option (Bool) :=
 ((Fv (List.cons ((a0.1,a0.2.1),(a0.2.2.1,a0.2.2.2.1)) (List.cons ((a0.2.2.2.2.1,a0.2.2.2.2.2.1),(a0.2.2.2.2.2.2.1,a0.2.2.2.2.2.2.2)) (List.nil:List Tq0))))).bind fun x0 =>
 bif x0 then
  ((BR (a0.1,(a0.2.1,(a0.2.2.1,a0.2.2.2.1))) a1)).bind fun x1 =>
  bif x1 then
   ((BR (a0.2.2.2.2.1,(a0.2.2.2.2.2.1,(a0.2.2.2.2.2.2.1,a0.2.2.2.2.2.2.2))) a1)).bind fun x2 =>
   some x2
  else
  some false
 else
 some false
noncomputable def Wd:Ent:=⟨WI,fun x=>FK x.1 x.2⟩
noncomputable def AA4:TX:=⟨Ak,Ae,[],[4],[XU,I5],WI⟩
theorem A4T (a0:Tq4) (a1:Int):wtF AA4 Tryz.f225 (a0,a1)=FK a0 a1:=by kernel_rfl
theorem Aa8:Ai RR Wd:=Aa (X:=AA4) ⟨AD,Af,AA⟩ (Ab (by exact ⟨⟨AI1,rfl⟩,⟨⟨Mq,rfl⟩,trivial⟩⟩)) (Al (by kernel_rfl)) ⟨Tryz.func225,rfl,by kernel_rfl,rfl⟩ (fun x=>by exact A4T x.1 x.2)
noncomputable def Fj (a0:Tq9):Option (Bool) :=
 ((FK (a0.1,(a0.2.1,(a0.2.2.1,(a0.2.2.2.1,(a0.2.2.2.2.1,(a0.2.2.2.2.2.1,(a0.2.2.2.2.2.2.1,a0.2.2.2.2.2.2.2))))))) (8:Int))).bind fun x0 =>
 some (!x0)
noncomputable def O8:Ent:=⟨KX,fun x=>Fj x⟩
noncomputable def P7:TX:=⟨Ak,Ae,[],[4],[Wd],KX⟩
theorem Aa7 (a0:Tq4):wtF P7 Tryz.f224 (a0)=Fj a0:=by kernel_rfl
theorem YK:Ai RR O8:=Aa (X:=P7) ⟨AD,Af,AA⟩ (Ab (by exact ⟨⟨Aa8,rfl⟩,trivial⟩)) (Al (by kernel_rfl)) ⟨Tryz.func224,rfl,by kernel_rfl,rfl⟩ (fun x=>by exact Aa7 x)
noncomputable def AG (s0:Tq6) (s1:Int) (s2:Int):Option (Tq16 ⊕ (Unit ⊕ Int)) :=
 bif decide (s2<s1) then
  ((AQ s0 s2)).bind fun x0 =>
  ((Fj (x0.1.1.1,(x0.1.1.2,(x0.1.2.1,(x0.1.2.2,(x0.2.1.1,(x0.2.1.2,(x0.2.2.1,x0.2.2.2))))))))).bind fun x1 =>
  bif x1 then
   some (Sum.inr (Sum.inr s2))
  else
  some (Sum.inl (s0,(s1,(IntKind.wrap .i64 (s2 + (1:Int))))))
 else
 some (Sum.inr (Sum.inl ()))
noncomputable def Bw (a0:Tq6):Option (Int) :=
 (Ah (fun (s:Tq16)=>AG s.1 s.2.1 s.2.2) (a0,((((List.length a0):Nat):Int),(0:Int)))).bind fun x0 =>
 Sum.elim
  (fun x1 =>
  some (-(1:Int)))
  (fun x2 =>
  some x2)
  x0
noncomputable def DF:Ent:=⟨Ck,fun x=>Bw x⟩
noncomputable def DG:TX:=⟨Ak,Ae,[],[4],[O8],Ck⟩
theorem HI (a0:List Tq2):wtF DG Tryz.f267 (a0)=Bw a0:=by kernel_rfl
theorem Hf:Ai RR DF:=Aa (X:=DG) ⟨AD,Af,AA⟩ (Ab (by exact ⟨⟨YK,rfl⟩,trivial⟩)) (Al (by kernel_rfl)) ⟨Tryz.func267,rfl,by kernel_rfl,rfl⟩ (fun x=>by exact HI x)
noncomputable def AW (a0:Tq6):Option (Bool) :=
 ((Bw a0)).bind fun x0 =>
 some (decide (x0>=(0:Int)))
noncomputable def C4:Ent:=⟨BU,fun x=>AW x⟩
noncomputable def Df:TX:=⟨Ak,Ae,[],[4],[DF],BU⟩
theorem Ge (a0:List Tq2):wtF Df Tryz.f223 (a0)=AW a0:=by kernel_rfl
theorem F3:Ai RR C4:=Aa (X:=Df) ⟨AD,Af,AA⟩ (Ab (by exact ⟨⟨Hf,rfl⟩,trivial⟩)) (Al (by kernel_rfl)) ⟨Tryz.func223,rfl,by kernel_rfl,rfl⟩ (fun x=>by exact Ge x)
noncomputable def Dq (a0:Tq6):Option (Bool) :=
 bif decide ((((List.length a0):Nat):Int)<=(40:Int)) then
  ((AW a0)).bind fun x0 =>
  some (!x0)
 else
 some false
noncomputable def Hb:Ent:=⟨Nb,fun x=>Dq x⟩
noncomputable def Uy:TX:=⟨Ak,Ae,[],[4],[C4],Nb⟩
theorem AK1 (a0:List Tq2):wtF Uy Tryz.f174 (a0)=Dq a0:=by kernel_rfl
theorem Iq:Ai RR Hb:=Aa (X:=Uy) ⟨AD,Af,AA⟩ (Ab (by exact ⟨⟨F3,rfl⟩,trivial⟩)) (Al (by kernel_rfl)) ⟨Tryz.func174,rfl,by kernel_rfl,rfl⟩ (fun x=>by exact AK1 x)
noncomputable def Fa (a0:Tq1) (a1:Tq1):Option (Int) :=
 ((BE (a0.1,a0.2.1) (a1.2.2.1,a1.2.2.2))).bind fun x0 =>
 ((BE (a1.1,a1.2.1) (a0.2.2.1,a0.2.2.2))).bind fun x1 =>
 ((DY (x0.2,x0.1) (x1.2,x1.1))).bind fun x2 =>
 some x2
noncomputable def PJ:Ent:=⟨JR,fun x=>Fa x.1 x.2⟩
noncomputable def Qe:TX:=⟨Ak,Ae,[],[4],[GS,KU],JR⟩
theorem Ag6 (a0:Tq3) (a1:Tq3):wtF Qe Tryz.f264 (a0,a1)=Fa a0 a1:=by kernel_rfl
theorem YF:Ai RR PJ:=Aa (X:=Qe) ⟨AD,Af,AA⟩ (Ab (by exact ⟨⟨Hj,rfl⟩,⟨⟨Ok,rfl⟩,trivial⟩⟩)) (Al (by kernel_rfl)) ⟨Tryz.func264,rfl,by kernel_rfl,rfl⟩ (fun x=>by exact Ag6 x.1 x.2)
noncomputable def CP (a0:Tq1) (a1:Tq1):Option (Bool) :=
 ((Fa (a0.1,(a0.2.1,(a0.2.2.1,a0.2.2.2))) (a1.1,(a1.2.1,(a1.2.2.1,a1.2.2.2))))).bind fun x0 =>
 some (decide (x0<(0:Int)))
noncomputable def Jz:Ent:=⟨NC,fun x=>CP x.1 x.2⟩
noncomputable def TG:TX:=⟨Ak,Ae,[],[4],[PJ],NC⟩
theorem AB5 (a0:Tq3) (a1:Tq3):wtF TG Tryz.f220 (a0,a1)=CP a0 a1:=by kernel_rfl
theorem LP:Ai RR Jz:=Aa (X:=TG) ⟨AD,Af,AA⟩ (Ab (by exact ⟨⟨YF,rfl⟩,trivial⟩)) (Al (by kernel_rfl)) ⟨Tryz.func220,rfl,by kernel_rfl,rfl⟩ (fun x=>by exact AB5 x.1 x.2)
noncomputable def BA (a0:Tq9) (a1:Bool):Option (Tq3) :=
 bif a1 then
  some (a0.2.2.2.2.1,(a0.2.2.2.2.2.1,(a0.2.2.2.2.2.2.1,a0.2.2.2.2.2.2.2)))
 else
 some (a0.1,(a0.2.1,(a0.2.2.1,a0.2.2.2.1)))
noncomputable def Gk:Ent:=⟨Gq,fun x=>BA x.1 x.2⟩
noncomputable def KE:TX:=⟨Ak,Ae,[],[4],[],Gq⟩
theorem Sl (a0:Tq4) (a1:Bool):wtF KE Tryz.f309 (a0,a1)=BA a0 a1:=by kernel_rfl
theorem Jc:Ai RR Gk:=Aa (X:=KE) ⟨AD,Af,AA⟩ (Ab (by exact trivial)) (Al (by kernel_rfl)) ⟨Tryz.func309,rfl,by kernel_rfl,rfl⟩ (fun x=>by exact Sl x.1 x.2)
noncomputable def Gj (a0:Bool) (a1:Bool) (a2:Tq1) (a3:Tq9):Option ((Bool)×(Bool)×Tq3×Bool) :=
 bif a0 then
  ((BA (a3.1,(a3.2.1,(a3.2.2.1,(a3.2.2.2.1,(a3.2.2.2.2.1,(a3.2.2.2.2.2.1,(a3.2.2.2.2.2.2.1,a3.2.2.2.2.2.2.2))))))) a1)).bind fun x0 =>
  ((CP (x0.1,(x0.2.1,(x0.2.2.1,x0.2.2.2))) (a2.1,(a2.2.1,(a2.2.2.1,a2.2.2.2))))).bind fun x1 =>
  some (a0,(a1,((a2.1,(a2.2.1,(a2.2.2.1,a2.2.2.2))),(!x1))))
 else
 ((BA (a3.1,(a3.2.1,(a3.2.2.1,(a3.2.2.2.1,(a3.2.2.2.2.1,(a3.2.2.2.2.2.1,(a3.2.2.2.2.2.2.1,a3.2.2.2.2.2.2.2))))))) a1)).bind fun x2 =>
 ((CP (a2.1,(a2.2.1,(a2.2.2.1,a2.2.2.2))) (x2.1,(x2.2.1,(x2.2.2.1,x2.2.2.2))))).bind fun x3 =>
 some (a0,(a1,((a2.1,(a2.2.1,(a2.2.2.1,a2.2.2.2))),(!x3))))
noncomputable def Ai3:Ent:=⟨Sn,fun x=>Gj x.1 x.2.1 x.2.2.1 x.2.2.2⟩
noncomputable def Ae5:TX:=⟨Ak,Ae,[],[4],[Gk,Jz],Sn⟩
theorem A2W (a0:(Bool)) (a1:(Bool)) (a2:Tq3) (a3:Tq4):wtF Ae5 Tryz.f308 (a0,a1,a2,a3)=Gj a0 a1 a2 a3:=by kernel_rfl
theorem AW7:Ai RR Ai3:=Aa (X:=Ae5) ⟨AD,Af,AA⟩ (Ab (by exact ⟨⟨Jc,rfl⟩,⟨⟨LP,rfl⟩,trivial⟩⟩)) (Al (by kernel_rfl)) ⟨Tryz.func308,rfl,by kernel_rfl,rfl⟩ (fun x=>by exact A2W x.1 x.2.1 x.2.2.1 x.2.2.2)
noncomputable def EW (a0:Tq7):Option (Tq10) :=
 ((Bj (!a0.1) a0.2)).bind fun x0 =>
 some (x0.2,x0.1)
noncomputable def LE:Ent:=⟨P9,fun x=>EW x⟩
noncomputable def Xw:TX:=⟨Ak,Ae,[],[4],[DP],P9⟩
theorem A0b (a0:Tq10):wtF Xw Tryz.f191 (a0)=EW a0:=by kernel_rfl
theorem Nz:Ai RR LE:=Aa (X:=Xw) ⟨AD,Af,AA⟩ (Ab (by exact ⟨⟨Dx,rfl⟩,trivial⟩)) (Al (by kernel_rfl)) ⟨Tryz.func191,rfl,by kernel_rfl,rfl⟩ (fun x=>by exact A0b x)
noncomputable def IV (a0:Tq1):Option (Tq3) :=
 ((EW (a0.1,a0.2.1))).bind fun x0 =>
 ((Bj false a0.2.2.2)).bind fun x1 =>
 some (x0.1,(x0.2,(x1.2,x1.1)))
noncomputable def Xb:Ent:=⟨OW,fun x=>IV x⟩
noncomputable def Xu:TX:=⟨Ak,Ae,[],[4],[LE,DP],OW⟩
theorem A0R (a0:Tq3):wtF Xu Tryz.f197 (a0)=IV a0:=by kernel_rfl
theorem AL1:Ai RR Xb:=Aa (X:=Xu) ⟨AD,Af,AA⟩ (Ab (by exact ⟨⟨Nz,rfl⟩,⟨⟨Dx,rfl⟩,trivial⟩⟩)) (Al (by kernel_rfl)) ⟨Tryz.func197,rfl,by kernel_rfl,rfl⟩ (fun x=>by exact A0R x)
noncomputable def E7 (s0:(List Int)) (s1:(List Int)) (s2:(List Int)) (s3:Int) (s4:Int):Option (Tq15 ⊕ (List Int)) :=
 (bif decide (s4<(A78 (List.cons (((List.length s1):Nat):Int) (List.cons (((List.length s2):Nat):Int) (List.nil:List Int))))) then
   some (Sum.inr (s0,(s1,(s2,(s3,s4)))))
  else
  bif decide (s3>(0:Int)) then
   some (Sum.inr (s0,(s1,(s2,(s3,s4)))))
  else
  some (Sum.inl (Sum.inr s0))).bind fun x0 =>
 Sum.elim
  (fun x1 =>
  some x1)
  (fun x2 =>
  (bif decide (x2.2.2.2.2<(((List.length x2.2.1):Nat):Int)) then
    ((AQ x2.2.1 x2.2.2.2.2)).bind fun x3 =>
    some (Sum.inr (x2.1,(x2.2.1,(x2.2.2.1,((IntKind.wrap .i64 (x2.2.2.2.1 + x3)),x2.2.2.2.2)))))
   else
   some (Sum.inr (x2.1,(x2.2.1,(x2.2.2.1,(x2.2.2.2.1,x2.2.2.2.2)))))).bind fun x4 =>
  Sum.elim
   (fun x5 =>
   some x5)
   (fun x6 =>
   (bif decide (x6.2.2.2.2<(((List.length x6.2.2.1):Nat):Int)) then
     ((AQ x6.2.2.1 x6.2.2.2.2)).bind fun x7 =>
     some (Sum.inr (x6.1,(x6.2.1,(x6.2.2.1,((IntKind.wrap .i64 (x6.2.2.2.1 + x7)),x6.2.2.2.2)))))
    else
    some (Sum.inr (x6.1,(x6.2.1,(x6.2.2.1,(x6.2.2.2.1,x6.2.2.2.2)))))).bind fun x8 =>
   Sum.elim
    (fun x9 =>
    some x9)
    (fun x10 =>
    ((De 8 1 x10.1 (List.cons (Int.tmod x10.2.2.2.1 (65536:Int)) (List.nil:List Int)))).bind fun x11 =>
    some (Sum.inl (x11,(x10.2.1,(x10.2.2.1,((IntKind.wrap .i64 (Int.tdiv x10.2.2.2.1 (65536:Int))),(IntKind.wrap .i64 (x10.2.2.2.2 + (1:Int)))))))))
    x8)
   x4)
  x0
noncomputable def Hs (a0:(List Int)) (a1:(List Int)):Option (List (Int)) :=
 (Ah (fun (s:Tq15)=>E7 s.1 s.2.1 s.2.2.1 s.2.2.2.1 s.2.2.2.2) ((List.nil:List Int),(a0,(a1,((0:Int),(0:Int)))))).bind fun x0 =>
 some x0
noncomputable def TK:Ent:=⟨MW,fun x=>Hs x.1 x.2⟩
noncomputable def Uj:TX:=⟨Ak,Ae,[],[4],[],MW⟩
theorem AI5 (a0:List (Int)) (a1:List (Int)):wtF Uj Tryz.f194 (a0,a1)=Hs a0 a1:=by kernel_rfl
theorem Al5:Ai RR TK:=Aa (X:=Uj) ⟨AD,Af,AA⟩ (Ab (by exact trivial)) (Al (by kernel_rfl)) ⟨Tryz.func194,rfl,by kernel_rfl,rfl⟩ (fun x=>by exact AI5 x.1 x.2)
noncomputable def Hr (s0:(List Int)) (s1:(List Int)) (s2:Int) (s3:Int) (s4:Int):Option (Tq12 ⊕ (List Int)) :=
 bif decide (s4<s3) then
  ((A8 s4 (List.length s0))).bind fun x0 =>
  ((A1 s0 x0)).bind fun x1 =>
  ((A8 s4 (List.length s0))).bind fun x2 =>
  ((A1 s0 x2)).bind fun x3 =>
  (bif decide (s4<(((List.length s1):Nat):Int)) then
    ((A8 s4 (List.length (List.set s0 x2 (IntKind.wrap .i64 (x1-s2)))))).bind fun x4 =>
    ((A1 (List.set s0 x2 (IntKind.wrap .i64 (x1-s2))) x4)).bind fun x5 =>
    ((AQ s1 s4)).bind fun x6 =>
    ((A8 s4 (List.length (List.set s0 x2 (IntKind.wrap .i64 (x1-s2)))))).bind fun x7 =>
    ((A1 (List.set s0 x2 (IntKind.wrap .i64 (x1-s2))) x7)).bind fun x8 =>
    some (Sum.inr ((List.set (List.set s0 x2 (IntKind.wrap .i64 (x1-s2))) x7 (IntKind.wrap .i64 (x5-x6))),(s1,(s4,(s3,s4)))))
   else
   some (Sum.inr ((List.set s0 x2 (IntKind.wrap .i64 (x1-s2))),(s1,(s4,(s3,s4)))))).bind fun x9 =>
  Sum.elim
   (fun x10 =>
   some x10)
   (fun x11 =>
   ((A8 x11.2.2.1 (List.length x11.1))).bind fun x12 =>
   ((A1 x11.1 x12)).bind fun x13 =>
   bif decide (x13<(0:Int)) then
    ((A8 x11.2.2.1 (List.length x11.1))).bind fun x14 =>
    ((A1 x11.1 x14)).bind fun x15 =>
    ((A8 x11.2.2.1 (List.length x11.1))).bind fun x16 =>
    ((A1 x11.1 x16)).bind fun x17 =>
    some (Sum.inl ((List.set x11.1 x16 (IntKind.wrap .i64 (x15 + (65536:Int)))),(x11.2.1,((1:Int),(x11.2.2.2.1,(IntKind.wrap .i64 (x11.2.2.2.2 + (1:Int))))))))
   else
   some (Sum.inl (x11.1,(x11.2.1,((0:Int),(x11.2.2.2.1,(IntKind.wrap .i64 (x11.2.2.2.2 + (1:Int)))))))))
   x9
 else
 some (Sum.inr s0)
noncomputable def FP (a0:(List Int)) (a1:(List Int)):Option (List (Int)) :=
 ((BW a0)).bind fun x0 =>
 (Ah (fun (s:Tq12)=>Hr s.1 s.2.1 s.2.2.1 s.2.2.2.1 s.2.2.2.2) (x0,(a1,((0:Int),((((List.length x0):Nat):Int),(0:Int)))))).bind fun x1 =>
 ((Ix x1)).bind fun x2 =>
 some x2
noncomputable def Ul:Ent:=⟨Nh,fun x=>FP x.1 x.2⟩
noncomputable def TZ:TX:=⟨Ak,Ae,[],[4],[DJ,UX],Nh⟩
theorem AC5 (a0:List (Int)) (a1:List (Int)):wtF TZ Tryz.f196 (a0,a1)=FP a0 a1:=by kernel_rfl
theorem Ao4:Ai RR Ul:=Aa (X:=TZ) ⟨AD,Af,AA⟩ (Ab (by exact ⟨⟨FT,rfl⟩,⟨⟨TY,rfl⟩,trivial⟩⟩)) (Al (by kernel_rfl)) ⟨Tryz.func196,rfl,by kernel_rfl,rfl⟩ (fun x=>by exact AC5 x.1 x.2)
noncomputable def Gw (a0:Tq7) (a1:Tq7):Option (Tq10) :=
 bif (a0.1==a1.1) then
  ((Hs a0.2 a1.2)).bind fun x0 =>
  ((Bj a0.1 x0)).bind fun x1 =>
  some (x1.2,x1.1)
 else
 ((BG a0.2 a1.2)).bind fun x2 =>
 bif decide (x2>=(0:Int)) then
  ((FP a0.2 a1.2)).bind fun x3 =>
  ((Bj a0.1 x3)).bind fun x4 =>
  some (x4.2,x4.1)
 else
 ((FP a1.2 a0.2)).bind fun x5 =>
 ((Bj a1.1 x5)).bind fun x6 =>
 some (x6.2,x6.1)
noncomputable def Po:Ent:=⟨PY,fun x=>Gw x.1 x.2⟩
noncomputable def Yl:TX:=⟨Ak,Ae,[],[4],[TK,DP,D2,Ul],PY⟩
theorem AT6 (a0:Tq10) (a1:Tq10):wtF Yl Tryz.f140 (a0,a1)=Gw a0 a1:=by kernel_rfl
theorem T2:Ai RR Po:=Aa (X:=Yl) ⟨AD,Af,AA⟩ (Ab (by exact ⟨⟨Al5,rfl⟩,⟨⟨Dx,rfl⟩,⟨⟨ER,rfl⟩,⟨⟨Ao4,rfl⟩,trivial⟩⟩⟩⟩)) (Al (by kernel_rfl)) ⟨Tryz.func140,rfl,by kernel_rfl,rfl⟩ (fun x=>by exact AT6 x.1 x.2)
noncomputable def E5 (a0:Tq7) (a1:Tq7):Option (Tq10×Tq10) :=
 ((FH a0.2 a1.2)).bind fun x0 =>
 ((Bj (!(a0.1==a1.1)) x0.1)).bind fun x1 =>
 ((Bj a0.1 x0.2)).bind fun x2 =>
 some ((x1.2,x1.1),(x2.2,x2.1))
noncomputable def PD:Ent:=⟨PM,fun x=>E5 x.1 x.2⟩
noncomputable def Yb:TX:=⟨Ak,Ae,[],[4],[MP,DP],PM⟩
theorem A0v (a0:Tq10) (a1:Tq10):wtF Yb Tryz.f192 (a0,a1)=E5 a0 a1:=by kernel_rfl
theorem UH:Ai RR PD:=Aa (X:=Yb) ⟨AD,Af,AA⟩ (Ab (by exact ⟨⟨Ri,rfl⟩,⟨⟨Dx,rfl⟩,trivial⟩⟩)) (Al (by kernel_rfl)) ⟨Tryz.func192,rfl,by kernel_rfl,rfl⟩ (fun x=>by exact A0v x.1 x.2)
noncomputable def H7 (a0:Tq7) (a1:Tq7):Option (Tq3) :=
 ((GO (a0.1,a0.2) (a1.1,a1.2))).bind fun x0 =>
 (bif a1.1 then
   ((EW (x0.1,x0.2))).bind fun x1 =>
   some (Sum.inr ((a0.1,a0.2),((a1.1,a1.2),((false,((List.nil:List Int),(false,(List.nil:List Int)))),(x1.1,x1.2)))))
  else
  some (Sum.inr ((a0.1,a0.2),((a1.1,a1.2),((false,((List.nil:List Int),(false,(List.nil:List Int)))),(x0.1,x0.2)))))).bind fun x2 =>
 Sum.elim
  (fun x3 =>
  some x3)
  (fun x4 =>
  ((E5 (x4.1.1,x4.1.2) (x4.2.2.2.1,x4.2.2.2.2))).bind fun x5 =>
  ((E5 (x4.2.1.1,x4.2.1.2) (x4.2.2.2.1,x4.2.2.2.2))).bind fun x6 =>
  some (x5.1.1,(x5.1.2,(x6.1.1,x6.1.2))))
  x2
noncomputable def QU:Ent:=⟨WH,fun x=>H7 x.1 x.2⟩
noncomputable def Aw9:TX:=⟨Ak,Ae,[],[4],[O7,LE,PD],WH⟩
theorem A4u (a0:Tq10) (a1:Tq10):wtF Aw9 Tryz.f138 (a0,a1)=H7 a0 a1:=by kernel_rfl
theorem RN:Ai RR QU:=Aa (X:=Aw9) ⟨AD,Af,AA⟩ (Ab (by exact ⟨⟨Va,rfl⟩,⟨⟨Nz,rfl⟩,⟨⟨UH,rfl⟩,trivial⟩⟩⟩)) (Al (by kernel_rfl)) ⟨Tryz.func138,rfl,by kernel_rfl,rfl⟩ (fun x=>by exact A4u x.1 x.2)
noncomputable def CD (a0:Tq1) (a1:Tq1):Option (Tq3) :=
 ((BE (a0.1,a0.2.1) (a1.2.2.1,a1.2.2.2))).bind fun x0 =>
 ((BE (a1.1,a1.2.1) (a0.2.2.1,a0.2.2.2))).bind fun x1 =>
 ((Gw (x0.2,x0.1) (x1.2,x1.1))).bind fun x2 =>
 ((BE (a0.2.2.1,a0.2.2.2) (a1.2.2.1,a1.2.2.2))).bind fun x3 =>
 ((H7 (x2.1,x2.2) (x3.2,x3.1))).bind fun x4 =>
 some (x4.1,(x4.2.1,(x4.2.2.1,x4.2.2.2)))
noncomputable def GJ:Ent:=⟨P4,fun x=>CD x.1 x.2⟩
noncomputable def X5:TX:=⟨Ak,Ae,[],[4],[GS,Po,QU],P4⟩
theorem AT0 (a0:Tq3) (a1:Tq3):wtF X5 Tryz.f74 (a0,a1)=CD a0 a1:=by kernel_rfl
theorem Hv:Ai RR GJ:=Aa (X:=X5) ⟨AD,Af,AA⟩ (Ab (by exact ⟨⟨Hj,rfl⟩,⟨⟨T2,rfl⟩,⟨⟨RN,rfl⟩,trivial⟩⟩⟩)) (Al (by kernel_rfl)) ⟨Tryz.func74,rfl,by kernel_rfl,rfl⟩ (fun x=>by exact AT0 x.1 x.2)
noncomputable def D7 (a0:Tq1) (a1:Tq1):Option (Tq3) :=
 ((IV (a1.1,(a1.2.1,(a1.2.2.1,a1.2.2.2))))).bind fun x0 =>
 ((CD (a0.1,(a0.2.1,(a0.2.2.1,a0.2.2.2))) (x0.1,(x0.2.1,(x0.2.2.1,x0.2.2.2))))).bind fun x1 =>
 some (x1.1,(x1.2.1,(x1.2.2.1,x1.2.2.2)))
noncomputable def Lt:Ent:=⟨PO,fun x=>D7 x.1 x.2⟩
noncomputable def Xa:TX:=⟨Ak,Ae,[],[4],[Xb,GJ],PO⟩
theorem AX2 (a0:Tq3) (a1:Tq3):wtF Xa Tryz.f142 (a0,a1)=D7 a0 a1:=by kernel_rfl
theorem Nc:Ai RR Lt:=Aa (X:=Xa) ⟨AD,Af,AA⟩ (Ab (by exact ⟨⟨AL1,rfl⟩,⟨⟨Hv,rfl⟩,trivial⟩⟩)) (Al (by kernel_rfl)) ⟨Tryz.func142,rfl,by kernel_rfl,rfl⟩ (fun x=>by exact AX2 x.1 x.2)
noncomputable def EZ (a0:Tq1) (a1:Tq1):Option (Tq3) :=
 ((BE (a0.1,a0.2.1) (a1.2.2.1,a1.2.2.2))).bind fun x0 =>
 ((BE (a0.2.2.1,a0.2.2.2) (a1.1,a1.2.1))).bind fun x1 =>
 ((H7 (x0.2,x0.1) (x1.2,x1.1))).bind fun x2 =>
 some (x2.1,(x2.2.1,(x2.2.2.1,x2.2.2.2)))
noncomputable def Qg:Ent:=⟨P3,fun x=>EZ x.1 x.2⟩
noncomputable def XA:TX:=⟨Ak,Ae,[],[4],[GS,QU],P3⟩
theorem AW0 (a0:Tq3) (a1:Tq3):wtF XA Tryz.f198 (a0,a1)=EZ a0 a1:=by kernel_rfl
theorem UR:Ai RR Qg:=Aa (X:=XA) ⟨AD,Af,AA⟩ (Ab (by exact ⟨⟨Hj,rfl⟩,⟨⟨RN,rfl⟩,trivial⟩⟩)) (Al (by kernel_rfl)) ⟨Tryz.func198,rfl,by kernel_rfl,rfl⟩ (fun x=>by exact AW0 x.1 x.2)
noncomputable def Cj (a0:Tq1) (a1:Tq1):Option (Tq3) :=
 ((BE (a0.1,a0.2.1) (a1.1,a1.2.1))).bind fun x0 =>
 ((BE (a0.2.2.1,a0.2.2.2) (a1.2.2.1,a1.2.2.2))).bind fun x1 =>
 ((H7 (x0.2,x0.1) (x1.2,x1.1))).bind fun x2 =>
 some (x2.1,(x2.2.1,(x2.2.2.1,x2.2.2.2)))
noncomputable def Lx:Ent:=⟨PF,fun x=>Cj x.1 x.2⟩
noncomputable def W1:TX:=⟨Ak,Ae,[],[4],[GS,QU],PF⟩
theorem AW9 (a0:Tq3) (a1:Tq3):wtF W1 Tryz.f141 (a0,a1)=Cj a0 a1:=by kernel_rfl
theorem M8:Ai RR Lx:=Aa (X:=W1) ⟨AD,Af,AA⟩ (Ab (by exact ⟨⟨Hj,rfl⟩,⟨⟨RN,rfl⟩,trivial⟩⟩)) (Al (by kernel_rfl)) ⟨Tryz.func141,rfl,by kernel_rfl,rfl⟩ (fun x=>by exact AW9 x.1 x.2)
noncomputable def UV (a0:Tq9) (a1:Tq9) (a2:Tq1):Option (Tq4) :=
 ((Bc (1:Int))).bind fun x0 =>
 ((D7 (x0.1,(x0.2.1,(x0.2.2.1,x0.2.2.2))) (a2.1,(a2.2.1,(a2.2.2.1,a2.2.2.2))))).bind fun x1 =>
 ((Cj (x1.1,(x1.2.1,(x1.2.2.1,x1.2.2.2))) (a0.1,(a0.2.1,(a0.2.2.1,a0.2.2.2.1))))).bind fun x2 =>
 ((Cj (a2.1,(a2.2.1,(a2.2.2.1,a2.2.2.2))) (a1.1,(a1.2.1,(a1.2.2.1,a1.2.2.2.1))))).bind fun x3 =>
 ((CD (x2.1,(x2.2.1,(x2.2.2.1,x2.2.2.2))) (x3.1,(x3.2.1,(x3.2.2.1,x3.2.2.2))))).bind fun x4 =>
 ((Cj (x1.1,(x1.2.1,(x1.2.2.1,x1.2.2.2))) (a0.2.2.2.2.1,(a0.2.2.2.2.2.1,(a0.2.2.2.2.2.2.1,a0.2.2.2.2.2.2.2))))).bind fun x5 =>
 ((Cj (a2.1,(a2.2.1,(a2.2.2.1,a2.2.2.2))) (a1.2.2.2.2.1,(a1.2.2.2.2.2.1,(a1.2.2.2.2.2.2.1,a1.2.2.2.2.2.2.2))))).bind fun x6 =>
 ((CD (x5.1,(x5.2.1,(x5.2.2.1,x5.2.2.2))) (x6.1,(x6.2.1,(x6.2.2.1,x6.2.2.2))))).bind fun x7 =>
 some (x4.1,(x4.2.1,(x4.2.2.1,(x4.2.2.2,(x7.1,(x7.2.1,(x7.2.2.1,x7.2.2.2)))))))
noncomputable def A3r:Ent:=⟨AG1,fun x=>UV x.1 x.2.1 x.2.2⟩
noncomputable def A3v:TX:=⟨Ak,Ae,[],[4],[GL,Lt,Lx,GJ],AG1⟩
theorem A9r (a0:Tq4) (a1:Tq4) (a2:Tq3):wtF A3v Tryz.f310 (a0,a1,a2)=UV a0 a1 a2:=by kernel_rfl
theorem A6M:Ai RR A3r:=Aa (X:=A3v) ⟨AD,Af,AA⟩ (Ab (by exact ⟨⟨Gh,rfl⟩,⟨⟨Nc,rfl⟩,⟨⟨M8,rfl⟩,⟨⟨Hv,rfl⟩,trivial⟩⟩⟩⟩)) (Al (by kernel_rfl)) ⟨Tryz.func310,rfl,by kernel_rfl,rfl⟩ (fun x=>by exact A9r x.1 x.2.1 x.2.2)
noncomputable def Fw (s0:Bool) (s1:Tq1) (s2:Bool) (s3:Tq6) (s4:Tq6) (s5:Tq6) (s6:Int) (s7:Int):Option ((Bool×(Tq1×(Bool×(Tq6×(Tq6×Tq16))))) ⊕ Tq6) :=
 bif decide (s7<s6) then
  ((AQ s5 s7)).bind fun x0 =>
  bif ((((List.length s4):Nat):Int)==(0:Int)) then
   none
  else
  ((AQ s4 (Int.tmod (IntKind.wrap .i64 ((IntKind.wrap .i64 (s7 + (((List.length s4):Nat):Int)))-(1:Int))) (((List.length s4):Nat):Int)))).bind fun x1 =>
  (((Gj s2 s0 (s1.1,(s1.2.1,(s1.2.2.1,s1.2.2.2))) (x1.1.1.1,(x1.1.1.2,(x1.1.2.1,(x1.1.2.2,(x1.2.1.1,(x1.2.1.2,(x1.2.2.1,x1.2.2.2))))))))).bind fun x2 =>
   ((Gj x2.1 x2.2.1 (x2.2.2.1.1,(x2.2.2.1.2.1,(x2.2.2.1.2.2.1,x2.2.2.1.2.2.2))) (x0.1.1.1,(x0.1.1.2,(x0.1.2.1,(x0.1.2.2,(x0.2.1.1,(x0.2.1.2,(x0.2.2.1,x0.2.2.2))))))))).bind fun x3 =>
   bif (!(x2.2.2.2==x3.2.2.2)) then
    ((BA (x1.1.1.1,(x1.1.1.2,(x1.1.2.1,(x1.1.2.2,(x1.2.1.1,(x1.2.1.2,(x1.2.2.1,x1.2.2.2))))))) x3.2.1)).bind fun x4 =>
    ((D7 (x3.2.2.1.1,(x3.2.2.1.2.1,(x3.2.2.1.2.2.1,x3.2.2.1.2.2.2))) (x4.1,(x4.2.1,(x4.2.2.1,x4.2.2.2))))).bind fun x5 =>
    ((BA (x0.1.1.1,(x0.1.1.2,(x0.1.2.1,(x0.1.2.2,(x0.2.1.1,(x0.2.1.2,(x0.2.2.1,x0.2.2.2))))))) x3.2.1)).bind fun x6 =>
    ((BA (x1.1.1.1,(x1.1.1.2,(x1.1.2.1,(x1.1.2.2,(x1.2.1.1,(x1.2.1.2,(x1.2.2.1,x1.2.2.2))))))) x3.2.1)).bind fun x7 =>
    ((D7 (x6.1,(x6.2.1,(x6.2.2.1,x6.2.2.2))) (x7.1,(x7.2.1,(x7.2.2.1,x7.2.2.2))))).bind fun x8 =>
    ((EZ (x5.1,(x5.2.1,(x5.2.2.1,x5.2.2.2))) (x8.1,(x8.2.1,(x8.2.2.1,x8.2.2.2))))).bind fun x9 =>
    ((UV (x1.1.1.1,(x1.1.1.2,(x1.1.2.1,(x1.1.2.2,(x1.2.1.1,(x1.2.1.2,(x1.2.2.1,x1.2.2.2))))))) (x0.1.1.1,(x0.1.1.2,(x0.1.2.1,(x0.1.2.2,(x0.2.1.1,(x0.2.1.2,(x0.2.2.1,x0.2.2.2))))))) (x9.1,(x9.2.1,(x9.2.2.1,x9.2.2.2))))).bind fun x10 =>
    ((De 128 8 s3 (List.cons (((x10.1,x10.2.1),(x10.2.2.1,x10.2.2.2.1)),((x10.2.2.2.2.1,x10.2.2.2.2.2.1),(x10.2.2.2.2.2.2.1,x10.2.2.2.2.2.2.2))) (List.nil:List (Tq0×Tq0))))).bind fun x11 =>
    some (Sum.inr (x3.2.1,((x3.2.2.1.1,(x3.2.2.1.2.1,(x3.2.2.1.2.2.1,x3.2.2.1.2.2.2))),(x3.1,(x11,((x0.1.1.1,(x0.1.1.2,(x0.1.2.1,(x0.1.2.2,(x0.2.1.1,(x0.2.1.2,(x0.2.2.1,x0.2.2.2))))))),(s4,(s5,(s6,s7)))))))))
   else
   some (Sum.inr (x3.2.1,((x3.2.2.1.1,(x3.2.2.1.2.1,(x3.2.2.1.2.2.1,x3.2.2.1.2.2.2))),(x3.1,(s3,((x0.1.1.1,(x0.1.1.2,(x0.1.2.1,(x0.1.2.2,(x0.2.1.1,(x0.2.1.2,(x0.2.2.1,x0.2.2.2))))))),(s4,(s5,(s6,s7)))))))))).bind fun x12 =>
  Sum.elim
   (fun x13 =>
   some x13)
   (fun x14 =>
   ((Gj x14.2.2.1 x14.1 (x14.2.1.1,(x14.2.1.2.1,(x14.2.1.2.2.1,x14.2.1.2.2.2))) (x14.2.2.2.2.1.1,(x14.2.2.2.2.1.2.1,(x14.2.2.2.2.1.2.2.1,(x14.2.2.2.2.1.2.2.2.1,(x14.2.2.2.2.1.2.2.2.2.1,(x14.2.2.2.2.1.2.2.2.2.2.1,(x14.2.2.2.2.1.2.2.2.2.2.2.1,x14.2.2.2.2.1.2.2.2.2.2.2.2))))))))).bind fun x15 =>
   bif x15.2.2.2 then
    ((De 128 8 x14.2.2.2.1 (List.cons (((x14.2.2.2.2.1.1,x14.2.2.2.2.1.2.1),(x14.2.2.2.2.1.2.2.1,x14.2.2.2.2.1.2.2.2.1)),((x14.2.2.2.2.1.2.2.2.2.1,x14.2.2.2.2.1.2.2.2.2.2.1),(x14.2.2.2.2.1.2.2.2.2.2.2.1,x14.2.2.2.2.1.2.2.2.2.2.2.2))) (List.nil:List (Tq0×Tq0))))).bind fun x16 =>
    some (Sum.inl (x15.2.1,((x15.2.2.1.1,(x15.2.2.1.2.1,(x15.2.2.1.2.2.1,x15.2.2.1.2.2.2))),(x15.1,(x16,(x14.2.2.2.2.2.1,(x14.2.2.2.2.2.2.1,(x14.2.2.2.2.2.2.2.1,(IntKind.wrap .i64 (x14.2.2.2.2.2.2.2.2 + (1:Int)))))))))))
   else
   some (Sum.inl (x15.2.1,((x15.2.2.1.1,(x15.2.2.1.2.1,(x15.2.2.1.2.2.1,x15.2.2.1.2.2.2))),(x15.1,(x14.2.2.2.1,(x14.2.2.2.2.2.1,(x14.2.2.2.2.2.2.1,(x14.2.2.2.2.2.2.2.1,(IntKind.wrap .i64 (x14.2.2.2.2.2.2.2.2 + (1:Int))))))))))))
   x12
 else
 some (Sum.inr s3)
noncomputable def IL (a0:Tq6) (a1:Bool) (a2:Bool) (a3:Tq1):Option (List Tq2) :=
 (Ah (fun (s:(Bool×(Tq1×(Bool×(Tq6×(Tq6×Tq16))))))=>Fw s.1 s.2.1 s.2.2.1 s.2.2.2.1 s.2.2.2.2.1 s.2.2.2.2.2.1 s.2.2.2.2.2.2.1 s.2.2.2.2.2.2.2) (a1,((a3.1,(a3.2.1,(a3.2.2.1,a3.2.2.2))),(a2,((List.nil:List (Tq0×Tq0)),(a0,(a0,((((List.length a0):Nat):Int),(0:Int))))))))).bind fun x0 =>
 some x0
noncomputable def AU5:Ent:=⟨Af2,fun x=>IL x.1 x.2.1 x.2.2.1 x.2.2.2⟩
noncomputable def A0a:TX:=⟨Ak,Ae,[],[4],[Ai3,Gk,Lt,Qg,A3r],Af2⟩
theorem A7c (a0:List Tq2) (a1:Bool) (a2:Bool) (a3:Tq3):wtF A0a Tryz.f296 (a0,a1,a2,a3)=IL a0 a1 a2 a3:=by kernel_rfl
theorem A5G:Ai RR AU5:=Aa (X:=A0a) ⟨AD,Af,AA⟩ (Ab (by exact ⟨⟨AW7,rfl⟩,⟨⟨Jc,rfl⟩,⟨⟨Nc,rfl⟩,⟨⟨UR,rfl⟩,⟨⟨A6M,rfl⟩,trivial⟩⟩⟩⟩⟩)) (Al (by kernel_rfl)) ⟨Tryz.func296,rfl,by kernel_rfl,rfl⟩ (fun x=>by exact A7c x.1 x.2.1 x.2.2.1 x.2.2.2)
noncomputable def IW (a0:Tq6) (a1:Tq9) (a2:Tq9):Option (List Tq2) :=
 ((IL a0 false true (a1.1,(a1.2.1,(a1.2.2.1,a1.2.2.2.1))))).bind fun x0 =>
 ((IL x0 false false (a2.1,(a2.2.1,(a2.2.2.1,a2.2.2.2.1))))).bind fun x1 =>
 ((IL x1 true true (a1.2.2.2.2.1,(a1.2.2.2.2.2.1,(a1.2.2.2.2.2.2.1,a1.2.2.2.2.2.2.2))))).bind fun x2 =>
 ((IL x2 true false (a2.2.2.2.2.1,(a2.2.2.2.2.2.1,(a2.2.2.2.2.2.2.1,a2.2.2.2.2.2.2.2))))).bind fun x3 =>
 some x3
noncomputable def Yi:Ent:=⟨O0,fun x=>IW x.1 x.2.1 x.2.2⟩
noncomputable def Ym:TX:=⟨Ak,Ae,[],[4],[AU5],O0⟩
theorem A01 (a0:List Tq2) (a1:Tq4) (a2:Tq4):wtF Ym Tryz.f269 (a0,a1,a2)=IW a0 a1 a2:=by kernel_rfl
theorem AJ8:Ai RR Yi:=Aa (X:=Ym) ⟨AD,Af,AA⟩ (Ab (by exact ⟨⟨A5G,rfl⟩,trivial⟩)) (Al (by kernel_rfl)) ⟨Tryz.func269,rfl,by kernel_rfl,rfl⟩ (fun x=>by exact A01 x.1 x.2.1 x.2.2)
noncomputable def HR (a0:Tq1):Option (Tq3) :=
 ((Bj a0.1 a0.2.1)).bind fun x0 =>
 ((Bj false a0.2.2.2)).bind fun x1 =>
 some (x0.2,(x0.1,(x1.2,x1.1)))
noncomputable def Aj5:Ent:=⟨R5,fun x=>HR x⟩
noncomputable def ZL:TX:=⟨Ak,Ae,[],[4],[DP],R5⟩
theorem A18 (a0:Tq3):wtF ZL Tryz.f315 (a0)=HR a0:=by kernel_rfl
theorem A0d:Ai RR Aj5:=Aa (X:=ZL) ⟨AD,Af,AA⟩ (Ab (by exact ⟨⟨Dx,rfl⟩,trivial⟩)) (Al (by kernel_rfl)) ⟨Tryz.func315,rfl,by kernel_rfl,rfl⟩ (fun x=>by exact A18 x)
noncomputable def KL (a0:Tq9):Option (Tq4) :=
 ((HR (a0.1,(a0.2.1,(a0.2.2.1,a0.2.2.2.1))))).bind fun x0 =>
 ((HR (a0.2.2.2.2.1,(a0.2.2.2.2.2.1,(a0.2.2.2.2.2.2.1,a0.2.2.2.2.2.2.2))))).bind fun x1 =>
 some (x0.1,(x0.2.1,(x0.2.2.1,(x0.2.2.2,(x1.1,(x1.2.1,(x1.2.2.1,x1.2.2.2)))))))
noncomputable def Z7:Ent:=⟨Sj,fun x=>KL x⟩
noncomputable def Aa2:TX:=⟨Ak,Ae,[],[4],[Aj5],Sj⟩
theorem A1b (a0:Tq4):wtF Aa2 Tryz.f307 (a0)=KL a0:=by kernel_rfl
theorem AY1:Ai RR Z7:=Aa (X:=Aa2) ⟨AD,Af,AA⟩ (Ab (by exact ⟨⟨A0d,rfl⟩,trivial⟩)) (Al (by kernel_rfl)) ⟨Tryz.func307,rfl,by kernel_rfl,rfl⟩ (fun x=>by exact A1b x)
noncomputable def Dw (s0:Tq6) (s1:Tq6) (s2:Int) (s3:Int):Option ((Tq6×Tq16) ⊕ Tq6) :=
 bif decide (s3<s2) then
  ((AQ s1 s3)).bind fun x0 =>
  ((KL (x0.1.1.1,(x0.1.1.2,(x0.1.2.1,(x0.1.2.2,(x0.2.1.1,(x0.2.1.2,(x0.2.2.1,x0.2.2.2))))))))).bind fun x1 =>
  ((De 128 8 s0 (List.cons (((x1.1,x1.2.1),(x1.2.2.1,x1.2.2.2.1)),((x1.2.2.2.2.1,x1.2.2.2.2.2.1),(x1.2.2.2.2.2.2.1,x1.2.2.2.2.2.2.2))) (List.nil:List (Tq0×Tq0))))).bind fun x2 =>
  some (Sum.inl (x2,(s1,(s2,(IntKind.wrap .i64 (s3 + (1:Int)))))))
 else
 some (Sum.inr s0)
noncomputable def IK (a0:Tq6):Option (List Tq2) :=
 (Ah (fun (s:(Tq6×Tq16))=>Dw s.1 s.2.1 s.2.2.1 s.2.2.2) ((List.nil:List (Tq0×Tq0)),(a0,((((List.length a0):Nat):Int),(0:Int))))).bind fun x0 =>
 some x0
noncomputable def XZ:Ent:=⟨Pd,fun x=>IK x⟩
noncomputable def Xs:TX:=⟨Ak,Ae,[],[4],[Z7],Pd⟩
theorem AO7 (a0:List Tq2):wtF Xs Tryz.f295 (a0)=IK a0:=by kernel_rfl
theorem AD0:Ai RR XZ:=Aa (X:=Xs) ⟨AD,Af,AA⟩ (Ab (by exact ⟨⟨AY1,rfl⟩,trivial⟩)) (Al (by kernel_rfl)) ⟨Tryz.func295,rfl,by kernel_rfl,rfl⟩ (fun x=>by exact AO7 x)
noncomputable def Et (a0:Tq6):Option (List Tq2×Bool) :=
 ((Dq a0)).bind fun x0 =>
 bif (!x0) then
  some ((List.nil:List (Tq0×Tq0)),false)
 else
 ((IK a0)).bind fun x1 =>
 some (x1,true)
noncomputable def Oz:Ent:=⟨I4,fun x=>Et x⟩
noncomputable def Oh:TX:=⟨Ak,Ae,[],[4],[Hb,XZ],I4⟩
theorem YH (a0:List Tq2):wtF Oh Tryz.f268 (a0)=Et a0:=by kernel_rfl
theorem VB:Ai RR Oz:=Aa (X:=Oh) ⟨AD,Af,AA⟩ (Ab (by exact ⟨⟨Iq,rfl⟩,⟨⟨AD0,rfl⟩,trivial⟩⟩)) (Al (by kernel_rfl)) ⟨Tryz.func268,rfl,by kernel_rfl,rfl⟩ (fun x=>by exact YH x)
noncomputable def B2 (a0:Tq6) (a1:Tq9) (a2:Tq9):Option (List Tq2×Bool) :=
 ((Dq a0)).bind fun x0 =>
 bif (!x0) then
  some ((List.nil:List (Tq0×Tq0)),false)
 else
 ((FK (a1.1,(a1.2.1,(a1.2.2.1,(a1.2.2.2.1,(a1.2.2.2.2.1,(a1.2.2.2.2.2.1,(a1.2.2.2.2.2.2.1,a1.2.2.2.2.2.2.2))))))) (2:Int))).bind fun x1 =>
 bif (!x1) then
  some ((List.nil:List (Tq0×Tq0)),false)
 else
 ((FK (a2.1,(a2.2.1,(a2.2.2.1,(a2.2.2.2.1,(a2.2.2.2.2.1,(a2.2.2.2.2.2.1,(a2.2.2.2.2.2.2.1,a2.2.2.2.2.2.2.2))))))) (2:Int))).bind fun x2 =>
 bif (!x2) then
  some ((List.nil:List (Tq0×Tq0)),false)
 else
 ((CP (a2.1,(a2.2.1,(a2.2.2.1,a2.2.2.2.1))) (a1.1,(a1.2.1,(a1.2.2.1,a1.2.2.2.1))))).bind fun x3 =>
 bif x3 then
  some ((List.nil:List (Tq0×Tq0)),false)
 else
 ((CP (a2.2.2.2.2.1,(a2.2.2.2.2.2.1,(a2.2.2.2.2.2.2.1,a2.2.2.2.2.2.2.2))) (a1.2.2.2.2.1,(a1.2.2.2.2.2.1,(a1.2.2.2.2.2.2.1,a1.2.2.2.2.2.2.2))))).bind fun x4 =>
 bif x4 then
  some ((List.nil:List (Tq0×Tq0)),false)
 else
 ((IW a0 (a1.1,(a1.2.1,(a1.2.2.1,(a1.2.2.2.1,(a1.2.2.2.2.1,(a1.2.2.2.2.2.1,(a1.2.2.2.2.2.2.1,a1.2.2.2.2.2.2.2))))))) (a2.1,(a2.2.1,(a2.2.2.1,(a2.2.2.2.1,(a2.2.2.2.2.1,(a2.2.2.2.2.2.1,(a2.2.2.2.2.2.2.1,a2.2.2.2.2.2.2.2))))))))).bind fun x5 =>
 ((Et x5)).bind fun x6 =>
 some (x6.1,x6.2)
noncomputable def W8:Ent:=⟨PC,fun x=>B2 x.1 x.2.1 x.2.2⟩
noncomputable def Xz:TX:=⟨Ak,Ae,[],[4],[Hb,Wd,Jz,Yi,Oz],PC⟩
theorem AU4 (a0:List Tq2) (a1:Tq4) (a2:Tq4):wtF Xz Tryz.f226 (a0,a1,a2)=B2 a0 a1 a2:=by kernel_rfl
theorem AE8:Ai RR W8:=Aa (X:=Xz) ⟨AD,Af,AA⟩ (Ab (by exact ⟨⟨Iq,rfl⟩,⟨⟨Aa8,rfl⟩,⟨⟨LP,rfl⟩,⟨⟨AJ8,rfl⟩,⟨⟨VB,rfl⟩,trivial⟩⟩⟩⟩⟩)) (Al (by kernel_rfl)) ⟨Tryz.func226,rfl,by kernel_rfl,rfl⟩ (fun x=>by exact AU4 x.1 x.2.1 x.2.2)
noncomputable def CN (a0:Tq1):Option (Tq3) :=
 ((Bc (2:Int))).bind fun x0 =>
 ((EZ (a0.1,(a0.2.1,(a0.2.2.1,a0.2.2.2))) (x0.1,(x0.2.1,(x0.2.2.1,x0.2.2.2))))).bind fun x1 =>
 some (x1.1,(x1.2.1,(x1.2.2.1,x1.2.2.2)))
noncomputable def Nm:Ent:=⟨N5,fun x=>CN x⟩
noncomputable def UL:TX:=⟨Ak,Ae,[],[4],[GL,Qg],N5⟩
theorem AF5 (a0:Tq3):wtF UL Tryz.f143 (a0)=CN a0:=by kernel_rfl
theorem Rw:Ai RR Nm:=Aa (X:=UL) ⟨AD,Af,AA⟩ (Ab (by exact ⟨⟨Gh,rfl⟩,⟨⟨UR,rfl⟩,trivial⟩⟩)) (Al (by kernel_rfl)) ⟨Tryz.func143,rfl,by kernel_rfl,rfl⟩ (fun x=>by exact AF5 x)
noncomputable def BB (s0:Tq1) (s1:Tq1) (s2:Tq6) (s3:Tq6) (s4:Int) (s5:Int):Option ((Tq1×(Tq1×(Tq6×Tq16))) ⊕ (Tq1×Tq1)) :=
 bif decide (s5<s4) then
  ((AQ s3 s5)).bind fun x0 =>
  bif ((((List.length s2):Nat):Int)==(0:Int)) then
   none
  else
  ((AQ s2 (Int.tmod (IntKind.wrap .i64 (s5 + (1:Int))) (((List.length s2):Nat):Int)))).bind fun x1 =>
  ((Cj (x0.1.1.1,(x0.1.1.2,(x0.1.2.1,x0.1.2.2))) (x1.2.1.1,(x1.2.1.2,(x1.2.2.1,x1.2.2.2))))).bind fun x2 =>
  ((Cj (x1.1.1.1,(x1.1.1.2,(x1.1.2.1,x1.1.2.2))) (x0.2.1.1,(x0.2.1.2,(x0.2.2.1,x0.2.2.2))))).bind fun x3 =>
  ((D7 (x2.1,(x2.2.1,(x2.2.2.1,x2.2.2.2))) (x3.1,(x3.2.1,(x3.2.2.1,x3.2.2.2))))).bind fun x4 =>
  ((CD (s1.1,(s1.2.1,(s1.2.2.1,s1.2.2.2))) (x4.1,(x4.2.1,(x4.2.2.1,x4.2.2.2))))).bind fun x5 =>
  some (Sum.inl ((s0.1,(s0.2.1,(s0.2.2.1,s0.2.2.2))),((x5.1,(x5.2.1,(x5.2.2.1,x5.2.2.2))),(s2,(s3,(s4,(IntKind.wrap .i64 (s5 + (1:Int)))))))))
 else
 some (Sum.inr ((s0.1,(s0.2.1,(s0.2.2.1,s0.2.2.2))),(s1.1,(s1.2.1,(s1.2.2.1,s1.2.2.2)))))
noncomputable def Ha (a0:Tq6):Option (Tq3) :=
 ((Bc (0:Int))).bind fun x0 =>
 (Ah (fun (s:(Tq1×(Tq1×(Tq6×Tq16))))=>BB s.1 s.2.1 s.2.2.1 s.2.2.2.1 s.2.2.2.2.1 s.2.2.2.2.2) ((false,((List.nil:List Int),(false,(List.nil:List Int)))),((x0.1,(x0.2.1,(x0.2.2.1,x0.2.2.2))),(a0,(a0,((((List.length a0):Nat):Int),(0:Int))))))).bind fun x1 =>
 ((CN (x1.2.1,(x1.2.2.1,(x1.2.2.2.1,x1.2.2.2.2))))).bind fun x2 =>
 some (x2.1,(x2.2.1,(x2.2.2.1,x2.2.2.2)))
noncomputable def UI:Ent:=⟨N4,fun x=>Ha x⟩
noncomputable def UN:TX:=⟨Ak,Ae,[],[4],[GL,Lx,Lt,GJ,Nm],N4⟩
theorem AM9 (a0:List Tq2):wtF UN Tryz.f75 (a0)=Ha a0:=by kernel_rfl
theorem Am9:Ai RR UI:=Aa (X:=UN) ⟨AD,Af,AA⟩ (Ab (by exact ⟨⟨Gh,rfl⟩,⟨⟨M8,rfl⟩,⟨⟨Nc,rfl⟩,⟨⟨Hv,rfl⟩,⟨⟨Rw,rfl⟩,trivial⟩⟩⟩⟩⟩)) (Al (by kernel_rfl)) ⟨Tryz.func75,rfl,by kernel_rfl,rfl⟩ (fun x=>by exact AM9 x)
noncomputable def DU (a0:Tq1):Option (Tq3×Bool) :=
 ((BR (a0.1,(a0.2.1,(a0.2.2.1,a0.2.2.2))) (40:Int))).bind fun x0 =>
 bif (!x0) then
  some ((false,((List.nil:List Int),(false,(List.nil:List Int)))),false)
 else
 some ((a0.1,(a0.2.1,(a0.2.2.1,a0.2.2.2))),true)
noncomputable def JV:Ent:=⟨K7,fun x=>DU x⟩
noncomputable def PE:TX:=⟨Ak,Ae,[],[4],[I5],K7⟩
theorem ZA (a0:Tq3):wtF PE Tryz.f77 (a0)=DU a0:=by kernel_rfl
theorem Ov:Ai RR JV:=Aa (X:=PE) ⟨AD,Af,AA⟩ (Ab (by exact ⟨⟨Mq,rfl⟩,trivial⟩)) (Al (by kernel_rfl)) ⟨Tryz.func77,rfl,by kernel_rfl,rfl⟩ (fun x=>by exact ZA x)
noncomputable def FC (a0:Tq6):Option (Tq3×Bool) :=
 ((Dq a0)).bind fun x0 =>
 bif (!x0) then
  some ((false,((List.nil:List Int),(false,(List.nil:List Int)))),false)
 else
 ((Ha a0)).bind fun x1 =>
 ((DU (x1.1,(x1.2.1,(x1.2.2.1,x1.2.2.2))))).bind fun x2 =>
 some ((x2.1.1,(x2.1.2.1,(x2.1.2.2.1,x2.1.2.2.2))),x2.2)
noncomputable def TQ:Ent:=⟨N7,fun x=>FC x⟩
noncomputable def T1:TX:=⟨Ak,Ae,[],[4],[Hb,UI,JV],N7⟩
theorem AL8 (a0:List Tq2):wtF T1 Tryz.f227 (a0)=FC a0:=by kernel_rfl
theorem Ao0:Ai RR TQ:=Aa (X:=T1) ⟨AD,Af,AA⟩ (Ab (by exact ⟨⟨Iq,rfl⟩,⟨⟨Am9,rfl⟩,⟨⟨Ov,rfl⟩,trivial⟩⟩⟩)) (Al (by kernel_rfl)) ⟨Tryz.func227,rfl,by kernel_rfl,rfl⟩ (fun x=>by exact AL8 x)
noncomputable def D8 (a0:Tq6) (a1:Int) (a2:Int):Option (Tq3×Bool) :=
 ((Bc a1)).bind fun x0 =>
 ((Bc a2)).bind fun x1 =>
 ((Bc (IntKind.wrap .i64 (a1 + (1:Int))))).bind fun x2 =>
 ((Bc (IntKind.wrap .i64 (a2 + (1:Int))))).bind fun x3 =>
 ((B2 a0 (x0.1,(x0.2.1,(x0.2.2.1,(x0.2.2.2,(x1.1,(x1.2.1,(x1.2.2.1,x1.2.2.2))))))) (x2.1,(x2.2.1,(x2.2.2.1,(x2.2.2.2,(x3.1,(x3.2.1,(x3.2.2.1,x3.2.2.2))))))))).bind fun x4 =>
 bif (!x4.2) then
  some ((false,((List.nil:List Int),(false,(List.nil:List Int)))),false)
 else
 ((FC x4.1)).bind fun x5 =>
 some ((x5.1.1,(x5.1.2.1,(x5.1.2.2.1,x5.1.2.2.2))),x5.2)
noncomputable def Xt:Ent:=⟨OU,fun x=>D8 x.1 x.2.1 x.2.2⟩
noncomputable def W4:TX:=⟨Ak,Ae,[],[4],[GL,W8,TQ],OU⟩
theorem A0t (a0:List Tq2) (a1:Int) (a2:Int):wtF W4 Tryz.f175 (a0,a1,a2)=D8 a0 a1 a2:=by kernel_rfl
theorem AI8:Ai RR Xt:=Aa (X:=W4) ⟨AD,Af,AA⟩ (Ab (by exact ⟨⟨Gh,rfl⟩,⟨⟨AE8,rfl⟩,⟨⟨Ao0,rfl⟩,trivial⟩⟩⟩)) (Al (by kernel_rfl)) ⟨Tryz.func175,rfl,by kernel_rfl,rfl⟩ (fun x=>by exact A0t x.1 x.2.1 x.2.2)
noncomputable def B7 (s0:Tq5) (s1:(List Tq0)) (s2:Tq6) (s3:Int) (s4:Int):Option ((Tq5×((List Tq0)×Tq16)) ⊕ (Tq26 ⊕ Tq31)) :=
 bif decide (s4<(IntKind.wrap .i64 (s0.1 + s0.2.2.1))) then
  ((D8 s2 s4 s3)).bind fun x0 =>
  bif (!x0.2) then
   some (Sum.inr (Sum.inr ((List.nil:List Tq0),false)))
  else
  ((De 64 4 s1 (List.cons ((x0.1.1,x0.1.2.1),(x0.1.2.2.1,x0.1.2.2.2)) (List.nil:List Tq0)))).bind fun x1 =>
  some (Sum.inl ((s0.1,(s0.2.1,(s0.2.2.1,s0.2.2.2))),(x1,(s2,(s3,(IntKind.wrap .i64 (s4 + (1:Int))))))))
 else
 some (Sum.inr (Sum.inl ((s0.1,(s0.2.1,(s0.2.2.1,s0.2.2.2))),(s1,(s2,s3)))))
noncomputable def BO (s0:Tq5) (s1:(List Tq0)) (s2:Tq6) (s3:Int):Option (Tq26 ⊕ ((List Tq0) ⊕ Tq31)) :=
 bif decide (s3<(IntKind.wrap .i64 (s0.2.1 + s0.2.2.2))) then
  (Ah (fun (s:(Tq5×((List Tq0)×Tq16)))=>B7 s.1 s.2.1 s.2.2.1 s.2.2.2.1 s.2.2.2.2) ((s0.1,(s0.2.1,(s0.2.2.1,s0.2.2.2))),(s1,(s2,(s3,s0.1))))).bind fun x0 =>
  Sum.elim
   (fun x1 =>
   some (Sum.inl ((x1.1.1,(x1.1.2.1,(x1.1.2.2.1,x1.1.2.2.2))),(x1.2.1,(x1.2.2.1,(IntKind.wrap .i64 (x1.2.2.2 + (1:Int))))))))
   (fun x2 =>
   some (Sum.inr (Sum.inr (x2.1,x2.2))))
   x0
 else
 some (Sum.inr (Sum.inl s1))
noncomputable def B8 (a0:Tq6) (a1:Tq5):Option (List ((Tq10×Tq10))×Bool) :=
 ((Dq a0)).bind fun x0 =>
 bif (!x0) then
  some ((List.nil:List Tq0),false)
 else
 ((Da (a1.1,(a1.2.1,(a1.2.2.1,a1.2.2.2))))).bind fun x1 =>
 bif (!x1) then
  some ((List.nil:List Tq0),false)
 else
 (Ah (fun (s:Tq26)=>BO s.1 s.2.1 s.2.2.1 s.2.2.2) ((a1.1,(a1.2.1,(a1.2.2.1,a1.2.2.2))),((List.nil:List Tq0),(a0,a1.2.1)))).bind fun x2 =>
 Sum.elim
  (fun x3 =>
  some (x3,true))
  (fun x4 =>
  some (x4.1,x4.2))
  x2
noncomputable def TU:Ent:=⟨MZ,fun x=>B8 x.1 x.2⟩
noncomputable def Tt:TX:=⟨Ak,Ae,[],[4],[Hb,Kg,Xt],MZ⟩
theorem AL9 (a0:List Tq2) (a1:Tq22):wtF Tt Tryz.f116 (a0,a1)=B8 a0 a1:=by kernel_rfl
theorem Ao7:Ai RR TU:=Aa (X:=Tt) ⟨AD,Af,AA⟩ (Ab (by exact ⟨⟨Iq,rfl⟩,⟨⟨Oo,rfl⟩,⟨⟨AI8,rfl⟩,trivial⟩⟩⟩)) (Al (by kernel_rfl)) ⟨Tryz.func116,rfl,by kernel_rfl,rfl⟩ (fun x=>by exact AL9 x.1 x.2)
noncomputable def Cg (s0:Tq5) (s1:(List Tq0)) (s2:(List Tq8)) (s3:Int) (s4:Int):Option (Tq14 ⊕ (Tq5×((List Tq0)×(List Tq8)))) :=
 bif decide (s4<s3) then
  ((Bc (0:Int))).bind fun x0 =>
  ((De 64 4 s1 (List.cons ((x0.1,x0.2.1),(x0.2.2.1,x0.2.2.2)) (List.nil:List Tq0)))).bind fun x1 =>
  some (Sum.inl ((s0.1,(s0.2.1,(s0.2.2.1,s0.2.2.2))),(x1,(s2,(s3,(IntKind.wrap .i64 (s4 + (1:Int))))))))
 else
 some (Sum.inr ((s0.1,(s0.2.1,(s0.2.2.1,s0.2.2.2))),(s1,s2)))
noncomputable def BQ (s0:Tq5) (s1:(List Tq0)) (s2:(List Tq8)) (s3:Int) (s4:Int) (s5:(List Tq0)) (s6:Int) (s7:Int):Option (Tq18 ⊕ (Tq14 ⊕ Tq31)) :=
 bif decide (s7<s6) then
  ((AQ s5 s7)).bind fun x0 =>
  ((A8 s7 (List.length s1))).bind fun x1 =>
  ((A1 s1 x1)).bind fun x2 =>
  ((CD (x2.1.1,(x2.1.2,(x2.2.1,x2.2.2))) (x0.1.1,(x0.1.2,(x0.2.1,x0.2.2))))).bind fun x3 =>
  ((DU (x3.1,(x3.2.1,(x3.2.2.1,x3.2.2.2))))).bind fun x4 =>
  ((A8 s7 (List.length s1))).bind fun x5 =>
  ((A1 s1 x5)).bind fun x6 =>
  bif (!x4.2) then
   some (Sum.inr (Sum.inr ((List.nil:List Tq0),false)))
  else
  some (Sum.inl ((s0.1,(s0.2.1,(s0.2.2.1,s0.2.2.2))),((List.set s1 x5 ((x4.1.1,x4.1.2.1),(x4.1.2.2.1,x4.1.2.2.2))),(s2,(s3,(s4,(s5,(s6,(IntKind.wrap .i64 (s7 + (1:Int)))))))))))
 else
 some (Sum.inr (Sum.inl ((s0.1,(s0.2.1,(s0.2.2.1,s0.2.2.2))),(s1,(s2,(s3,s4))))))
noncomputable def Br (s0:Tq5) (s1:(List Tq0)) (s2:(List Tq8)) (s3:Int) (s4:Int):Option (Tq14 ⊕ ((List Tq0) ⊕ Tq31)) :=
 bif decide (s4<s3) then
  ((AQ s2 s4)).bind fun x0 =>
  ((JY x0)).bind fun x1 =>
  ((B8 x1 (s0.1,(s0.2.1,(s0.2.2.1,s0.2.2.2))))).bind fun x2 =>
  bif (!x2.2) then
   some (Sum.inr (Sum.inr ((List.nil:List Tq0),false)))
  else
  (Ah (fun (s:Tq18)=>BQ s.1 s.2.1 s.2.2.1 s.2.2.2.1 s.2.2.2.2.1 s.2.2.2.2.2.1 s.2.2.2.2.2.2.1 s.2.2.2.2.2.2.2) ((s0.1,(s0.2.1,(s0.2.2.1,s0.2.2.2))),(s1,(s2,(s3,(s4,(x2.1,((((List.length x2.1):Nat):Int),(0:Int))))))))).bind fun x3 =>
  Sum.elim
   (fun x4 =>
   some (Sum.inl ((x4.1.1,(x4.1.2.1,(x4.1.2.2.1,x4.1.2.2.2))),(x4.2.1,(x4.2.2.1,(x4.2.2.2.1,(IntKind.wrap .i64 (x4.2.2.2.2 + (1:Int)))))))))
   (fun x5 =>
   some (Sum.inr (Sum.inr (x5.1,x5.2))))
   x3
 else
 some (Sum.inr (Sum.inl s1))
noncomputable def Ey (a0:(List UInt8)) (a1:Tq5):Option (List ((Tq10×Tq10))×Bool) :=
 ((FV a0)).bind fun x0 =>
 bif (!x0.2.2.2) then
  some ((List.nil:List Tq0),false)
 else
 ((Da (a1.1,(a1.2.1,(a1.2.2.1,a1.2.2.2))))).bind fun x1 =>
 bif (!x1) then
  some ((List.nil:List Tq0),false)
 else
 (Ah (fun (s:Tq14)=>Cg s.1 s.2.1 s.2.2.1 s.2.2.2.1 s.2.2.2.2) ((a1.1,(a1.2.1,(a1.2.2.1,a1.2.2.2))),((List.nil:List Tq0),(x0.1,((IntKind.wrap .i64 (a1.2.2.1*a1.2.2.2)),(0:Int)))))).bind fun x2 =>
 (Ah (fun (s:Tq14)=>Br s.1 s.2.1 s.2.2.1 s.2.2.2.1 s.2.2.2.2) ((x2.1.1,(x2.1.2.1,(x2.1.2.2.1,x2.1.2.2.2))),(x2.2.1,(x2.2.2,((((List.length x2.2.2):Nat):Int),(0:Int)))))).bind fun x3 =>
 Sum.elim
  (fun x4 =>
  some (x4,true))
  (fun x5 =>
  some (x5.1,x5.2))
  x3
noncomputable def Rf:Ent:=⟨LI,fun x=>Ey x.1 x.2⟩
noncomputable def Rg:TX:=⟨Ak,Ae,[],[4],[Rl,Kg,GL,Z6,TU,GJ,JV],LI⟩
theorem Ap1 (a0:List UInt8) (a1:Tq22):wtF Rg Tryz.f50 (a0,a1)=Ey a0 a1:=by kernel_rfl
theorem Al3:Ai RR Rf:=Aa (X:=Rg) ⟨AD,Af,AA⟩ (Ab (by exact ⟨⟨Ai4,rfl⟩,⟨⟨Oo,rfl⟩,⟨⟨Gh,rfl⟩,⟨⟨A0L,rfl⟩,⟨⟨Ao7,rfl⟩,⟨⟨Hv,rfl⟩,⟨⟨Ov,rfl⟩,trivial⟩⟩⟩⟩⟩⟩⟩)) (Al (by kernel_rfl)) ⟨Tryz.func50,rfl,by kernel_rfl,rfl⟩ (fun x=>by exact Ap1 x.1 x.2)
noncomputable def Ll (a0:Tq7):Option (Tq10) :=
 ((Bj false a0.2)).bind fun x0 =>
 some (x0.2,x0.1)
noncomputable def W2:Ent:=⟨PG,fun x=>Ll x⟩
noncomputable def Xg:TX:=⟨Ak,Ae,[],[4],[DP],PG⟩
theorem AP7 (a0:Tq10):wtF Xg Tryz.f263 (a0)=Ll a0:=by kernel_rfl
theorem AH9:Ai RR W2:=Aa (X:=Xg) ⟨AD,Af,AA⟩ (Ab (by exact ⟨⟨Dx,rfl⟩,trivial⟩)) (Al (by kernel_rfl)) ⟨Tryz.func263,rfl,by kernel_rfl,rfl⟩ (fun x=>by exact AP7 x)
noncomputable def IX (a0:Tq1):Option (Tq3) :=
 ((Ll (a0.1,a0.2.1))).bind fun x0 =>
 ((Bj false a0.2.2.2)).bind fun x1 =>
 some (x0.1,(x0.2,(x1.2,x1.1)))
noncomputable def Yd:Ent:=⟨OK,fun x=>IX x⟩
noncomputable def WN:TX:=⟨Ak,Ae,[],[4],[W2,DP],OK⟩
theorem A0y (a0:Tq3):wtF WN Tryz.f219 (a0)=IX a0:=by kernel_rfl
theorem AJ9:Ai RR Yd:=Aa (X:=WN) ⟨AD,Af,AA⟩ (Ab (by exact ⟨⟨AH9,rfl⟩,⟨⟨Dx,rfl⟩,trivial⟩⟩)) (Al (by kernel_rfl)) ⟨Tryz.func219,rfl,by kernel_rfl,rfl⟩ (fun x=>by exact A0y x)
noncomputable def Lq (a0:Tq7) (a1:Tq7):Option (Tq10) :=
 ((EW (a1.1,a1.2))).bind fun x0 =>
 ((Gw (a0.1,a0.2) (x0.1,x0.2))).bind fun x1 =>
 some (x1.1,x1.2)
noncomputable def WR:Ent:=⟨Qh,fun x=>Lq x.1 x.2⟩
noncomputable def Yj:TX:=⟨Ak,Ae,[],[4],[LE,Po],Qh⟩
theorem AQ1 (a0:Tq10) (a1:Tq10):wtF Yj Tryz.f294 (a0,a1)=Lq a0 a1:=by kernel_rfl
theorem AM8:Ai RR WR:=Aa (X:=Yj) ⟨AD,Af,AA⟩ (Ab (by exact ⟨⟨Nz,rfl⟩,⟨⟨T2,rfl⟩,trivial⟩⟩)) (Al (by kernel_rfl)) ⟨Tryz.func294,rfl,by kernel_rfl,rfl⟩ (fun x=>by exact AQ1 x.1 x.2)
noncomputable def FB (a0:Tq7) (a1:Tq7):Option (Tq10) :=
 ((E5 (a0.1,a0.2) (a1.1,a1.2))).bind fun x0 =>
 ((BH (x0.2.1,x0.2.2))).bind fun x1 =>
 bif decide (x1<(0:Int)) then
  ((Dj (1:Int))).bind fun x2 =>
  ((Lq (x0.1.1,x0.1.2) (x2.1,x2.2))).bind fun x3 =>
  some (x3.1,x3.2)
 else
 some (x0.1.1,x0.1.2)
noncomputable def L7:Ent:=⟨HQ,fun x=>FB x.1 x.2⟩
noncomputable def Mo:TX:=⟨Ak,Ae,[],[4],[PD,Jq,JK,WR],HQ⟩
theorem Vm (a0:Tq10) (a1:Tq10):wtF Mo Tryz.f266 (a0,a1)=FB a0 a1:=by kernel_rfl
theorem TE:Ai RR L7:=Aa (X:=Mo) ⟨AD,Af,AA⟩ (Ab (by exact ⟨⟨UH,rfl⟩,⟨⟨LN,rfl⟩,⟨⟨Kj,rfl⟩,⟨⟨AM8,rfl⟩,trivial⟩⟩⟩⟩)) (Al (by kernel_rfl)) ⟨Tryz.func266,rfl,by kernel_rfl,rfl⟩ (fun x=>by exact Vm x.1 x.2)
noncomputable def EA (a0:Tq1):Option (Tq10) :=
 ((FB (a0.1,a0.2.1) (a0.2.2.1,a0.2.2.2))).bind fun x0 =>
 some (x0.1,x0.2)
noncomputable def Ro:Ent:=⟨LM,fun x=>EA x⟩
noncomputable def RJ:TX:=⟨Ak,Ae,[],[4],[L7],LM⟩
theorem Ao2 (a0:Tq3):wtF RJ Tryz.f222 (a0)=EA a0:=by kernel_rfl
theorem Ad5:Ai RR Ro:=Aa (X:=RJ) ⟨AD,Af,AA⟩ (Ab (by exact ⟨⟨TE,rfl⟩,trivial⟩)) (Al (by kernel_rfl)) ⟨Tryz.func222,rfl,by kernel_rfl,rfl⟩ (fun x=>by exact Ao2 x)
noncomputable def Fn (s0:Tq7) (s1:Int) (s2:Int):Option ((Tq7×(Int×Int)) ⊕ (Tq7×Int)) :=
 bif decide (s2>=(0:Int)) then
  ((AQ s0.2 s2)).bind fun x0 =>
  some (Sum.inl ((s0.1,s0.2),((IntKind.wrap .i64 ((IntKind.wrap .i64 (s1*(65536:Int))) + x0)),(IntKind.wrap .i64 (s2-(1:Int))))))
 else
 some (Sum.inr ((s0.1,s0.2),s1))
noncomputable def HT (a0:Tq7):Option (Int×Bool) :=
 ((GX (a0.1,a0.2))).bind fun x0 =>
 bif (!x0) then
  some ((0:Int),false)
 else
 ((Dj (4611686018427387904:Int))).bind fun x1 =>
 ((BG a0.2 x1.2)).bind fun x2 =>
 bif decide (x2>(0:Int)) then
  some ((0:Int),false)
 else
 (Ah (fun (s:(Tq7×(Int×Int)))=>Fn s.1 s.2.1 s.2.2) ((a0.1,a0.2),((0:Int),(IntKind.wrap .i64 ((((List.length a0.2):Nat):Int)-(1:Int)))))).bind fun x3 =>
 bif x3.1.1 then
  some ((IntKind.wrap .i64 ((0:Int)-x3.2)),true)
 else
 some (x3.2,true)
noncomputable def Az5:Ent:=⟨Vu,fun x=>HT x⟩
noncomputable def Ay2:TX:=⟨Ak,Ae,[],[4],[PT,JK,D2],Vu⟩
theorem A4c (a0:Tq10):wtF Ay2 Tryz.f221 (a0)=HT a0:=by kernel_rfl
theorem A05:Ai RR Az5:=Aa (X:=Ay2) ⟨AD,Af,AA⟩ (Ab (by exact ⟨⟨U6,rfl⟩,⟨⟨Kj,rfl⟩,⟨⟨ER,rfl⟩,trivial⟩⟩⟩)) (Al (by kernel_rfl)) ⟨Tryz.func221,rfl,by kernel_rfl,rfl⟩ (fun x=>by exact A4c x)
noncomputable def KZ (a0:Tq1):Option (Int) :=
 ((IX (a0.1,(a0.2.1,(a0.2.2.1,a0.2.2.2))))).bind fun x0 =>
 (((Bc (1:Int))).bind fun x1 =>
  ((CP (x1.1,(x1.2.1,(x1.2.2.1,x1.2.2.2))) (x0.1,(x0.2.1,(x0.2.2.1,x0.2.2.2))))).bind fun x2 =>
  bif x2 then
   ((Bc (1:Int))).bind fun x3 =>
   some (Sum.inr (x3.1,(x3.2.1,(x3.2.2.1,x3.2.2.2))))
  else
  some (Sum.inr (x0.1,(x0.2.1,(x0.2.2.1,x0.2.2.2))))).bind fun x4 =>
 Sum.elim
  (fun x5 =>
  some x5)
  (fun x6 =>
  ((Bc (255:Int))).bind fun x7 =>
  ((Cj (x6.1,(x6.2.1,(x6.2.2.1,x6.2.2.2))) (x7.1,(x7.2.1,(x7.2.2.1,x7.2.2.2))))).bind fun x8 =>
  ((Bc (1:Int))).bind fun x9 =>
  ((CN (x9.1,(x9.2.1,(x9.2.2.1,x9.2.2.2))))).bind fun x10 =>
  ((CD (x8.1,(x8.2.1,(x8.2.2.1,x8.2.2.2))) (x10.1,(x10.2.1,(x10.2.2.1,x10.2.2.2))))).bind fun x11 =>
  ((EA (x11.1,(x11.2.1,(x11.2.2.1,x11.2.2.2))))).bind fun x12 =>
  ((HT (x12.1,x12.2))).bind fun x13 =>
  some x13.1)
  x4
noncomputable def Aa6:Ent:=⟨Sq,fun x=>KZ x⟩
noncomputable def Ai8:TX:=⟨Ak,Ae,[],[4],[Yd,GL,Jz,Lx,Nm,GJ,Ro,Az5],Sq⟩
theorem A1i (a0:Tq3):wtF Ai8 Tryz.f172 (a0)=KZ a0:=by kernel_rfl
theorem AR9:Ai RR Aa6:=Aa (X:=Ai8) ⟨AD,Af,AA⟩ (Ab (by exact ⟨⟨AJ9,rfl⟩,⟨⟨Gh,rfl⟩,⟨⟨LP,rfl⟩,⟨⟨M8,rfl⟩,⟨⟨Rw,rfl⟩,⟨⟨Hv,rfl⟩,⟨⟨Ad5,rfl⟩,⟨⟨A05,rfl⟩,trivial⟩⟩⟩⟩⟩⟩⟩⟩)) (Al (by kernel_rfl)) ⟨Tryz.func172,rfl,by kernel_rfl,rfl⟩ (fun x=>by exact A1i x)
noncomputable def DB (s0:(List Int)) (s1:(List Tq0)) (s2:Int) (s3:Int):Option (Tq30 ⊕ (List Int)) :=
 bif decide (s3<s2) then
  ((AQ s1 s3)).bind fun x0 =>
  ((KZ (x0.1.1,(x0.1.2,(x0.2.1,x0.2.2))))).bind fun x1 =>
  ((De 8 1 s0 (List.cons x1 (List.nil:List Int)))).bind fun x2 =>
  some (Sum.inl (x2,(s1,(s2,(IntKind.wrap .i64 (s3 + (1:Int)))))))
 else
 some (Sum.inr s0)
noncomputable def GR (a0:(List Tq0)):Option (List (Int)) :=
 (Ah (fun (s:Tq30)=>DB s.1 s.2.1 s.2.2.1 s.2.2.2) ((List.nil:List Int),(a0,((((List.length a0):Nat):Int),(0:Int))))).bind fun x0 =>
 some x0
noncomputable def Yh:Ent:=⟨Ps,fun x=>GR x⟩
noncomputable def WZ:TX:=⟨Ak,Ae,[],[4],[Aa6],Ps⟩
theorem A0W (a0:List ((Tq10×Tq10))):wtF WZ Tryz.f109 (a0)=GR a0:=by kernel_rfl
theorem AG7:Ai RR Yh:=Aa (X:=WZ) ⟨AD,Af,AA⟩ (Ab (by exact ⟨⟨AR9,rfl⟩,trivial⟩)) (Al (by kernel_rfl)) ⟨Tryz.func109,rfl,by kernel_rfl,rfl⟩ (fun x=>by exact A0W x)
noncomputable def DL (a0:(List UInt8)) (a1:Tq5):Option (List (Int)×Bool) :=
 ((Ey a0 (a1.1,(a1.2.1,(a1.2.2.1,a1.2.2.2))))).bind fun x0 =>
 bif (!x0.2) then
  some ((List.nil:List Int),false)
 else
 ((GR x0.1)).bind fun x1 =>
 some (x1,true)
noncomputable def OP:Ent:=⟨K2,fun x=>DL x.1 x.2⟩
noncomputable def Pu:TX:=⟨Ak,Ae,[],[4],[Rf,Yh],K2⟩
theorem Af7 (a0:List UInt8) (a1:Tq22):wtF Pu Tryz.f40 (a0,a1)=DL a0 a1:=by kernel_rfl
theorem YC:Ai RR OP:=Aa (X:=Pu) ⟨AD,Af,AA⟩ (Ab (by exact ⟨⟨Al3,rfl⟩,⟨⟨AG7,rfl⟩,trivial⟩⟩)) (Al (by kernel_rfl)) ⟨Tryz.func40,rfl,by kernel_rfl,rfl⟩ (fun x=>by exact Af7 x.1 x.2)
noncomputable def U4 (s0:(List Int)) (s1:(List Int)) (s2:Int):Option (Tq17 ⊕ (Unit ⊕ Bool)) :=
 bif decide (s2<(((List.length s0):Nat):Int)) then
  ((AQ s0 s2)).bind fun x0 =>
  ((AQ s1 s2)).bind fun x1 =>
  bif (x0 != x1) then
   some (Sum.inr (Sum.inr false))
  else
  some (Sum.inl (s0,(s1,(IntKind.wrap .i64 (s2 + (1:Int))))))
 else
 some (Sum.inr (Sum.inl ()))
noncomputable def H9 (a0:(List Int)) (a1:(List Int)):Option (Bool) :=
 bif ((((List.length a0):Nat):Int) != (((List.length a1):Nat):Int)) then
  some false
 else
 (Ah (fun (s:Tq17)=>U4 s.1 s.2.1 s.2.2) (a0,(a1,(0:Int)))).bind fun x0 =>
 Sum.elim
  (fun x1 =>
  some true)
  (fun x2 =>
  some x2)
  x0
noncomputable def Zw:Ent:=⟨R4,fun x=>H9 x.1 x.2⟩
noncomputable def Ze:TX:=⟨Ak,Ae,[],[4],[],R4⟩
theorem A1D (a0:List (Int)) (a1:List (Int)):wtF Ze Tryz.f41 (a0,a1)=H9 a0 a1:=by kernel_rfl
theorem A0o:Ai RR Zw:=Aa (X:=Ze) ⟨AD,Af,AA⟩ (Ab (by exact trivial)) (Al (by kernel_rfl)) ⟨Tryz.func41,rfl,by kernel_rfl,rfl⟩ (fun x=>by exact A1D x.1 x.2)
noncomputable def OY (s0:(List Int)) (s1:Int) (s2:Int):Option (Tq11 ⊕ Tq33) :=
 bif decide (s2<(((List.length s0):Nat):Int)) then
  ((A8 s2 (List.length s0))).bind fun x0 =>
  ((A1 s0 x0)).bind fun x1 =>
  some (Sum.inl ((List.set s0 x0 s1),((IntKind.wrap .i64 (s1 + (1:Int))),(IntKind.wrap .i64 (s2 + (1:Int))))))
 else
 some (Sum.inr (s0,s1))
noncomputable def HC (a0:(List Int)) (a1:Int):Option (List (Int)×Int) :=
 (Ah (fun (s:Tq11)=>OY s.1 s.2.1 s.2.2) (a0,(a1,(0:Int)))).bind fun x0 =>
 some (x0.1,x0.2)
noncomputable def T9:Ent:=⟨M4,fun x=>HC x.1 x.2⟩
noncomputable def Tz:TX:=⟨Ak,Ae,[],[4],[],M4⟩
theorem AB4 (a0:List (Int)) (a1:Int):wtF Tz Tryz.f42 (a0,a1)=HC a0 a1:=by kernel_rfl
theorem Am4:Ai RR T9:=Aa (X:=Tz) ⟨AD,Af,AA⟩ (Ab (by exact trivial)) (Al (by kernel_rfl)) ⟨Tryz.func42,rfl,by kernel_rfl,rfl⟩ (fun x=>by exact AB4 x.1 x.2)
noncomputable def Px (s0:(List Int)) (s1:Int) (s2:Int):Option (Tq11 ⊕ (Int ⊕ Int)) :=
 bif decide (s2<(((List.length s0):Nat):Int)) then
  ((AQ s0 s2)).bind fun x0 =>
  bif (x0 != s1) then
   some (Sum.inr (Sum.inr (-(1:Int))))
  else
  some (Sum.inl (s0,((IntKind.wrap .i64 (s1 + (1:Int))),(IntKind.wrap .i64 (s2 + (1:Int))))))
 else
 some (Sum.inr (Sum.inl s1))
noncomputable def Fz (a0:(List Int)) (a1:Int):Option (Int) :=
 (Ah (fun (s:Tq11)=>Px s.1 s.2.1 s.2.2) (a0,(a1,(0:Int)))).bind fun x0 =>
 Sum.elim
  (fun x1 =>
  some x1)
  (fun x2 =>
  some x2)
  x0
noncomputable def Ub:Ent:=⟨Nq,fun x=>Fz x.1 x.2⟩
noncomputable def TV:TX:=⟨Ak,Ae,[],[4],[],Nq⟩
theorem AB9 (a0:List (Int)) (a1:Int):wtF TV Tryz.f43 (a0,a1)=Fz a0 a1:=by kernel_rfl
theorem An1:Ai RR Ub:=Aa (X:=TV) ⟨AD,Af,AA⟩ (Ab (by exact trivial)) (Al (by kernel_rfl)) ⟨Tryz.func43,rfl,by kernel_rfl,rfl⟩ (fun x=>by exact AB9 x.1 x.2)
noncomputable def Co (a0:(List UInt8)) (a1:Tq5):Option (Bool) :=
 bif decide ((((List.length a0):Nat):Int)>(1048576:Int)) then
  some true
 else
 ((Eb (a1.1,(a1.2.1,(a1.2.2.1,a1.2.2.2))))).bind fun x0 =>
 ((E8 a0 (x0.1,(x0.2.1,(x0.2.2.1,x0.2.2.2))))).bind fun x1 =>
 ((Eb (a1.1,(a1.2.1,(a1.2.2.1,a1.2.2.2))))).bind fun x2 =>
 ((DL a0 (x2.1,(x2.2.1,(x2.2.2.1,x2.2.2.2))))).bind fun x3 =>
 ((H9 x3.1 x1.1)).bind fun x4 =>
 bif (!x4) then
  some false
 else
 bif (!(x3.2==x1.2)) then
  some false
 else
 ((HC x3.1 (1:Int))).bind fun x5 =>
 bif decide ((List.length x5.1)=(List.length x3.1)) then
  ((Fz x5.1 (1:Int))).bind fun x6 =>
  bif decide (x6<(0:Int)) then
   some false
  else
  bif (x6 != x5.2) then
   some false
  else
  ((Eb (a1.1,(a1.2.1,(a1.2.2.1,a1.2.2.2))))).bind fun x7 =>
  ((DL a0 (x7.1,(x7.2.1,(x7.2.2.1,x7.2.2.2))))).bind fun x8 =>
  ((H9 x8.1 x1.1)).bind fun x9 =>
  bif (!x9) then
   some false
  else
  bif (!(x8.2==x1.2)) then
   some false
  else
  ((Fz x5.1 (1:Int))).bind fun x10 =>
  bif decide (x10<(0:Int)) then
   some false
  else
  bif (x10 != x5.2) then
   some false
  else
  some true
 else
 none
noncomputable def OE:Ent:=⟨EK,fun x=>Co x.1 x.2⟩
noncomputable def HN:TX:=⟨Ak,Ae,[],[4],[UT,Pc,OP,Zw,T9,Ub],EK⟩
theorem OC (a0:List UInt8) (a1:Tq22):wtF HN Tryz.f6 (a0,a1)=Co a0 a1:=by kernel_rfl
theorem Ng:Ai RR OE:=Aa (X:=HN) ⟨AD,Af,AA⟩ (Ab (by exact ⟨⟨Ao5,rfl⟩,⟨⟨Yy,rfl⟩,⟨⟨YC,rfl⟩,⟨⟨A0o,rfl⟩,⟨⟨Am4,rfl⟩,⟨⟨An1,rfl⟩,trivial⟩⟩⟩⟩⟩⟩)) (Al (by kernel_rfl)) ⟨Tryz.func6,rfl,by kernel_rfl,rfl⟩ (fun x=>by exact OC x.1 x.2)
end
section
open Go
section
variable {α β σ ρ:Type} {body : σ->Option (σ ⊕ ρ)}
theorem Av5 {l:List α} (st:Nat->β->σ) (step : β->α->β) (fin : β->ρ) (I:Nat->β->Prop)
  (hgo:∀ k b a,l[k]? = some a->I k b->body (st k b)=some (.inl (st (k + 1) (step b a)))/\I (k + 1) (step b a))
  (hend:∀ b,I l.length b->body (st l.length b)=some (.inr (fin b))) (b : β) (h0:I 0 b) :
  Ah body (st 0 b)=some (fin (l.foldl step b))/\I l.length (l.foldl step b):=by
 have key:∀ (n k:Nat) (b : β),k + n=l.length->I k b->Ah body (st k b)=some (fin ((l.drop k).foldl step b))/\I l.length ((l.drop k).foldl step b):=by
  intro n
  induction n with
  | zero =>
   intro k b hk hI;have:k=l.length:=by omega
   subst this;rw[List.drop_length];exact ⟨Aq (hend b hI),hI⟩
  | succ n ih =>
   intro k b hk hI;have hlt:k<l.length:=by omega
   have hd:l.drop k=l[k]::l.drop (k + 1):=zb0 hlt;have he:l[k]? = some l[k]:=za1 hlt;obtain ⟨h1,h2⟩:=hgo k b _ he hI;rw[hd,List.foldl_cons,AY h1];exact ih (k + 1) _ (by omega) h2
 have:=key l.length 0 b (by omega) h0
 rwa [ze7] at this
def X3 (step : β->α->ρ ⊕ β) : β->List α->ρ ⊕ β
 | b,[]=>.inr b
 | b,a::l=>match step b a with | .inl r=>.inl r | .inr b'=>X3 step b' l
theorem A6r {l:List α} (st:Nat->β->σ) (step : β->α->ρ ⊕ β) (fin : β->ρ) (I:Nat->β->Prop)
  (hgo:∀ k b a,l[k]? = some a->I k b->(∃ b',step b a = .inr b'/\body (st k b)=some (.inl (st (k + 1) b'))/\I (k + 1) b')\/∃ r,step b a = .inl r/\body (st k b)=some (.inr r))
  (hend:∀ b,I l.length b->body (st l.length b)=some (.inr (fin b))) (b : β) (h0:I 0 b) :
  Ah body (st 0 b)=some (Sum.elim id fin (X3 step b l))/\∀ b',X3 step b l = .inr b'->I l.length b':=by
 have key:∀ (n k:Nat) (b : β),k + n=l.length->I k b->Ah body (st k b)=some (Sum.elim id fin (X3 step b (l.drop k)))/\∀ b',X3 step b (l.drop k) = .inr b'->I l.length b':=by
  intro n
  induction n with
  | zero =>
   intro k b hk hI;have:k=l.length:=by omega
   subst this;rw[List.drop_length];exact ⟨Aq (hend b hI),fun b' h=>by cases h; exact hI⟩
  | succ n ih =>
   intro k b hk hI;have hlt:k<l.length:=by omega
   have hd:l.drop k=l[k]::l.drop (k + 1):=zb0 hlt;have he:l[k]? = some l[k]:=za1 hlt;rw[hd];unfold X3;rcases hgo k b _ he hI with ⟨b',h1,h2,h3⟩ | ⟨r,h1,h2⟩
   ·rw[h1,AY h2];exact ih (k + 1) _ (by omega) h3
   ·rw[h1];exact ⟨Aq h2,fun b' h=>by cases h⟩
 have:=key l.length 0 b (by omega) h0
 rwa [ze7] at this
theorem MB (st:Nat->β->σ) (fin : β->ρ) (I:Nat->β->Prop)
  (hgo:∀ n b,I (n + 1) b->∃ b',body (st (n + 1) b)=some (.inl (st n b'))/\I n b')
  (hend:∀ b,I 0 b->body (st 0 b)=some (.inr (fin b))):∀ n b,I n b->∃ b',Ah body (st n b)=some (fin b')/\I 0 b':=by
 intro n
 induction n with
 | zero=>intro b h; exact ⟨b,Aq (hend b h),h⟩
 | succ n ih =>
  intro b h;obtain ⟨b1,h1,h2⟩:=hgo n b h;obtain ⟨b2,h3,h4⟩:=ih b1 h2;exact ⟨b2,by rw[AY h1,h3],h4⟩
end
theorem EM {β σ ρ:Type} {body : σ->Option (σ ⊕ ρ)} (st:Nat->β->σ) (fin : β->ρ) (I:Nat->β->Prop) (e:Nat)
  (hgo:∀ k b,k<e->I k b->∃ b',body (st k b)=some (.inl (st (k + 1) b'))/\I (k + 1) b')
  (hend:∀ b,I e b->body (st e b)=some (.inr (fin b))):∀ k b,k<=e->I k b->∃ b',Ah body (st k b)=some (fin b')/\I e b':=by
 have key:∀ (n k:Nat) (b : β),k + n=e->I k b->∃ b',Ah body (st k b)=some (fin b')/\I e b':=by
  intro n
  induction n with
  | zero =>
   intro k b hk hI;have:k=e:=by omega
   subst this;exact ⟨b,Aq (hend b hI),hI⟩
  | succ n ih =>
   intro k b hk hI;obtain ⟨b1,h1,h2⟩:=hgo k b (by omega) hI;obtain ⟨b2,h3,h4⟩:=ih (k + 1) b1 (by omega) h2;exact ⟨b2,by rw[AY h1,h3],h4⟩
 intro k b hk hI;exact key (e-k) k b (by omega) hI
theorem Ay4 {n:Int} (h1 : 0<=n) (h2:n<18446744073709551616):IntKind.wrap .u64 n=n:=by rw[IntKind.wrap_u64]; omega
def AZ6 {α:Type} (l:List α):Prop:=l.length<1099511627776
theorem Fc {α:Type} {l:List α} {k:Nat} {a : α} (h:l[k]? = some a):k<l.length:=(za3.1 h).1
structure Cur (B:Nat) (c:List Int×Int×Int):Prop where
 bytes:∀ b∈c.1,0<=b/\b<=255
 short:c.1.length<=1048576
 lo : 0<=c.2.1
 hi:c.2.1<=(B:Int)
 seed0 : 0<=c.2.2
 seed1:c.2.2<18446744073709551616
theorem Cur.start {l:List Int} (h:∀ b∈l,0<=b/\b<=255) (hl:l.length<=1048576):Cur 0 (l,0,0):=⟨h,hl,by simp,by simp,by simp,by simp⟩
theorem Cur.mono {B B':Nat} {c:List Int×Int×Int} (h:Cur B c) (hb:B<=B'):Cur B' c:=⟨h.bytes,h.short,h.lo,by have:=h.hi; omega,h.seed0,h.seed1⟩
theorem obs {α β:Type} (a : α) (f : α->Option β):(some a).bind f=f a:=(rfl)
theorem cT {α:Type} (a b : α):(bif true then a else b)=a:=(rfl)
theorem cF {α:Type} (a b : α):(bif false then a else b)=b:=(rfl)
theorem nT:(!true)=false:=(rfl)
theorem nF:(!false)=true:=(rfl)
theorem A4 {α β:Type} (p : α×β):(p.1,p.2)=p:=by cases p; rfl
theorem sEl {α β γ:Type} (f : α->γ) (g : β->γ) (x : α):Sum.elim f g (.inl x)=f x:=(rfl)
theorem sEr {α β γ:Type} (f : α->γ) (g : β->γ) (x : β):Sum.elim f g (.inr x)=g x:=(rfl)
end
section
open Go
end
section
open Go
structure GP (p:Int×Int):Prop where
 a : -1000<=p.1
 b:p.1<=1001
 c : -2<=p.2
 d:p.2<=8
structure GW (l:List (Int×Int)):Prop where
 pts:∀ p∈l,GP p
 lo : 3<=l.length
 hi:l.length<=13
end
section
open Go
section
variable {α β:Type}
end
section
variable {α:Type}
end
end
section
open Go
abbrev P2:=Int×Int
def Dh (a b c:Int):Bool:=decide (b<=a)&&decide (a<=c)
theorem Uh (a b c:Int):Bk a b c=some (Dh a b c):=by
 unfold Bk Dh;by_cases h:a>=b <;> simp[h]
theorem V7 (a b c:Int):C0 a b c=some (Dh a b c):=by
 unfold C0 Dh;by_cases h:a>=b <;> simp[h]
theorem KK {a b c:Int}:Dh a b c=true↔b<=a/\a<=c:=by simp[Dh]
def Eg (p:P2):Bool:=Dh p.1 (-1000) 1000&&Dh p.2 (-1000) 1000
theorem AP6 (p:P2):Fo p=some (Eg p):=by
 unfold Fo Eg;simp only[V7,za0];cases Dh p.1 (-1000) 1000 <;> rfl
theorem A1I {p:P2}:Eg p=true↔-1000<=p.1/\p.1<=1000/\-1000<=p.2/\p.2<=1000:=by
 simp only[Eg,za2,KK];omega
theorem A65 {k:Nat} {α:Type} {l:List α} {a : α} (h:l[k]? = some a):decide ((k:Int)<(l.length:Int))=true:=by have:=Fc h; simpa using this
theorem Bf3 {α:Type} (l:List α):decide ((l.length:Int)<(l.length:Int))=false:=by simp
theorem A8B {l:List P2} (hl:AZ6 l):Mi l=some (l.all Eg):=by
 unfold Mi;unfold AZ6 at hl;have key:=KC (body:=fun s:List (Int×Int)×Int×Int=>ID s.1 s.2.1 s.2.2) (l:=l) (st:=fun k=>(l,(l.length:Int),(k:Int))) (p:=Eg) (fin:=.inl ()) (bad:=fun k=>.inr false)
  (fun k a hk hp=>by
   have:=Fc hk;unfold ID;simp only[A65 hk,cond_true,Ao,hk,za0,AP6,hp,Bool.not_true,cond_false,AR (show k<4611686018427387904 by omega)])
  (fun k a hk hp=>by
   unfold ID;simp only[A65 hk,cond_true,Ao,hk,za0,AP6,hp,Bool.not_false])
  (by unfold ID; simp only[Bf3,cond_false])
 cases hall:l.all Eg with
 | true =>
  have h:=key.1 hall;rw[show ((0:Nat):Int)=0 from rfl] at h;simp only[h,za0,Sum.elim_inl]
 | false =>
  obtain ⟨k,_,h⟩:=key.2 hall;rw[show ((0:Nat):Int)=0 from rfl] at h;simp only[h,za0,za8]
section
variable {a b c d p:P2} (ha:Eg a=true) (hb:Eg b=true) (hc:Eg c=true) (hd:Eg d=true) (hp:Eg p=true)
include ha hb hc
end
end
section
open Go
def Lo (l:List P2):Bool:=(decide (3<=l.length)&&decide (l.length<=12))&&l.all Eg
theorem JJ {l:List P2}:Lo l=true↔(3<=l.length/\l.length<=12)/\∀ p∈l,Eg p=true:=by
 simp[Lo,za5,and_assoc]
theorem A2c (l:List P2):Dh (l.length:Int) 3 12=(decide (3<=l.length)&&decide (l.length<=12)):=by
 unfold Dh
 congr 1 <;> rw[decide_eq_decide] <;> omega
theorem A8M {l:List P2} (h:AZ6 l):Mt l=some (Lo l):=by
 unfold Mt Lo;simp only[V7,za0,A8B h,A2c];cases (decide (3<=l.length)&&decide (l.length<=12)) <;> rfl
end
section
open Go
variable {α β γ:Type}
end
section
open Go
def F1 (b:UInt8):Bool:=decide (48<=b.toNat)&&decide (b.toNat<=57)
theorem GI {b:UInt8}:F1 b=true↔48<=b.toNat/\b.toNat<=57:=by simp[F1]
def LJ (n:Nat) (l:Str):Nat:=l.foldl (fun a b=>a*10 + (b.toNat-48)) n
theorem Ar6 (n:Nat) (l:Str) (b:UInt8):LJ n (l ++ [b])=LJ n l*10 + (b.toNat-48):=by unfold LJ; simp
def A0B (l:Str):Prop:=(∀ b∈l,F1 b=true)/\l≠[]/\¬(l.head? = some 48/\1<l.length)
theorem A9P {b:UInt8} (h : 48<=b.toNat):UInt8.ofNat (48 + (b.toNat-48))=b:=by
 rw[show 48 + (b.toNat-48)=b.toNat by omega]; exact UInt8.ofNat_toNat
theorem AX3 {n:Nat} (h:n<10):F1 (UInt8.ofNat (48 + n))=true/\(UInt8.ofNat (48 + n)).toNat=48 + n:=by
 have:(UInt8.ofNat (48 + n)).toNat=48 + n:=by rw[UInt8.toNat_ofNat']; omega
 exact ⟨GI.2 (by omega),this⟩
theorem AM1 {b:UInt8}:b=48↔b.toNat=48:=by
 constructor
 ·rintro rfl; rfl
 ·intro h;have:b.toNat=(48:UInt8).toNat:=h;exact UInt8.toNat_inj.1 this
theorem A0Y:∀ (l:Str) (n:Nat),1<=n->1<=LJ n l
 | [],n,h=>h
 | b::l,n,h=>by
  unfold LJ;rw[List.foldl_cons];exact A0Y l _ (by omega)
theorem A5R {b:UInt8} {l:Str} (hb:F1 b=true) (h:b≠48) : 1<=LJ 0 (b::l):=by
 unfold LJ;rw[List.foldl_cons];refine A0Y l _ ?_
 have:=GI.1 hb;have h2:b.toNat≠48:=fun h2=>h (AM1.2 h2)
 omega
theorem Aw2:∀ (n:Nat) (l:Str),l.length=n->A0B l->Lib.decDigits (LJ 0 l)=l
 | 0,l,hn,h=>absurd (zb7 hn) h.2.1
 | n + 1,l,hn,h=>by
  obtain ⟨e,b,rfl⟩:∃ e b,l=e ++ [b]:=⟨l.dropLast,l.getLast h.2.1,(List.dropLast_concat_getLast h.2.1).symm⟩;have hb:=GI.1 (h.1 b (by simp));rw[Ar6];cases e with
  | nil =>
   show Lib.decDigits (0*10 + (b.toNat-48)) = [b];rw[Lib.decDigits_one (by omega),Nat.zero_mul,ze4,A9P hb.1]
  | cons c e =>
   have hc0:c≠48:=by
    rintro rfl;exact h.2.2 ⟨rfl,by simp⟩
   have hcd:F1 c=true:=h.1 c (by simp);have h1:=A5R (l:=e) hcd hc0;rw[Lib.decDigits,dif_neg (by omega),show (LJ 0 (c::e)*10 + (b.toNat-48))/10=LJ 0 (c::e) by omega,show (LJ 0 (c::e)*10 + (b.toNat-48))%10=b.toNat-48 by omega,A9P hb.1,
    Aw2 n (c::e) (by simpa using hn) ⟨fun x hx=>h.1 x (by simp at hx ⊢; rcases hx with rfl | hx <;> simp_all),by simp,fun hh=>hc0 (Option.some.inj hh.1)⟩]
theorem Ma (u:Nat):A0B (Lib.decDigits u)/\LJ 0 (Lib.decDigits u)=u/\(1<=u->(Lib.decDigits u).head? ≠ some 48):=by
 induction u using Nat.strongRecOn with
 | ind u ih =>
  by_cases h:u<10
  ·rw[Lib.decDigits_one h];obtain ⟨h1,h2⟩:=AX3 h;refine ⟨⟨fun b hb=>by cases List.mem_singleton.1 hb; exact h1,by simp,fun hh=>by simp at hh⟩,?_,fun hu=>?_⟩
   ·show 0*10 + ((UInt8.ofNat (48 + u)).toNat-48)=u;rw[h2]; omega
   ·intro hh;have:=AM1.1 (Option.some.inj hh);omega
  ·obtain ⟨⟨c1,c2,c3⟩,h2,h3⟩:=ih (u/10) (by omega);obtain ⟨g1,g2⟩:=AX3 (n:=u%10) (by omega);have hh:(Lib.decDigits (u/10) ++ [UInt8.ofNat (48 + u%10)]).head? ≠ some 48:=by
    rw[List.head?_append];cases hz:Lib.decDigits (u/10) with
    | nil=>exact absurd hz c2
    | cons a t=>rw[hz] at h3; exact h3 (by omega)
   rw[Lib.decDigits,dif_neg h];refine ⟨⟨fun b hb=>?_,by simp,fun h=>hh h.1⟩,?_,fun _=>hh⟩
   ·rcases zb4.1 hb with hb | hb
    ·exact c1 b hb
    ·cases List.mem_singleton.1 hb; exact g1
   ·rw[Ar6,h2,g2]; omega
theorem AL0 {u:Nat} {t:Str}:Lib.decDigits u≠45::t:=by
 intro h;have:=(Ma u).1.1 45 (by rw[h]; simp);simp[F1] at this
theorem AV4 {u:Nat}:(Lib.decDigits u).length<=4↔u<=9999:=by
 rw[Lib.decDigits_length];have h1:=Lib.lt_pow_nDigits u;constructor
 ·intro h;have : 10 ^ Lib.nDigits u<=10 ^ 4:=Nat.pow_le_pow_right (by omega) h;omega
 ·intro h;by_cases h0:u<10
  ·rw[Lib.nDigits_small h0]; omega
  by_cases h0:u<100
  ·rw[Lib.nDigits_unique 1 u (by omega) (by omega)]; omega
  by_cases h0:u<1000
  ·rw[Lib.nDigits_unique 2 u (by omega) (by omega)]; omega
  ·rw[Lib.nDigits_unique 3 u (by omega) (by omega)]; omega
theorem Ag2:∀ (l:Str) (acc:Nat),(∀ b∈l,F1 b=true)->acc*10 ^ l.length + 10 ^ l.length<=1000000000000000000->Lib.parseUint10 acc l = .ok (LJ acc l)
 | [],acc,_,_=>rfl
 | b::l,acc,h,hl=>by
  have hb:=GI.1 (h b (by simp));have hp : 1<=10 ^ l.length:=Nat.one_le_pow _ _ (by omega);have e:(b::l).length=l.length + 1:=rfl;rw[e,Nat.pow_succ] at hl;have h1:acc*(10 ^ l.length*10)=(acc*10)*10 ^ l.length:=by rw[Nat.mul_comm (10 ^ l.length) 10,Nat.mul_assoc]
  rw[h1] at hl;have h2:acc*10<=(acc*10)*10 ^ l.length:=Nat.le_mul_of_pos_right _ (by omega);have h3:(acc*10 + (b.toNat-48))*10 ^ l.length<=(acc*10)*10 ^ l.length + 9*10 ^ l.length:=by
   rw[<-zf0];exact zd6 _ (by omega)
  rw[Lib.parseUint10,if_pos hb,if_neg (by omega),if_neg (by omega),Ag2 l _ (fun x hx=>h x (List.mem_cons_of_mem _ hx)) (by omega)];rfl
theorem A3z {b:UInt8} {n:Nat} (hd:F1 b=true) (h:n<48):b.toNat≠n:=by have:=GI.1 hd; omega
theorem A5m {v:Int} (h0 : -9999<=v) (h1:v<=9999):Lib.atoiAll (Lib.itoa v) = .ok v:=by
 have key:∀ u:Nat,u<=9999->Lib.parseMag (Lib.decDigits u) = .ok u:=by
  intro u hu;obtain ⟨⟨c1,c2,_⟩,c4,_⟩:=Ma u;have h4:=AV4.2 hu;unfold Lib.parseMag;rw[if_neg c2,Ag2 _ _ c1 (by
   have : 10 ^ (Lib.decDigits u).length<=10 ^ 4:=Nat.pow_le_pow_right (by omega) h4;omega),c4]
 unfold Lib.itoa;by_cases hv:v<0
 ·rw[if_pos hv];unfold Lib.atoiAll;simp only;rw[if_pos (Or.inr (by rfl)),key v.natAbs (by omega)];simp only;rw[if_neg (fun h=>h.1 rfl),if_neg (by omega),if_pos (by rfl)]
  congr 1; omega
 ·rw[if_neg hv];have hk:=key v.toNat (by omega);obtain ⟨⟨c1,c2,_⟩,_⟩:=Ma v.toNat;cases hz:Lib.decDigits v.toNat with
  | nil=>exact absurd hz c2
  | cons b t =>
   rw[hz] at hk c1;have hb:=c1 b (by simp);unfold Lib.atoiAll;simp only;rw[if_neg (by
    rintro (h | h)
    ·exact A3z hb (by omega) h
    ·exact A3z hb (by omega) h),hk]
   simp only;rw[if_neg (by omega),if_neg (fun h=>A3z hb (by omega) h.1),if_neg (A3z hb (by omega))]
   congr 1; omega
end
section
open Go
theorem OV {p:UInt8->Bool}:∀ {l:Str},∀ b∈l.takeWhile p,p b=true
 | [],b,h=>by simp at h
 | a::l,b,h=>by
  rw[List.takeWhile_cons] at h;by_cases ha:p a=true
  ·rw[if_pos ha] at h;rcases zc5.1 h with rfl | h
   ·exact ha
   ·exact OV b h
  ·rw[if_neg ha] at h;exact absurd h List.not_mem_nil
def Ib (s:Str) (n k:Nat):Str:=((s.drop k).take n).takeWhile F1
theorem Az2 (s:Str) (k:Nat):Ib s 0 k = []:=by simp[Ib]
theorem Ac9 {s:Str} {k:Nat} (n:Nat) (h:s.length<=k):Ib s n k = []:=by simp[Ib,zd1 h]
theorem Aw8 {s:Str} {k n:Nat} {b:UInt8} (h:s[k]? = some b):Ib s (n + 1) k=if F1 b then b::Ib s n (k + 1) else []:=by
 have hlt:=Fc h;unfold Ib;rw[zb0 hlt,List.take_succ_cons,List.takeWhile_cons];have:s[k]=b:=by rw[za1 hlt] at h; exact Option.some.inj h
 rw[this]
theorem A0S (s:Str) (n k:Nat):(Ib s n k).length<=n:=by
 have h1:=(List.takeWhile_sublist F1 (l:=(s.drop k).take n)).length_le;have h2:=List.length_take_le n (s.drop k);unfold Ib; omega
theorem A0s (s:Str) (n k:Nat):∀ b∈Ib s n k,F1 b=true:=OV
theorem AE7 (s:Str):∀ (n k i:Nat),i<(Ib s n k).length->s[k + i]? = (Ib s n k)[i]?
 | 0,k,i,h=>by rw[Az2] at h; simp at h
 | n + 1,k,i,h=>by
  by_cases hk:k<s.length
  ·have e:=Aw8 (n:=n) (za1 hk);rw[e] at h ⊢
   by_cases hd:F1 s[k]=true
   ·rw[if_pos hd] at h ⊢
    cases i with
    | zero=>simp[hk]
    | succ i =>
     rw[show k + (i + 1)=(k + 1) + i by omega,AE7 s n (k + 1) i (by simpa using h)];simp
   ·rw[if_neg hd] at h; simp at h
  ·rw[Ac9 _ (by omega)] at h; simp at h
theorem A9F (l:Str) (h:∀ b∈l,F1 b=true):LJ 0 l<10 ^ l.length:=by
 have key:∀ (l:Str) (n:Nat),(∀ b∈l,F1 b=true)->LJ n l<(n + 1)*10 ^ l.length:=by
  intro l
  induction l with
  | nil=>intro n _; simp[LJ]
  | cons b l ih =>
   intro n h;have hb:=GI.1 (h b (by simp));have:=ih (n*10 + (b.toNat-48)) (fun x hx=>h x (List.mem_cons_of_mem _ hx));have e:LJ n (b::l)=LJ (n*10 + (b.toNat-48)) l:=rfl;rw[e,zc0,Nat.pow_succ,Nat.mul_comm (10 ^ l.length) 10,<-Nat.mul_assoc];refine zd7 this (zd6 _ (by omega))
 have:=key l 0 h;simpa using this
theorem A6j {s:Str} (hs:s.length<4611686018427387904) {a:Nat} (ha:a<4611686018427387904):∀ (m:Nat) (n k:Nat),k + m=a + 4->a<=k->n<10 ^ (k-a) ->
  Ah (fun (t:(Str×(Int×(Int×Int))))=>Dl t.1 t.2.1 t.2.2.1 t.2.2.2) (s,(a:Int),(n:Int),(k:Int))=some (s,(a:Int),((LJ n (Ib s m k):Nat):Int),((k + (Ib s m k).length:Nat):Int)):=by
 intro m
 induction m with
 | zero =>
  intro n k hk hak hn;rw[Az2];refine Aq ?_
  unfold Dl;simp only;by_cases h1:(k:Int)<(s.length:Int)
  ·rw[decide_eq_true h1,cT,Aj (by omega) (by omega),decide_eq_false (by omega),cF];rfl
  ·rw[decide_eq_false h1,cF];rfl
 | succ m ih =>
  intro n k hk hak hn;by_cases h1:k<s.length
  ·have e:s[k]? = some s[k]:=za1 h1;generalize s[k]=b at e;rw[Aw8 e];have hb:=b.toNat_lt;by_cases hd:F1 b=true
   ·have hd':=GI.1 hd;have hp : 10 ^ (k-a)<=10 ^ 3:=Nat.pow_le_pow_right (by omega) (by omega);rw[if_pos hd];have hgo:(fun (t:(Str×(Int×(Int×Int))))=>Dl t.1 t.2.1 t.2.2.1 t.2.2.2) (s,(a:Int),(n:Int),(k:Int))=some (.inl (s,(a:Int),((n*10 + (b.toNat-48):Nat):Int),((k + 1:Nat):Int))):=by
     unfold Dl;simp only;rw[decide_eq_true (by omega),cT,Aj (n:=(a:Int) + 4) (by omega) (by omega),decide_eq_true (by omega),cT,Ao,e,obs,decide_eq_true (by omega),cT,obs,decide_eq_true (by omega),cT,obs,AR (by omega)];have w1:IntKind.wrap .u8 (((b.toNat:Nat):Int)-48)=((b.toNat-48:Nat):Int):=by rw[IntKind.wrap_u8]; omega
     rw[w1,Aj (n:=((b.toNat-48:Nat):Int)) (by omega) (by omega),Aj (n:=10*(n:Int)) (by omega) (by omega),Aj (by omega) (by omega)]
     congr 4
     have:(10:Int)*(n:Int) + ((b.toNat-48:Nat):Int)=((n*10 + (b.toNat-48):Nat):Int):=by push_cast; omega
     rw[this]
    rw[AY hgo,ih (n*10 + (b.toNat-48)) (k + 1) (by omega) (by omega) (by
     rw[show k + 1-a=(k-a) + 1 by omega,Nat.pow_succ]; omega)]
    congr 4
    simp only[zc0]
    congr 1
    omega
   ·have hd':¬(48<=b.toNat/\b.toNat<=57):=fun h=>hd (GI.2 h)
    rw[if_neg hd];refine Aq ?_
    unfold Dl;simp only;rw[decide_eq_true (by omega),cT,Aj (n:=(a:Int) + 4) (by omega) (by omega),decide_eq_true (by omega),cT,Ao,e,obs];by_cases c : 48<=b.toNat
    ·rw[decide_eq_true (by omega),cT,obs,decide_eq_false (by omega),cF];rfl
    ·rw[decide_eq_false (by omega),cF];rfl
  ·rw[Ac9 _ (by omega)];refine Aq ?_
   unfold Dl;simp only;rw[decide_eq_false (by omega),cF];rfl
def Aq2 (d:Str):Prop:=d = []\/(d.head? = some 48/\1<d.length)
instance (d:Str):Decidable (Aq2 d):=by unfold Aq2; infer_instance
def Jd (s:Str) (a:Nat):Int×Int:=let d:=Ib s 4 a; if Aq2 d then (-1,(a:Int)) else ((LJ 0 d:Nat),((a + d.length:Nat):Int))
theorem Zk {s:Str} (hs:s.length<4611686018427387904) {a:Nat} (ha:a<4611686018427387904):Kr s (a:Int)=some (Jd s a):=by
 unfold Kr Jd;have h:=A6j hs ha 4 0 a rfl (za7 _) (by simp);have h':Ah (fun (t:(Str×(Int×(Int×Int))))=>Dl t.1 t.2.1 t.2.2.1 t.2.2.2) (s,(a:Int),(0:Int),(a:Int))=_:=h;rw[h',obs];have hl:=A0S s 4 a;have h0:=AE7 s 4 a 0;cases hd:Ib s 4 a with
 | nil =>
  have hb0:Aq2 ([]:Str):=Or.inl rfl;simp only[hb0,if_true,ze9,Nat.add_zero,beq_self_eq_true,cond_true]
 | cons b t =>
  rw[hd] at hl h0;have hb:s[a]? = some b:=by
   have:=h0 (by simp);rw[Nat.add_zero] at this;rw[this];rfl
  have hlb:=Fc hb;simp only[zc0] at hl ⊢
  rw[show (((a + (t.length + 1):Nat):Int)==(a:Int))=false by simp; omega,cF,Ao,hb,obs];by_cases c:b=48
  ·subst c;rw[show ((((48:UInt8).toNat:Nat):Int)==48)=true from rfl,cT,Aj (by omega) (by omega)];by_cases c2:t.length=0
   ·have hn:¬Aq2 (48::t):=by
     rintro (h | ⟨_,h⟩)
     ·cases h
     ·simp at h; omega
    rw[decide_eq_false (by omega),cF,if_neg hn]
   ·rw[decide_eq_true (by omega),cT,if_pos (show Aq2 (48::t) from Or.inr ⟨rfl,by simp; omega⟩)]
  ·have c':¬b.toNat=48:=fun h=>c (AM1.2 h)
   have hn:¬Aq2 (b::t):=by
    rintro (h | ⟨h,_⟩)
    ·cases h
    ·exact c (Option.some.inj h)
   rw[show ((((b.toNat:Nat):Int))==48)=false by simp; omega,cF,if_neg hn]
end
section
open Go
theorem Bb3 {n:Int} (h0 : -9223372036854775808<=n) (h1:n<=9223372036854775807):Hw n=some (Lib.itoa n):=by
 unfold Hw ZW;rw[if_pos ⟨h0,h1⟩]
end
section
open Go
def P1 (s:Str):Int×Bool:=match Lib.atoiAll s with | .ok v=>if -9999<=v/\v<=9999/\Lib.itoa v=s then (v,true) else (0,false) | _=>(0,false)
theorem A8a {v:Int} (h : -9999<=v/\v<=9999):P1 (Lib.itoa v)=(v,true):=by
 unfold P1;rw[A5m h.1 h.2];simp only;rw[if_pos ⟨h.1,h.2,trivial⟩]
theorem Ln (s:Str):(∃ v:Int,-9999<=v/\v<=9999/\s=Lib.itoa v/\P1 s=(v,true))\/(P1 s=(0,false)/\∀ v:Int,-9999<=v->v<=9999->s≠Lib.itoa v):=by
 by_cases h:∃ v:Int,-9999<=v/\v<=9999/\s=Lib.itoa v
 ·obtain ⟨v,h0,h1,rfl⟩:=h;exact .inl ⟨v,h0,h1,rfl,A8a ⟨h0,h1⟩⟩
 ·refine .inr ⟨?_,fun v h0 h1 h2=>h ⟨v,h0,h1,h2⟩⟩
  unfold P1
  split
  ·rw[if_neg];rintro ⟨h0,h1,h2⟩;exact h ⟨_,h0,h1,h2.symm⟩
  ·rfl
theorem A81 (n:Int):G9 n=some (decide (-9999<=n/\n<=9999)):=by
 unfold G9 Bk;by_cases h:n>=-9999
 ·rw[decide_eq_true h,cT,obs]; congr 1; simp; omega
 ·rw[decide_eq_false h,cF,obs]; congr 1; simp; omega
theorem AD8 {s:Str} (hs:s.length<=281474976710656):Fi s=some (P1 s):=by
 unfold Fi Ko ZC P1 Rx;rw[if_pos hs,obs];cases hz:Lib.atoiAll s with
 | ok v =>
  simp only[cF,A81,obs];by_cases h : -9999<=v/\v<=9999
  ·rw[decide_eq_true h,nT,cF,Bb3 (by omega) (by omega),obs];by_cases h2:Lib.itoa v=s
   ·rw[if_pos ⟨h.1,h.2,h2⟩,h2,beq_self_eq_true,nT,cF]
   ·rw[if_neg (fun hh=>h2 hh.2.2),beq_eq_false_iff_ne.2 h2,nF,cT]
  ·rw[decide_eq_false h,nF,cT,if_neg (fun hh=>h ⟨hh.1,hh.2.1⟩)]
 | range=>rfl
 | _=>rfl
theorem A1Q {d t:Str} {n:Nat} (h:A0B d) (hn:d.length<=n) (hb:∀ b,t.head? = some b->F1 b=false):Ib (d++t) n 0=d:=by
 unfold Ib;rw[ze7];have key:∀ (d:Str) (n:Nat),(∀ b∈d,F1 b=true)->d.length<=n->((d++t).take n).takeWhile F1=d:=by
  intro d
  induction d with
  | nil =>
   intro n _ _;cases n with
   | zero=>simp
   | succ n =>
    cases t with
    | nil=>simp
    | cons b t=>simp[hb b rfl]
  | cons b d ih =>
   intro n hd hn;cases n with
   | zero=>simp at hn
   | succ n =>
    rw[List.cons_append,List.take_succ_cons,List.takeWhile_cons,if_pos (hd b (by simp)),ih n (fun x hx=>hd x (List.mem_cons_of_mem _ hx)) (by simpa using hn)]
 exact key d n h.1 hn
theorem A2l {d:Str} (h:A0B d):¬Aq2 d:=by
 rintro (h1 | h1)
 ·exact h.2.1 h1
 ·exact h.2.2 h1
theorem A1s {s:Str} {n k:Nat} (h:¬Aq2 (Ib s n k)):A0B (Ib s n k):=⟨A0s s n k,fun h1=>h (.inl h1),fun h1=>h (.inr h1)⟩
theorem Wt (u:Nat) (hu:u<=9999):Jd (Lib.decDigits u) 0=((u:Int),((Lib.decDigits u).length:Int)):=by
 obtain ⟨h1,h2,_⟩:=Ma u;have hd:=A1Q (t:=[]) h1 (AV4.2 hu) (by simp);rw[ze6] at hd;unfold Jd;simp only[hd,if_neg (A2l h1),h2,ze4]
theorem Xe (t:Str):(∃ u:Nat,u<=9999/\t=Lib.decDigits u)\/((Jd t 0).1<0\/(Jd t 0).2<(t.length:Int)):=by
 by_cases hb:Aq2 (Ib t 4 0)
 ·right; left
  unfold Jd;simp only[if_pos hb];omega
 ·have hc:=A1s hb;have hl:=A0S t 4 0;by_cases hh:(Ib t 4 0).length<t.length
  ·right; right
   unfold Jd;simp only[if_neg hb,ze4];omega
  ·left
   have he:Ib t 4 0=t:=by
    have h1:(Ib t 4 0).length<=t.length:=by
     have:=(List.takeWhile_sublist F1 (l:=(t.drop 0).take 4)).length_le;have h2:=List.length_take_le' 4 (t.drop 0);unfold Ib;simp only[ze7] at this h2 ⊢
     omega
    refine List.ext_getElem (by omega) fun i h2 h3=>?_
    have:=AE7 t 4 0 i h2;rw[ze4,za1 h3,za1 h2] at this;exact (Option.some.inj this).symm
   refine ⟨LJ 0 (Ib t 4 0),?_,?_⟩
   ·have:=A9F _ (A0s t 4 0);have h2 : 10 ^ (Ib t 4 0).length<=10 ^ 4:=Nat.pow_le_pow_right (by omega) hl;omega
   ·rw[Aw2 _ _ rfl hc,he]
theorem Bm1 {s:Str} {b:UInt8}:(LL (1:Int) (((b::s).length:Nat):Int) (b::s).length)=some (1,(b::s).length):=by
 unfold LL;rw[if_pos (by simp only[zc0]; omega)];simp
theorem AL4 {s:Str} (hs:s.length<4611686018427387904):E4 s=some (P1 s):=by
 unfold E4;cases s with
 | nil =>
  rw[show decide ((((([]:Str).length):Nat):Int)>0)=false from rfl,cF,obs];simp only[za8];rw[cF,obs];simp only[za8];rw[show ((0:Int))=((0:Nat):Int) from rfl,Zk hs (by omega),obs];rcases Ln ([]:Str) with ⟨v,h0,h1,h2,_⟩ | ⟨h,_⟩
  ·exfalso
   unfold Lib.itoa at h2
   split at h2
   ·cases h2
   ·exact (Ma _).1.2.1 h2.symm
  ·rw[h];have:Jd ([]:Str) 0=(-1,0):=by
    unfold Jd;simp only[Ac9 4 (show ([]:Str).length<=0 by simp)];rfl
   rw[this];rfl
 | cons b t =>
  rw[decide_eq_true (show (((((b::t)).length:Nat):Int)>0) by simp only[zc0]; omega),cT];have hg:AQ (b::t) 0=some b:=rfl;rw[hg,obs,obs];simp only[za8];have hlt:t.length<4611686018427387904:=by simp only[zc0] at hs; omega
  by_cases hb:b.toNat=45
  ·have hb':b=45:=UInt8.toNat_inj.1 (show b.toNat=(45:UInt8).toNat from hb);subst hb';rw[show ((((45:UInt8).toNat:Nat):Int)==45)=true from rfl,cT,Bm1,obs,obs];simp only[za8];rw[List.take_length,show List.drop 1 ((45:UInt8)::t)=t from rfl,show ((0:Int))=((0:Nat):Int) from rfl,Zk hlt (by omega),obs];rcases Ln ((45:UInt8)::t) with ⟨v,h0,h1,h2,h3⟩ | ⟨h3,h4⟩
   ·rw[h3];have hv:v<0:=by
     rcases Int.lt_or_le v 0 with h | h
     ·exact h
     ·unfold Lib.itoa at h2;rw[if_neg (by omega)] at h2;exact absurd h2.symm AL0
    have ht:t=Lib.decDigits v.natAbs:=by
     unfold Lib.itoa at h2;rw[if_pos hv] at h2;exact (List.cons.inj h2).2
    rw[ht,Wt _ (by omega)];simp only;rw[decide_eq_false (by omega),cF,decide_eq_false (by omega),cF,cT,show (((v.natAbs:Nat):Int)==((0:Nat):Int))=false by simp; omega,cF,obs];simp only[za8,cT];rw[Aj (by omega) (by omega)]
    congr 2; omega
   ·rw[h3];rcases Xe t with ⟨u,hu,rfl⟩ | h
    ·rw[Wt _ hu];simp only;rw[decide_eq_false (by omega),cF,decide_eq_false (by omega),cF,cT];by_cases hu0:u=0
     ·subst hu0;rw[show ((((0:Nat):Int))==((0:Nat):Int))=true from rfl,cT,obs];rfl
     ·exfalso
      refine h4 (-(u:Int)) (by omega) (by omega) ?_
      unfold Lib.itoa;rw[if_pos (by omega),Int.natAbs_neg,Int.natAbs_natCast]
    ·by_cases hn:(Jd t 0).1<0
     ·rw[decide_eq_true (show (Jd t 0).1<((0:Nat):Int) from hn),cT,obs]; rfl
     ·have h:=h.resolve_left hn;rw[decide_eq_false (show ¬(Jd t 0).1<((0:Nat):Int) from hn),cF,decide_eq_true h,cT,obs]; rfl
  ·rw[show (((b.toNat:Nat):Int)==45)=false by simp; omega,cF,obs];simp only[za8];rw[show ((0:Int))=((0:Nat):Int) from rfl,Zk hs (by omega),obs];rcases Ln (b::t) with ⟨v,h0,h1,h2,h3⟩ | ⟨h3,h4⟩
   ·rw[h3];have hv:¬v<0:=by
     intro h;unfold Lib.itoa at h2;rw[if_pos h] at h2;exact hb (by rw[(List.cons.inj h2).1]; rfl)
    have ht:b::t=Lib.decDigits v.toNat:=by
     unfold Lib.itoa at h2;rw[if_neg hv] at h2;exact h2
    rw[ht,Wt _ (by omega)];simp only;rw[decide_eq_false (by omega),cF,decide_eq_false (by omega),cF,cF,obs];simp only[za8,cF]
    congr 2; omega
   ·rw[h3];rcases Xe (b::t) with ⟨u,hu,he⟩ | h
    ·exfalso
     refine h4 (u:Int) (by omega) (by omega) ?_
     unfold Lib.itoa;rw[if_neg (by omega),zc4,he]
    ·by_cases hn:(Jd (b::t) 0).1<0
     ·rw[decide_eq_true (show (Jd (b::t) 0).1<((0:Nat):Int) from hn),cT,obs]; rfl
     ·have h:=h.resolve_left hn;rw[decide_eq_false (show ¬(Jd (b::t) 0).1<((0:Nat):Int) from hn),cF,decide_eq_true h,cT,obs]; rfl
end
section
open Go
theorem SC (b c:UInt8) (l:Str):Lib.index (b::l) [c]=if b=c then 0 else if Lib.index l [c] = -1 then -1 else Lib.index l [c] + 1:=by
 rw[Lib.index];have:([c]:Str).isPrefixOf (b::l)=(c==b):=by simp[List.isPrefixOf]
 rw[this];by_cases h:b=c
 ·subst h; simp
 ·rw[if_neg (show ¬(c==b)=true by simpa using Ne.symm h),if_neg h];by_cases h2:Lib.index l [c] = -1
  ·simp[h2]
  ·rw[if_neg (by simpa using h2),if_neg h2]
theorem Ab4 {c:UInt8}:∀ {s:Str},c ∉ s->Lib.index s [c] = -1
 | [],_=>by rw[Lib.index]; rfl
 | b::l,h=>by
  rw[SC,if_neg (fun e=>h (by rw[e]; simp)),if_pos (Ab4 (fun hm=>h (List.mem_cons_of_mem _ hm)))]
theorem S7 {c:UInt8}:∀ {x r:Str},c ∉ x->Lib.index (x++c::r) [c]=(x.length:Nat)
 | [],r,_=>by rw[List.nil_append,SC,if_pos rfl]; rfl
 | b::x,r,h=>by
  have ih:=S7 (r:=r) (fun hm:c∈x=>h (List.mem_cons_of_mem _ hm));rw[List.cons_append,SC,if_neg (fun e=>h (by rw[e]; simp)),ih,if_neg (by omega),zc0];omega
theorem A1W (c:UInt8) (s:Str):c ∉ s\/∃ x r,s=x++c::r/\c ∉ x:=by
 by_cases h:c∈s
 ·right
  induction s with
  | nil=>exact absurd h List.not_mem_nil
  | cons b l ih =>
   by_cases hb:b=c
   ·subst hb; exact ⟨[],l,rfl,List.not_mem_nil⟩
   ·have hm:c∈l:=by
     rcases zc5.1 h with rfl | h
     ·exact absurd rfl hb
     ·exact h
    obtain ⟨x,r,h1,h2⟩:=ih hm;refine ⟨b::x,r,by rw[h1,List.cons_append],fun h3=>?_⟩
    rcases zc5.1 h3 with rfl | h3
    ·exact hb rfl
    ·exact h2 h3
 ·exact .inl h
def Ap (c:UInt8) (s:Str):List Str:=Lib.split s [c]
theorem Ig {c:UInt8} {s:Str} (h:c ∉ s):Ap c s = [s]:=by
 unfold Ap Lib.split;rw[Lib.count_miss (Ab4 h)];rfl
theorem NA {c:UInt8} {x r:Str} (h:c ∉ x):Ap c (x++c::r)=x::Ap c r:=by
 unfold Ap Lib.split;have e:List.drop (x.length + ([c]:Str).length) (x++c::r)=r:=by simp
 rw[Lib.count_hit (by simp) (S7 h),e,Nat.add_comm,Lib.splitK,S7 h,if_neg (by simp),zc4,Nat.add_zero,e];simp
theorem A7u (c:UInt8) (s:Str):Ap c s≠[]:=by
 rcases A1W c s with h | ⟨x,r,rfl,h⟩
 ·rw[Ig h]; simp
 ·rw[NA h]; simp
theorem Au6 {c:UInt8}:∀ (n:Nat) (s:Str),s.length<=n->∀ p∈Ap c s,p.length<=s.length:=by
 intro n
 induction n with
 | zero =>
  intro s hs p hp;have:s = []:=zb7 (by omega);subst this;rw[Ig (by simp)] at hp;cases List.mem_singleton.1 hp
  exact za7 _
 | succ n ih =>
  intro s hs p hp;rcases A1W c s with h | ⟨x,r,rfl,h⟩
  ·rw[Ig h] at hp;cases List.mem_singleton.1 hp
   exact za7 _
  ·rw[NA h] at hp;rw[zd3,zc0] at hs ⊢
   rcases zc5.1 hp with rfl | hp
   ·omega
   ·have:=ih r (by omega) p hp;omega
theorem A5h (s:Str) (c:UInt8):Gf s [c]=Ap c s:=by
 unfold Gf Ap Lib.split;exact Lib.splitB_data ⟨#[c]⟩ 0 _ ⟨s.toArray⟩
theorem A7h {s:Str} {c:UInt8} (h:s.length<4294967281):QD s [c]=some (Ap c s):=by
 unfold QD;rw[if_pos ⟨h,by simp⟩,A5h]
end
section
open Go
abbrev Pn:=Int×Int
abbrev Wy:=List Pn
theorem A1H {s:Str} (hs:s.length<=1000):G6 s=some (Ap 32 s):=by
 unfold G6;obtain ⟨b,h1,h2,h3,h4,h5⟩:=EM (body:=fun (t:(List Str×(Str×(Int×Int))))=>EU t.1 t.2.1 t.2.2.1 t.2.2.2)
  (fun k (b:List Str×Nat)=>(b.1,s,(b.2:Int),(k:Int))) (fun b=>(b.1,s,(b.2:Int))) (fun k b=>b.2<=k/\b.1.length<=k/\Ap 32 s=b.1++Ap 32 (s.drop b.2)/\(32:UInt8) ∉ (s.drop b.2).take (k-b.2)) s.length (by
   rintro k ⟨out,f⟩ hk ⟨h1,h2,h3,h4⟩;simp only at h1 h2 h3 h4;have he:s[k]? = some s[k]:=za1 hk;generalize s[k]=c at he;unfold EU;simp only;rw[decide_eq_true (show (k:Int)<(s.length:Int) by omega),cT,Ao,he,obs];by_cases hc:c=32
   ·subst hc;refine ⟨(out ++ [(s.drop f).take (k-f)],k + 1),?_,za7 _,by simp; omega,?_,by simp⟩
    ·have hsub:LL (f:Int) (k:Int) s.length=some (f,k):=by unfold LL; rw[if_pos (by omega)]; rfl
     rw[show ((((32:UInt8).toNat:Nat):Int)==32)=true from rfl,cT,hsub,obs,F9 (by simp[Ag]; omega) (by simp[Ag]; omega),obs,AR (by omega),List.drop_take]
    ·have hd:s.drop f=(s.drop f).take (k-f)++32::s.drop (k + 1):=by
      have e1:(s.drop f).drop (k-f)=s.drop k:=by rw[List.drop_drop]; congr 1; omega
      have e2:s.drop k=32::s.drop (k + 1):=by
       rw[zb0 hk];rw[za1 hk] at he;rw[Option.some.inj he]
      rw[<-e2,<-e1,List.take_append_drop]
     rw[h3]
     conv=>lhs; rw[hd]
     rw[NA h4];simp
   ·have hc':c.toNat≠32:=fun h=>hc (UInt8.toNat_inj.1 (show c.toNat=(32:UInt8).toNat from h))
    refine ⟨(out,f),?_,by simp only; omega,by simp only; omega,h3,?_⟩
    ·rw[show (((c.toNat:Nat):Int)==32)=false by simp; omega,cF,AR (by omega)]
    ·simp only;rw[show k + 1-f=(k-f) + 1 by omega,List.take_add_one,zd2,show f + (k-f)=k by omega,he];intro hm;rcases zb4.1 hm with hm | hm
     ·exact h4 hm
     ·simp at hm; exact hc hm.symm) (by
   rintro ⟨out,f⟩ _;unfold EU;simp) 0 ([],0) (by omega) ⟨by simp,by simp,by simp,by simp⟩
 have h1':Ah (fun (t:(List Str×(Str×(Int×Int))))=>EU t.1 t.2.1 t.2.2.1 t.2.2.2) (([]:List Str),s,(0:Int),(0:Int))=_:=h1;obtain ⟨out,f⟩:=b;simp only at h2 h3 h4 h5;have hsub:LL (f:Int) (s.length:Int) s.length=some (f,s.length):=by unfold LL; rw[if_pos (by omega)]; rfl
 have hall:(s.drop f).take (s.length-f)=s.drop f:=zc3 (by simp);rw[hall] at h5;rw[h1',obs];simp only;rw[hsub,obs,F9 (by simp[Ag]; omega) (by simp[Ag]; omega),obs,h4,Ig h5,List.take_length]
def E9 (W:List Str) (i:Nat):Option Int:=match W[i]? with | none=>none | some s=>if (P1 s).2 then some (P1 s).1 else none
abbrev CV:=(Int×Nat) ⊕ (Nat×List Wy×Wy)
def ptV (g:Int×Int->Bool) (i:Nat) (ways:List Wy) (way:Wy) (p:Pn):CV:=if g p then .inr (i,ways,way ++ [p]) else .inl (6,i-1)
def Hc (p:Pn):Bool:=decide (-1000<=p.1/\p.1<=1000)&&decide (-1000<=p.2/\p.2<=1000)
def one (W:List Str) (i:Nat) (ways:List Wy) (way:Wy) (f:Int->Pn):CV:=match E9 W i with | none=>.inl (3,i) | some x=>ptV Hc (i + 1) ways way (f x)
def two (W:List Str) (i:Nat) (ways:List Wy) (way:Wy) (f:Int->Int->Pn):CV:=match E9 W i with | none=>.inl (3,i) | some x=>one W (i + 1) ways way (f x)
section
variable {W:List Str} (hW:W.length<=1000) (hs:∀ w∈W,w.length<=1000)
include hW hs
theorem AT3 {i:Nat} (hi:i<=W.length) (ways:List Wy) (way:Wy):Av (W,(i:Int),0) ways way=some (match E9 W i with | none=>((W,(i:Int),3),ways,way,0) | some x=>((W,((i + 1:Nat):Int),0),ways,way,x)):=by
 unfold Av E9;simp only;rw[show ((0:Int) != 0)=false from rfl,cF];by_cases h:i=W.length
 ·subst h;rw[show ((W.length:Int)==(W.length:Int))=true by simp,cT,ze1 (za7 _)]
 ·have he:W[i]? = some (W[i]'(by omega)):=za1 (by omega);generalize (W[i]'(by omega))=w at he;have hw:=hs w (za4 he);rw[show ((i:Int)==(W.length:Int))=false by simp; omega,cF,Ao,he,obs,AL4 (by omega),obs];simp only;cases hr:(P1 w).2 with
  | false=>rw[nF,cT]; rfl
  | true=>rw[nT,cF,AR (by omega)]; rfl
omit hs in
theorem A2u {i:Int} {c:Int} (hc:c≠0) (ways:List Wy) (way:Wy):Av (W,i,c) ways way=some ((W,i,c),ways,way,0):=by
 unfold Av;simp only;rw[show (c != 0)=true by simpa[bne] using hc,cT]
theorem A6Y {i:Nat} (hi:i<=W.length) (o:Bool) (ways:List Wy) (way:Wy):Ep (W,(i:Int),o) ways way=some (match E9 W i with | none=>((W,(i:Int),o),ways,way,0,false) | some x=>((W,((i + 1:Nat):Int),o),ways,way,x,true)):=by
 unfold Ep E9;simp only;by_cases h:i=W.length
 ·subst h;rw[show ((W.length:Int)==(W.length:Int))=true by simp,cT,ze1 (za7 _)]
 ·have he:W[i]? = some (W[i]'(by omega)):=za1 (by omega);generalize (W[i]'(by omega))=w at he;have hw:=hs w (za4 he);rw[show ((i:Int)==(W.length:Int))=false by simp; omega,cF,Ao,he,obs,AD8 (by omega),obs];simp only;rcases Ln w with ⟨v,_,_,_,hr⟩ | ⟨hr,_⟩
  ·rw[hr]; simp only; rw[cT,AR (by omega)]; rfl
  ·rw[hr]; rfl
end
theorem A8R (p:Pn):Fo p=some (Hc p):=by
 unfold Fo C0 Hc;by_cases h1:p.1>=-1000 <;> by_cases h2:p.1<=1000 <;> by_cases h3:p.2>=-1000 <;> by_cases h4:p.2<=1000 <;> simp[h1,h2,h3,h4] <;> omega
theorem A9d (p:Pn):H5 p=some (Hc p):=by
 unfold H5 Bk Hc;by_cases h1:p.1>=-1000 <;> by_cases h2:p.1<=1000 <;> by_cases h3:p.2>=-1000 <;> by_cases h4:p.2<=1000 <;> simp[h1,h2,h3,h4] <;> omega
theorem A8F (W:List Str) {i:Nat} (hi : 1<=i/\i<=2000) (ways:List Wy) {way:Wy} (hw:way.length<=1000) (p:Pn) :
  AK (W,(i:Int),0) ways way p=some (if Hc p then ((W,(i:Int),0),ways,way ++ [p]) else ((W,((i-1:Nat):Int),6),ways,way)):=by
 unfold AK;simp only;rw[show ((0:Int) != 0)=false from rfl,cF,A8R,obs];cases h:Hc (p.1,p.2) with
 | false =>
  rw[nF,cT,Aj (by omega) (by omega),show (i:Int)-1=((i-1:Nat):Int) by omega];rfl
 | true =>
  rw[nT,cF,F9 (by simp[Ag]; omega) (by simp[Ag]; omega),obs];rfl
theorem Ay5 (W:List Str) {i c:Int} (hc:c≠0) (ways:List Wy) (way:Wy) (p:Pn):AK (W,i,c) ways way p=some ((W,i,c),ways,way):=by
 unfold AK;simp only;rw[show (c != 0)=true by simpa[bne] using hc,cT]
def Wl (W:List Str) (ways:List Wy) (way:Wy):CV->(List Str×Int×Int)×List Wy×Wy
 | .inl (c,i)=>((W,(i:Int),c),ways,way)
 | .inr (i,ways',way')=>((W,(i:Int),0),ways',way')
abbrev SSt:=(List Str×Int×Int)×List Wy×Wy
noncomputable def A9V (st:SSt) (f:Int->Pn):Option SSt :=
 (Av (st.1.1,(st.1.2.1,st.1.2.2)) st.2.1 st.2.2).bind fun x=>(AK (x.1.1,(x.1.2.1,x.1.2.2)) x.2.1 x.2.2.1 (f x.2.2.2)).bind fun y=>some ((y.1.1,(y.1.2.1,y.1.2.2)),(y.2.1,y.2.2))
noncomputable def Ba1 (st:SSt) (f:Int->Int->Pn):Option SSt :=
 (Av (st.1.1,(st.1.2.1,st.1.2.2)) st.2.1 st.2.2).bind fun x=>(Av (x.1.1,(x.1.2.1,x.1.2.2)) x.2.1 x.2.2.1).bind fun x'=>(AK (x'.1.1,(x'.1.2.1,x'.1.2.2)) x'.2.1 x'.2.2.1 (f x.2.2.2 x'.2.2.2)).bind fun y=>some ((y.1.1,(y.1.2.1,y.1.2.2)),(y.2.1,y.2.2))
section
variable {W:List Str} (hW:W.length<=1000) (hs:∀ w∈W,w.length<=1000)
include hW hs
theorem KF {i:Nat} {x:Int} (h:E9 W i=some x):i<W.length:=by
 unfold E9 at h;cases hz:W[i]? with
 | none=>rw[hz] at h; cases h
 | some w=>exact Fc hz
theorem Pv {i:Nat} (hi:i<=W.length) (ways:List Wy) {way:Wy} (hw:way.length<=1000) (f:Int->Pn):A9V ((W,(i:Int),0),ways,way) f=some (Wl W ways way (one W i ways way f)):=by
 unfold A9V one;simp only;rw[AT3 hW hs hi,obs];cases hz:E9 W i with
 | none =>
  simp only;rw[Ay5 W (by omega),obs];rfl
 | some x =>
  have:=KF hW hs hz;simp only;rw[A8F W (by omega) ways hw,obs];unfold ptV
  split <;> rfl
theorem ZO {i:Nat} (hi:i<=W.length) (ways:List Wy) {way:Wy} (hw:way.length<=1000) (f:Int->Int->Pn):Ba1 ((W,(i:Int),0),ways,way) f=some (Wl W ways way (two W i ways way f)):=by
 unfold Ba1 two;simp only;rw[AT3 hW hs hi,obs];cases hz:E9 W i with
 | none =>
  simp only;rw[A2u hW (by omega),obs];simp only;rw[Ay5 W (by omega),obs];rfl
 | some x =>
  have:=KF hW hs hz;simp only;exact Pv hW hs (by omega) ways hw (f x)
end
end
section
open Go
def KW:List Str:=[[77],[76],[108],[72],[104],[86],[118],[90]]
def D5 (way:Wy):Pn:=way.getLast?.getD (0,0)
def CC (W:List Str) (i:Nat) (ways:List Wy) (way:Wy) (w:Str):CV :=
 if w = [77] then (if way = [] then (if ways.length=4 then .inl (5,i) else two W (i + 1) ways way (fun x y=>(x,y))) else .inl (4,i))
 else if w∈KW then
  (if way = [] then .inl (4,i)
  else if w = [90] then (if way.length<3 then .inl (5,i) else .inr (i + 1,ways ++ [way],[]))
  else if way.length=12 then .inl (5,i)
  else if w = [76] then two W (i + 1) ways way (fun x y=>(x,y))
  else if w = [108] then two W (i + 1) ways way (fun x y=>(IntKind.wrap .i64 ((D5 way).1 + x),IntKind.wrap .i64 ((D5 way).2 + y)))
  else if w = [72] then one W (i + 1) ways way (fun x=>(x,(D5 way).2))
  else if w = [104] then one W (i + 1) ways way (fun x=>(IntKind.wrap .i64 ((D5 way).1 + x),(D5 way).2))
  else if w = [86] then one W (i + 1) ways way (fun x=>((D5 way).1,x))
  else one W (i + 1) ways way (fun x=>((D5 way).1,IntKind.wrap .i64 ((D5 way).2 + x))))
 else .inl (2,i)
theorem R9:(([77]:Str) == [77])=true:=rfl
theorem S4:(([77]:Str) == [76])=false:=rfl
theorem M1:(([77]:Str) == [108])=false:=rfl
theorem R1:(([77]:Str) == [72])=false:=rfl
theorem M9:(([77]:Str) == [104])=false:=rfl
theorem SH:(([77]:Str) == [86])=false:=rfl
theorem N1:(([77]:Str) == [118])=false:=rfl
theorem S6:(([77]:Str) == [90])=false:=rfl
theorem RL:(([76]:Str) == [77])=false:=rfl
theorem Tf:(([76]:Str) == [76])=true:=rfl
theorem N3:(([76]:Str) == [108])=false:=rfl
theorem SA:(([76]:Str) == [72])=false:=rfl
theorem NI:(([76]:Str) == [104])=false:=rfl
theorem S5:(([76]:Str) == [86])=false:=rfl
theorem NW:(([76]:Str) == [118])=false:=rfl
theorem Se:(([76]:Str) == [90])=false:=rfl
theorem Nt:(([108]:Str) == [77])=false:=rfl
theorem MY:(([108]:Str) == [76])=false:=rfl
theorem Kc:(([108]:Str) == [108])=true:=rfl
theorem N8:(([108]:Str) == [72])=false:=rfl
theorem K8:(([108]:Str) == [104])=false:=rfl
theorem Nx:(([108]:Str) == [86])=false:=rfl
theorem La:(([108]:Str) == [118])=false:=rfl
theorem ND:(([108]:Str) == [90])=false:=rfl
theorem R3:(([72]:Str) == [77])=false:=rfl
theorem SJ:(([72]:Str) == [76])=false:=rfl
theorem NX:(([72]:Str) == [108])=false:=rfl
theorem RZ:(([72]:Str) == [72])=true:=rfl
theorem M2:(([72]:Str) == [104])=false:=rfl
theorem Sr:(([72]:Str) == [86])=false:=rfl
theorem Na:(([72]:Str) == [118])=false:=rfl
theorem SM:(([72]:Str) == [90])=false:=rfl
theorem NF:(([104]:Str) == [77])=false:=rfl
theorem N2:(([104]:Str) == [76])=false:=rfl
theorem Kx:(([104]:Str) == [108])=false:=rfl
theorem NL:(([104]:Str) == [72])=false:=rfl
theorem J3:(([104]:Str) == [104])=true:=rfl
theorem NE:(([104]:Str) == [86])=false:=rfl
theorem J9:(([104]:Str) == [118])=false:=rfl
theorem MS:(([104]:Str) == [90])=false:=rfl
theorem SY:(([86]:Str) == [77])=false:=rfl
theorem SR:(([86]:Str) == [76])=false:=rfl
theorem M3:(([86]:Str) == [108])=false:=rfl
theorem Si:(([86]:Str) == [72])=false:=rfl
theorem Oc:(([86]:Str) == [104])=false:=rfl
theorem SK:(([86]:Str) == [86])=true:=rfl
theorem Nr:(([86]:Str) == [118])=false:=rfl
theorem Tc:(([86]:Str) == [90])=false:=rfl
theorem N0:(([118]:Str) == [77])=false:=rfl
theorem Nk:(([118]:Str) == [76])=false:=rfl
theorem KN:(([118]:Str) == [108])=false:=rfl
theorem M7:(([118]:Str) == [72])=false:=rfl
theorem K3:(([118]:Str) == [104])=false:=rfl
theorem MT:(([118]:Str) == [86])=false:=rfl
theorem K4:(([118]:Str) == [118])=true:=rfl
theorem MR:(([118]:Str) == [90])=false:=rfl
theorem VA:(([90]:Str) == [77])=false:=rfl
theorem V1:(([90]:Str) == [76])=false:=rfl
theorem QT:(([90]:Str) == [108])=false:=rfl
theorem Wg:(([90]:Str) == [72])=false:=rfl
theorem Qz:(([90]:Str) == [104])=false:=rfl
theorem Vs:(([90]:Str) == [86])=false:=rfl
theorem QR:(([90]:Str) == [118])=false:=rfl
theorem Vy:(([90]:Str) == [90])=true:=rfl
theorem DZ {way:Wy} (h:way≠[]):A1 way (way.length-1)=some (D5 way):=by
 have hp:=zd0.2 h;have e:way[way.length-1]? = some (way[way.length-1]'(by omega)):=za1 (by omega);show way[way.length-1]? = _;unfold D5;rw[List.getLast?_eq_getElem?,e];rfl
theorem D0 {way:Wy} (h:way≠[]) (hl:way.length<=1000):A8 (IntKind.wrap .i64 ((way.length:Int)-1)) way.length=some (way.length-1):=by
 have hp:=zd0.2 h;rw[Aj (by omega) (by omega),show (way.length:Int)-1=((way.length-1:Nat):Int) by omega,A5 (by omega)]
theorem Js (W:List Str) (i:Int) (ways:List Wy) (way:Wy) (w:Str) (o:Bool) :
  Ah (fun (s:((List Str×(Int×Int))×(List Str×(List Wy×(Wy×(Str×(Bool×(Bool×(Int×Int)))))))) )=>Dc s.1 s.2.1 s.2.2.1 s.2.2.2.1 s.2.2.2.2.1 s.2.2.2.2.2.1 s.2.2.2.2.2.2.1 s.2.2.2.2.2.2.2.1 s.2.2.2.2.2.2.2.2)
   ((W,(i,0)),(KW,(ways,(way,(w,(o,(false,(((8:Nat):Int),(0:Int)))))))))=some ((W,(i,0)),(ways,(way,(w,(o,decide (w∈KW)))))):=by
 obtain ⟨_,h1,_⟩:=EM (body:=fun (s:((List Str×(Int×Int))×(List Str×(List Wy×(Wy×(Str×(Bool×(Bool×(Int×Int)))))))) )=>Dc s.1 s.2.1 s.2.2.1 s.2.2.2.1 s.2.2.2.2.1 s.2.2.2.2.2.1 s.2.2.2.2.2.2.1 s.2.2.2.2.2.2.2.1 s.2.2.2.2.2.2.2.2)
  (fun k (_:Unit)=>((W,(i,0)),(KW,(ways,(way,(w,(o,(decide (w∈KW.take k),(((8:Nat):Int),(k:Int))))))))) ) (fun _=>((W,(i,0)),(ways,(way,(w,(o,decide (w∈KW))))))) (fun _ _=>True) 8 (by
   intro k _ hk _;have he:KW[k]? = some (KW[k]'hk):=za1 hk;generalize hx:(KW[k]'hk)=x at he;refine ⟨(),?_,trivial⟩
   unfold Dc;simp only;rw[decide_eq_true (by omega),cT,show A8 (k:Int) KW.length=some k from A5 hk,obs,show A1 KW k=some x from he,obs,List.take_add_one,he,AR (by omega)];by_cases hm:w∈KW.take k
   ·rw[decide_eq_true hm,cT,decide_eq_true (List.mem_append_left _ hm)]
   ·rw[decide_eq_false hm,cF];by_cases hxw:x=w
    ·subst hxw;rw[beq_self_eq_true,decide_eq_true (List.mem_append_right _ (by simp))]
    ·rw[beq_eq_false_iff_ne.2 hxw,decide_eq_false];intro h;rcases zb4.1 h with h | h
     ·exact hm h
     ·simp at h; exact hxw h.symm) (by
   intro _ _;unfold Dc;simp only;rw[decide_eq_false (by omega),cF];rfl) 0 () (by omega) trivial
 exact h1
section
variable {W:List Str} (hW:W.length<=1000) (hs:∀ w∈W,w.length<=1000)
include hW hs
theorem A7f {i:Nat} {w:Str} (he:W[i]? = some w) (hk:w ∉ KW) (ways:List Wy) {way:Wy} (hw:way.length<=1000):Ay (W,(i:Int),0) ways way=some (Wl W ways way (CC W i ways way w)):=by
 unfold Ay;simp only;rw[Ao,he,obs,show ([[77],[76],[108],[72],[104],[86],[118],[90]]:List Str)=KW from rfl,Js W _ ways way _ _,obs];have h77:w≠[77]:=fun h=>hk (by rw[h]; decide)
 unfold CC;rw[if_neg h77,if_neg hk,decide_eq_false hk,nF];simp only[cond_true,za0,za8];rfl
theorem A6G {i:Nat} (he:W[i]? = some [77]) (ways:List Wy) {way:Wy} (hw:way.length<=1000):Ay (W,(i:Int),0) ways way=some (Wl W ways way (CC W i ways way [77])):=by
 have hlt:=Fc he;unfold Ay;simp only;rw[Ao,he,obs,show ([[77],[76],[108],[72],[104],[86],[118],[90]]:List Str)=KW from rfl,Js W _ ways way _ _,obs];unfold CC;rw[if_pos rfl,decide_eq_true (show ([77]:Str)∈KW by decide)];by_cases h0:way = []
 ·subst h0;rw[if_pos rfl];by_cases h4:ways.length=4
  ·have h4':((ways.length:Int)==4)=true:=by simp[h4]
   rw[if_pos h4];simp only[R9,S4,M1,R1,M9,SH,N1,S6,h4',nT,cF,cT,ze9,show decide (((0:Nat):Int)>0)=false from rfl,show (false==true)=false from rfl,obs,za8,show ((5:Int) != 0)=true from rfl];rfl
  ·have h4':((ways.length:Int)==4)=false:=by simp; omega
   rw[if_neg h4];simp only[R9,S4,M1,R1,M9,SH,N1,S6,h4',nT,nF,cF,cT,ze9,show decide (((0:Nat):Int)>0)=false from rfl,show (false==true)=false from rfl,obs,za8,show ((0:Int) != 0)=false from rfl,show (((0:Nat):Int)==12)=false from rfl,AR (show i<4611686018427387904 by omega)];exact ZO hW hs (by omega) ways (by simp) (fun x y=>(x,y))
 ·have hp:=zd0.2 h0;rw[if_neg h0];simp only[R9,S4,M1,R1,M9,SH,N1,S6,nT,cF,cT,decide_eq_true (show (way.length:Int)>0 by omega),show (true==true)=true from rfl,obs,za8,show ((4:Int) != 0)=true from rfl];rfl
theorem A6I {i:Nat} (he:W[i]? = some [76]) (ways:List Wy) {way:Wy} (hw:way.length<=1000):Ay (W,(i:Int),0) ways way=some (Wl W ways way (CC W i ways way [76])):=by
 have hlt:=Fc he;unfold Ay;simp only;rw[Ao,he,obs,show ([[77],[76],[108],[72],[104],[86],[118],[90]]:List Str)=KW from rfl,Js W _ ways way _ _,obs];unfold CC;rw[if_neg (by decide),if_pos (show ([76]:Str)∈KW by decide),decide_eq_true (show ([76]:Str)∈KW by decide)];by_cases h0:way = []
 ·subst h0;rw[if_pos rfl];simp only[RL,Tf,N3,SA,NI,S5,NW,Se,nT,cF,cT,ze9,show decide (((0:Nat):Int)>0)=false from rfl,show (false==false)=true from rfl,obs,za8,show ((4:Int) != 0)=true from rfl];rfl
 ·have hp:=zd0.2 h0;rw[if_neg h0];rw[if_neg (by decide)];by_cases h12:way.length=12
  ·rw[if_pos h12];simp only[RL,Tf,N3,SA,NI,S5,NW,Se,nT,nF,cF,cT,decide_eq_true (show (way.length:Int)>0 by omega),show (true==false)=false from rfl,obs,za8,show ((way.length:Int)==12)=true by simp; omega,show ((5:Int) != 0)=true from rfl];rfl
  ·rw[if_neg h12,if_pos rfl];simp only[RL,Tf,N3,SA,NI,S5,NW,Se,nT,nF,cF,cT,decide_eq_true (show (way.length:Int)>0 by omega),show (true==false)=false from rfl,obs,za8,show ((way.length:Int)==12)=false by simp; omega,show ((0:Int) != 0)=false from rfl,D0 h0 hw,DZ h0,AR (show i<4611686018427387904 by omega)];exact ZO hW hs (by omega) ways hw (fun x y=>(x,y))
theorem A4N {i:Nat} (he:W[i]? = some [108]) (ways:List Wy) {way:Wy} (hw:way.length<=1000):Ay (W,(i:Int),0) ways way=some (Wl W ways way (CC W i ways way [108])):=by
 have hlt:=Fc he;unfold Ay;simp only;rw[Ao,he,obs,show ([[77],[76],[108],[72],[104],[86],[118],[90]]:List Str)=KW from rfl,Js W _ ways way _ _,obs];unfold CC;rw[if_neg (by decide),if_pos (show ([108]:Str)∈KW by decide),decide_eq_true (show ([108]:Str)∈KW by decide)];by_cases h0:way = []
 ·subst h0;rw[if_pos rfl];simp only[Nt,MY,Kc,N8,K8,Nx,La,ND,nT,cF,cT,ze9,show decide (((0:Nat):Int)>0)=false from rfl,show (false==false)=true from rfl,obs,za8,show ((4:Int) != 0)=true from rfl];rfl
 ·have hp:=zd0.2 h0;rw[if_neg h0];rw[if_neg (by decide)];by_cases h12:way.length=12
  ·rw[if_pos h12];simp only[Nt,MY,Kc,N8,K8,Nx,La,ND,nT,nF,cF,cT,decide_eq_true (show (way.length:Int)>0 by omega),show (true==false)=false from rfl,obs,za8,show ((way.length:Int)==12)=true by simp; omega,show ((5:Int) != 0)=true from rfl];rfl
  ·rw[if_neg h12,if_neg (by decide),if_pos rfl];simp only[Nt,MY,Kc,N8,K8,Nx,La,ND,nT,nF,cF,cT,decide_eq_true (show (way.length:Int)>0 by omega),show (true==false)=false from rfl,obs,za8,show ((way.length:Int)==12)=false by simp; omega,show ((0:Int) != 0)=false from rfl,D0 h0 hw,DZ h0,AR (show i<4611686018427387904 by omega)];exact ZO hW hs (by omega) ways hw (fun x y=>(IntKind.wrap .i64 ((D5 way).1 + x),IntKind.wrap .i64 ((D5 way).2 + y)))
theorem A7E {i:Nat} (he:W[i]? = some [72]) (ways:List Wy) {way:Wy} (hw:way.length<=1000):Ay (W,(i:Int),0) ways way=some (Wl W ways way (CC W i ways way [72])):=by
 have hlt:=Fc he;unfold Ay;simp only;rw[Ao,he,obs,show ([[77],[76],[108],[72],[104],[86],[118],[90]]:List Str)=KW from rfl,Js W _ ways way _ _,obs];unfold CC;rw[if_neg (by decide),if_pos (show ([72]:Str)∈KW by decide),decide_eq_true (show ([72]:Str)∈KW by decide)];by_cases h0:way = []
 ·subst h0;rw[if_pos rfl];simp only[R3,SJ,NX,RZ,M2,Sr,Na,SM,nT,cF,cT,ze9,show decide (((0:Nat):Int)>0)=false from rfl,show (false==false)=true from rfl,obs,za8,show ((4:Int) != 0)=true from rfl];rfl
 ·have hp:=zd0.2 h0;rw[if_neg h0];rw[if_neg (by decide)];by_cases h12:way.length=12
  ·rw[if_pos h12];simp only[R3,SJ,NX,RZ,M2,Sr,Na,SM,nT,nF,cF,cT,decide_eq_true (show (way.length:Int)>0 by omega),show (true==false)=false from rfl,obs,za8,show ((way.length:Int)==12)=true by simp; omega,show ((5:Int) != 0)=true from rfl];rfl
  ·rw[if_neg h12,if_neg (by decide),if_neg (by decide),if_pos rfl];simp only[R3,SJ,NX,RZ,M2,Sr,Na,SM,nT,nF,cF,cT,decide_eq_true (show (way.length:Int)>0 by omega),show (true==false)=false from rfl,obs,za8,show ((way.length:Int)==12)=false by simp; omega,show ((0:Int) != 0)=false from rfl,D0 h0 hw,DZ h0,AR (show i<4611686018427387904 by omega)];exact Pv hW hs (by omega) ways hw (fun x=>(x,(D5 way).2))
theorem A41 {i:Nat} (he:W[i]? = some [104]) (ways:List Wy) {way:Wy} (hw:way.length<=1000):Ay (W,(i:Int),0) ways way=some (Wl W ways way (CC W i ways way [104])):=by
 have hlt:=Fc he;unfold Ay;simp only;rw[Ao,he,obs,show ([[77],[76],[108],[72],[104],[86],[118],[90]]:List Str)=KW from rfl,Js W _ ways way _ _,obs];unfold CC;rw[if_neg (by decide),if_pos (show ([104]:Str)∈KW by decide),decide_eq_true (show ([104]:Str)∈KW by decide)];by_cases h0:way = []
 ·subst h0;rw[if_pos rfl];simp only[NF,N2,Kx,NL,J3,NE,J9,MS,nT,cF,cT,ze9,show decide (((0:Nat):Int)>0)=false from rfl,show (false==false)=true from rfl,obs,za8,show ((4:Int) != 0)=true from rfl];rfl
 ·have hp:=zd0.2 h0;rw[if_neg h0];rw[if_neg (by decide)];by_cases h12:way.length=12
  ·rw[if_pos h12];simp only[NF,N2,Kx,NL,J3,NE,J9,MS,nT,nF,cF,cT,decide_eq_true (show (way.length:Int)>0 by omega),show (true==false)=false from rfl,obs,za8,show ((way.length:Int)==12)=true by simp; omega,show ((5:Int) != 0)=true from rfl];rfl
  ·rw[if_neg h12,if_neg (by decide),if_neg (by decide),if_neg (by decide),if_pos rfl];simp only[NF,N2,Kx,NL,J3,NE,J9,MS,nT,nF,cF,cT,decide_eq_true (show (way.length:Int)>0 by omega),show (true==false)=false from rfl,obs,za8,show ((way.length:Int)==12)=false by simp; omega,show ((0:Int) != 0)=false from rfl,D0 h0 hw,DZ h0,AR (show i<4611686018427387904 by omega)];exact Pv hW hs (by omega) ways hw (fun x=>(IntKind.wrap .i64 ((D5 way).1 + x),(D5 way).2))
theorem A7t {i:Nat} (he:W[i]? = some [86]) (ways:List Wy) {way:Wy} (hw:way.length<=1000):Ay (W,(i:Int),0) ways way=some (Wl W ways way (CC W i ways way [86])):=by
 have hlt:=Fc he;unfold Ay;simp only;rw[Ao,he,obs,show ([[77],[76],[108],[72],[104],[86],[118],[90]]:List Str)=KW from rfl,Js W _ ways way _ _,obs];unfold CC;rw[if_neg (by decide),if_pos (show ([86]:Str)∈KW by decide),decide_eq_true (show ([86]:Str)∈KW by decide)];by_cases h0:way = []
 ·subst h0;rw[if_pos rfl];simp only[SY,SR,M3,Si,Oc,SK,Nr,Tc,nT,cF,cT,ze9,show decide (((0:Nat):Int)>0)=false from rfl,show (false==false)=true from rfl,obs,za8,show ((4:Int) != 0)=true from rfl];rfl
 ·have hp:=zd0.2 h0;rw[if_neg h0];rw[if_neg (by decide)];by_cases h12:way.length=12
  ·rw[if_pos h12];simp only[SY,SR,M3,Si,Oc,SK,Nr,Tc,nT,nF,cF,cT,decide_eq_true (show (way.length:Int)>0 by omega),show (true==false)=false from rfl,obs,za8,show ((way.length:Int)==12)=true by simp; omega,show ((5:Int) != 0)=true from rfl];rfl
  ·rw[if_neg h12,if_neg (by decide),if_neg (by decide),if_neg (by decide),if_neg (by decide),if_pos rfl];simp only[SY,SR,M3,Si,Oc,SK,Nr,Tc,nT,nF,cF,cT,decide_eq_true (show (way.length:Int)>0 by omega),show (true==false)=false from rfl,obs,za8,show ((way.length:Int)==12)=false by simp; omega,show ((0:Int) != 0)=false from rfl,D0 h0 hw,DZ h0,AR (show i<4611686018427387904 by omega)];exact Pv hW hs (by omega) ways hw (fun x=>((D5 way).1,x))
theorem A5e {i:Nat} (he:W[i]? = some [118]) (ways:List Wy) {way:Wy} (hw:way.length<=1000):Ay (W,(i:Int),0) ways way=some (Wl W ways way (CC W i ways way [118])):=by
 have hlt:=Fc he;unfold Ay;simp only;rw[Ao,he,obs,show ([[77],[76],[108],[72],[104],[86],[118],[90]]:List Str)=KW from rfl,Js W _ ways way _ _,obs];unfold CC;rw[if_neg (by decide),if_pos (show ([118]:Str)∈KW by decide),decide_eq_true (show ([118]:Str)∈KW by decide)];by_cases h0:way = []
 ·subst h0;rw[if_pos rfl];simp only[N0,Nk,KN,M7,K3,MT,K4,MR,nT,cF,cT,ze9,show decide (((0:Nat):Int)>0)=false from rfl,show (false==false)=true from rfl,obs,za8,show ((4:Int) != 0)=true from rfl];rfl
 ·have hp:=zd0.2 h0;rw[if_neg h0];rw[if_neg (by decide)];by_cases h12:way.length=12
  ·rw[if_pos h12];simp only[N0,Nk,KN,M7,K3,MT,K4,MR,nT,nF,cF,cT,decide_eq_true (show (way.length:Int)>0 by omega),show (true==false)=false from rfl,obs,za8,show ((way.length:Int)==12)=true by simp; omega,show ((5:Int) != 0)=true from rfl];rfl
  ·rw[if_neg h12,if_neg (by decide),if_neg (by decide),if_neg (by decide),if_neg (by decide),if_neg (by decide)];simp only[N0,Nk,KN,M7,K3,MT,K4,MR,nT,nF,cF,cT,decide_eq_true (show (way.length:Int)>0 by omega),show (true==false)=false from rfl,obs,za8,show ((way.length:Int)==12)=false by simp; omega,show ((0:Int) != 0)=false from rfl,D0 h0 hw,DZ h0,AR (show i<4611686018427387904 by omega)];exact Pv hW hs (by omega) ways hw (fun x=>((D5 way).1,IntKind.wrap .i64 ((D5 way).2 + x)))
theorem A6l {i:Nat} (he:W[i]? = some [90]) (ways:List Wy) {way:Wy} (hw:way.length<=1000) (hwl:ways.length<=1000):Ay (W,(i:Int),0) ways way=some (Wl W ways way (CC W i ways way [90])):=by
 have hlt:=Fc he;unfold Ay;simp only;rw[Ao,he,obs,show ([[77],[76],[108],[72],[104],[86],[118],[90]]:List Str)=KW from rfl,Js W _ ways way _ _,obs];unfold CC;rw[if_neg (by decide),if_pos (show ([90]:Str)∈KW by decide),decide_eq_true (show ([90]:Str)∈KW by decide)];by_cases h0:way = []
 ·subst h0;rw[if_pos rfl];simp only[VA,V1,QT,Wg,Qz,Vs,QR,Vy,nT,cF,cT,ze9,show decide (((0:Nat):Int)>0)=false from rfl,show (false==false)=true from rfl,obs,za8,show ((4:Int) != 0)=true from rfl];rfl
 ·have hp:=zd0.2 h0;rw[if_neg h0];rw[if_pos rfl];by_cases h3:way.length<3
  ·rw[if_pos h3];simp only[VA,V1,QT,Wg,Qz,Vs,QR,Vy,nT,nF,cF,cT,decide_eq_true (show (way.length:Int)>0 by omega),show (true==false)=false from rfl,obs,za8,decide_eq_true (show (way.length:Int)<3 by omega),show ((5:Int) != 0)=true from rfl];rfl
  ·rw[if_neg h3];simp only[VA,V1,QT,Wg,Qz,Vs,QR,Vy,nT,nF,cF,cT,decide_eq_true (show (way.length:Int)>0 by omega),show (true==false)=false from rfl,obs,za8,decide_eq_false (show ¬(way.length:Int)<3 by omega),show ((0:Int) != 0)=false from rfl,D0 h0 hw,DZ h0,AR (show i<4611686018427387904 by omega)];rw[F9 (by simp[Ag]; omega) (by simp[Ag]; omega),obs];rfl
theorem A5U {i:Nat} {w:Str} (he:W[i]? = some w) (ways:List Wy) {way:Wy} (hw:way.length<=1000) (hwl:ways.length<=1000):Ay (W,(i:Int),0) ways way=some (Wl W ways way (CC W i ways way w)):=by
 by_cases hk:w∈KW
 ·have hk':w = [77]\/w = [76]\/w = [108]\/w = [72]\/w = [104]\/w = [86]\/w = [118]\/w = [90]:=by simpa[KW] using hk
  rcases hk' with rfl | rfl | rfl | rfl | rfl | rfl | rfl | rfl
  ·exact A6G hW hs he ways hw
  ·exact A6I hW hs he ways hw
  ·exact A4N hW hs he ways hw
  ·exact A7E hW hs he ways hw
  ·exact A41 hW hs he ways hw
  ·exact A7t hW hs he ways hw
  ·exact A5e hW hs he ways hw
  ·exact A6l hW hs he ways hw hwl
 ·exact A7f hW hs he hk ways hw
end
end
section
open Go
abbrev ISt:=(List Str×(Int×Bool))×(List Wy×(Wy×(Int×Int)))
def EI (W:List Str):CV->ISt->Prop
 | .inl (c,i),r=>r.2.2.2=(c,(i:Int))/\c≠0
 | .inr (i,ways',way'),r=>r=((W,((i:Int),decide (way'≠[]))),(ways',(way',(0,0))))
def KWi:List Str:=[[77],[76],[108],[72],[86],[104],[118],[90]]
theorem A3Z (w:Str):w∈KWi↔w∈KW:=by simp only[KWi,KW,zc5,List.not_mem_nil,or_false]; constructor <;> (intro h; rcases h with h | h | h | h | h | h | h | h <;> simp[h])
theorem Jr (w:Str):A7 KWi w=some (decide (w∈KW)):=by
 unfold A7 BK;have key:=KC (body:=fun s:List Str×Str×Int×Int=>Ba s.1 s.2.1 s.2.2.1 s.2.2.2) (l:=KWi) (st:=fun k=>(KWi,w,((KWi.length:Nat):Int),(k:Int))) (p:=fun x=>!(w==x)) (fin:=.inl ()) (bad:=fun k=>.inr (k:Int))
  (fun k a hk hp=>by
   have hlt:k<8:=Fc hk;have hp:(w==a)=false:=by simpa using hp
   unfold Ba;simp only;rw[decide_eq_true (show (k:Int)<((KWi.length:Nat):Int) by show (k:Int)<8; omega),cT,Ao,hk,obs,hp,cF,AR (by omega)])
  (fun k a hk hp=>by
   have hlt:k<8:=Fc hk;have hp:(w==a)=true:=by simpa using hp
   unfold Ba;simp only;rw[decide_eq_true (show (k:Int)<((KWi.length:Nat):Int) by show (k:Int)<8; omega),cT,Ao,hk,obs,hp,cT])
  (by
   unfold Ba;simp only;rw[decide_eq_false (by omega),cF])
 by_cases hm:w∈KW
 ·have hall:KWi.all (fun x=>!(w==x))=false:=by
   rw[List.all_eq_false];exact ⟨w,(A3Z w).2 hm,by simp⟩
  obtain ⟨k,_,h⟩:=key.2 hall;rw[show ((0:Nat):Int)=0 from rfl] at h;rw[h,obs];simp only[za8];rw[obs,decide_eq_true hm,decide_eq_true (by omega)]
 ·have hall:KWi.all (fun x=>!(w==x))=true:=by
   rw[za5];intro x hx;have:w≠x:=fun h=>hm ((A3Z w).1 (h▸hx))
   simpa using this
  have h:=key.1 hall;rw[show ((0:Nat):Int)=0 from rfl] at h;rw[h,obs];simp only[Sum.elim_inl];rw[obs,decide_eq_false hm];rfl
theorem N9 (w:Str):Eh [72,86,104,118] w=some (Lib.contains [72,86,104,118] w):=by
 unfold Eh K9;rw[if_pos (by decide)]
noncomputable def icB:((List Str×(Int×Bool))×(List Int×(List Wy×(Wy×(Str×(Int×Int))))))->Option (((List Str×(Int×Bool))×(List Int×(List Wy×(Wy×(Str×(Int×Int)))))) ⊕ (((List Str×(Int×Bool))×(List Int×(List Wy×(Wy×Str)))) ⊕ ISt)) :=
 fun s=>Ee s.1 s.2.1 s.2.2.1 s.2.2.2.1 s.2.2.2.2.1 s.2.2.2.2.2.1 s.2.2.2.2.2.2
section
variable {W:List Str} (hW:W.length<=1000) (hs:∀ w∈W,w.length<=1000)
include hW hs
theorem A66 {i:Nat} (hi:i<=W.length) (o:Bool) (n:List Int) (hn:n.length<=10) (ways:List Wy) (way:Wy) (w:Str) {c k:Nat} (hk:k<c) (hc:c<=10) :
  icB ((W,((i:Int),o)),(n,(ways,(way,(w,((c:Int),(k:Int)))))))=match E9 W i with | none=>some (.inr (.inr ((W,((i:Int),o)),(ways,(way,(3,(i:Int))))))) | some x=>some (.inl ((W,(((i + 1:Nat):Int),o)),(n ++ [x],(ways,(way,(w,((c:Int),((k + 1:Nat):Int)))))))):=by
 unfold icB Ee;simp only;rw[decide_eq_true (by omega),cT,A6Y hW hs hi,obs];cases hz:E9 W i with
 | none=>rfl
 | some x =>
  simp only;rw[nT,cF,F9 (by simp[Ag]; omega) (by simp[Ag]; omega),obs,AR (by omega)]
omit hW hs in
theorem A8t (W:List Str) (i:Int) (o:Bool) (n:List Int) (ways:List Wy) (way:Wy) (w:Str) (c:Nat):icB ((W,(i,o)),(n,(ways,(way,(w,((c:Int),(c:Int)))))))=some (.inr (.inl ((W,(i,o)),(n,(ways,(way,w)))))):=by
 unfold icB Ee;simp only;rw[decide_eq_false (by omega),cF]
theorem Bc1 {i:Nat} (hi:i<=W.length) (o:Bool) (ways:List Wy) (way:Wy) (w:Str):Ah icB ((W,((i:Int),o)),(([]:List Int),(ways,(way,(w,((1:Int),(0:Int))))))) =
  match E9 W i with | none=>some (.inr ((W,((i:Int),o)),(ways,(way,(3,(i:Int)))))) | some x=>some (.inl ((W,(((i + 1:Nat):Int),o)),([x],(ways,(way,w))))):=by
 have h1:=A66 hW hs hi o [] (by simp) ways way w (c:=1) (k:=0) (by omega) (by omega);cases hz:E9 W i with
 | none=>rw[hz] at h1; exact Aq h1
 | some x =>
  rw[hz] at h1;exact (AY h1).trans (Aq (A8t W _ o [x] ways way w 1))
theorem Be6 {i:Nat} (hi:i<=W.length) (o:Bool) (ways:List Wy) (way:Wy) (w:Str):Ah icB ((W,((i:Int),o)),(([]:List Int),(ways,(way,(w,((2:Int),(0:Int))))))) =
  match E9 W i with | none=>some (.inr ((W,((i:Int),o)),(ways,(way,(3,(i:Int)))))) | some x=>(match E9 W (i + 1) with | none=>some (.inr ((W,(((i + 1:Nat):Int),o)),(ways,(way,(3,((i + 1:Nat):Int)))))) | some y=>some (.inl ((W,(((i + 2:Nat):Int),o)),([x,y],(ways,(way,w)))))):=by
 have h1:=A66 hW hs hi o [] (by simp) ways way w (c:=2) (k:=0) (by omega) (by omega);cases hz:E9 W i with
 | none=>rw[hz] at h1; exact Aq h1
 | some x =>
  rw[hz] at h1;have hlt:=KF hW hs hz;have h2:=A66 hW hs (i:=i + 1) (by omega) o [x] (by simp) ways way w (c:=2) (k:=1) (by omega) (by omega);refine (AY h1).trans ?_
  simp only;cases hz2:E9 W (i + 1) with
  | none=>rw[hz2] at h2; exact Aq h2
  | some y =>
   rw[hz2] at h2;exact (AY h2).trans (Aq (A8t W _ o [x,y] ways way w 2))
noncomputable def icK (w:Str):(((List Str×(Int×Bool))×(List Int×(List Wy×(Wy×Str)))) ⊕ ISt)->Option ISt:=fun x7=>Sum.elim
   (fun x8 =>
   ((Bg (x8.1.1,(x8.1.2.1,x8.1.2.2)) x8.2.2.1 x8.2.2.2.1 x8.2.2.2.2 x8.2.1)).bind fun x9 =>
   ((H5 (x9.2.2.2.1,x9.2.2.2.2))).bind fun x10 =>
   bif (!x10) then
    some ((x9.1.1,(x9.1.2.1,x9.1.2.2)),(x9.2.1,(x9.2.2.1,((6:Int),(IntKind.wrap .i64 (x9.1.2.1-(1:Int)))))))
   else
   ((De 16 2 x9.2.2.1 (List.cons (x9.2.2.2.1,x9.2.2.2.2) List.nil))).bind fun x11 =>
   some ((x9.1.1,(x9.1.2.1,true)),(x9.2.1,(x11,((0:Int),(0:Int))))))
   (fun x12 =>
   some ((x12.1.1,(x12.1.2.1,x12.1.2.2)),(x12.2.1,(x12.2.2.1,(x12.2.2.2.1,x12.2.2.2.2)))))
   x7
theorem A9W {i:Nat} (hi : 1<=i/\i<=2000) (o:Bool) (ways:List Wy) {way:Wy} (hw:way.length<=1000) (w:Str) (n:List Int) {p:Pn} (hn:Bg (W,((i:Int),o)) ways way w n=some ((W,((i:Int),o)),(ways,(way,p)))) :
  ∃ r,icK w (.inl ((W,((i:Int),o)),(n,(ways,(way,w)))))=some r/\EI W (ptV Hc i ways way p) r:=by
 unfold icK ptV;simp only[Sum.elim_inl];rw[hn,obs];simp only;rw[A9d,obs];cases h:Hc (p.1,p.2) with
 | false =>
  rw[nF,cT,if_neg (by simp),Aj (by omega) (by omega)];exact ⟨_,rfl,by show ((6:Int),_)=_; congr 1; omega,by omega⟩
 | true =>
  rw[nT,cF,if_pos rfl,F9 (by simp[Ag]; omega) (by simp[Ag]; omega),obs];refine ⟨_,rfl,?_⟩
  show _=_;rw[decide_eq_true (show way ++ [p]≠[] by simp)]
theorem YM {i:Nat} (hi:i<=W.length) (o:Bool) (ways:List Wy) {way:Wy} (hw:way.length<=1000) (w:Str) {f:Int->Pn} (hf:∀ (j:Nat) x,Bg (W,((j:Int),o)) ways way w [x]=some ((W,((j:Int),o)),(ways,(way,f x)))) :
  ∃ r,((Ah icB ((W,((i:Int),o)),(([]:List Int),(ways,(way,(w,((1:Int),(0:Int)))))))).bind (icK w))=some r/\EI W (one W i ways way f) r:=by
 rw[Bc1 hW hs hi];unfold one;cases hz:E9 W i with
 | none=>exact ⟨_,rfl,rfl,by omega⟩
 | some x =>
  have:=KF hW hs hz;exact A9W hW hs (by omega) o ways hw w [x] (hf (i + 1) x)
theorem AC3 {i:Nat} (hi:i<=W.length) (o:Bool) (ways:List Wy) {way:Wy} (hw:way.length<=1000) (w:Str) {f:Int->Int->Pn} (hf:∀ (j:Nat) x y,Bg (W,((j:Int),o)) ways way w [x,y]=some ((W,((j:Int),o)),(ways,(way,f x y)))) :
  ∃ r,((Ah icB ((W,((i:Int),o)),(([]:List Int),(ways,(way,(w,((2:Int),(0:Int)))))))).bind (icK w))=some r/\EI W (two W i ways way f) r:=by
 rw[Be6 hW hs hi];unfold two one;cases hz:E9 W i with
 | none=>exact ⟨_,rfl,rfl,by omega⟩
 | some x =>
  have:=KF hW hs hz;simp only;cases hz2:E9 W (i + 1) with
  | none=>exact ⟨_,rfl,rfl,by omega⟩
  | some y =>
   have:=KF hW hs hz2;exact A9W hW hs (by omega) o ways hw w [x,y] (hf (i + 2) x y)
theorem A6p {i:Nat} {w:Str} (he:W[i]? = some w) (hk:w ∉ KW) (o:Bool) (ways:List Wy) (way:Wy):∃ r,Az (W,((i:Int),o)) ways way=some r/\EI W (CC W i ways way w) r:=by
 have h77:w≠[77]:=fun h=>hk (by rw[h]; decide)
 unfold Az Bq;simp only;rw[Ao,he,obs,show ([[77],[76],[108],[72],[86],[104],[118],[90]]:List Str)=KWi from rfl,Jr,obs,decide_eq_false hk,nF,cT,obs];unfold CC;rw[if_neg h77,if_neg hk];exact ⟨_,rfl,rfl,by omega⟩
theorem A7D {i:Nat} (he:W[i]? = some [77]) (ways:List Wy) {way:Wy} (hw:way.length<=1000) (hwl:ways.length<=1000):∃ r,Az (W,((i:Int),decide (way≠[]))) ways way=some r/\EI W (CC W i ways way [77]) r:=by
 have hlt:=Fc he;unfold Az Bq;simp only;rw[Ao,he,obs,show ([[77],[76],[108],[72],[86],[104],[118],[90]]:List Str)=KWi from rfl,Jr,obs,decide_eq_true (show ([77]:Str)∈KW by decide)];unfold CC;by_cases h0:way = []
 ·subst h0;by_cases h4:ways.length=4
  ·have h4':((ways.length:Int)==4)=true:=by simp[h4]
   rw[if_pos rfl,if_pos rfl,if_pos h4];simp only[R9,S4,M1,R1,M9,SH,N1,S6,nT,nF,cF,cT,obs,h4',show decide (([]:Wy)≠[])=false from rfl,show (true==false)=false from rfl,show ((5:Int) != 0)=true from rfl];exact ⟨_,rfl,rfl,by omega⟩
  ·have h4':((ways.length:Int)==4)=false:=by simp; omega
   rw[if_pos rfl,if_pos rfl,if_neg h4];simp only[R9,S4,M1,R1,M9,SH,N1,S6,nT,nF,cF,cT,obs,h4',show decide (([]:Wy)≠[])=false from rfl,show (true==false)=false from rfl,show ((0:Int) != 0)=false from rfl,AR (show i<4611686018427387904 by omega),N9,show Lib.contains [72,86,104,118] [77]=false from by decide,za8];refine AC3 hW hs (by omega) false ways (way:=[]) (by simp) [77] (f:=fun x y=>(x,y)) fun j x y=>?_
   unfold Bg;simp only[R9,S4,M1,R1,M9,SH,N1,S6,ze9,show decide (((0:Nat):Int)>0)=false from rfl,cF,obs,za8];rfl
 ·have hp:=zd0.2 h0;rw[if_pos rfl,if_neg h0];simp only[R9,S4,M1,R1,M9,SH,N1,S6,nT,nF,cF,cT,obs,show decide (way≠[])=true from decide_eq_true h0,show (true==true)=true from rfl,show ((4:Int) != 0)=true from rfl];exact ⟨_,rfl,rfl,by omega⟩
theorem A7X {i:Nat} (he:W[i]? = some [76]) (ways:List Wy) {way:Wy} (hw:way.length<=1000) (hwl:ways.length<=1000):∃ r,Az (W,((i:Int),decide (way≠[]))) ways way=some r/\EI W (CC W i ways way [76]) r:=by
 have hlt:=Fc he;unfold Az Bq;simp only;rw[Ao,he,obs,show ([[77],[76],[108],[72],[86],[104],[118],[90]]:List Str)=KWi from rfl,Jr,obs,decide_eq_true (show ([76]:Str)∈KW by decide)];unfold CC;rw[if_neg (by decide),if_pos (show ([76]:Str)∈KW by decide)];by_cases h0:way = []
 ·subst h0;rw[if_pos rfl];simp only[RL,Tf,N3,SA,NI,S5,NW,Se,nT,nF,cF,cT,obs,show decide (([]:Wy)≠[])=false from rfl,show (false==false)=true from rfl,show ((4:Int) != 0)=true from rfl];exact ⟨_,rfl,rfl,by omega⟩
 ·have hp:=zd0.2 h0;rw[if_neg h0];rw[if_neg (by decide)];by_cases h12:way.length=12
  ·rw[if_pos h12];simp only[RL,Tf,N3,SA,NI,S5,NW,Se,nT,nF,cF,cT,obs,show decide (way≠[])=true from decide_eq_true h0,show (false==true)=false from rfl,show ((way.length:Int)==12)=true by simp; omega,show ((5:Int) != 0)=true from rfl];exact ⟨_,rfl,rfl,by omega⟩
  ·rw[if_neg h12,if_pos rfl];simp only[RL,Tf,N3,SA,NI,S5,NW,Se,nT,nF,cF,cT,obs,show decide (way≠[])=true from decide_eq_true h0,show (false==true)=false from rfl,show ((way.length:Int)==12)=false by simp; omega,show ((0:Int) != 0)=false from rfl,AR (show i<4611686018427387904 by omega),N9,show Lib.contains [72,86,104,118] [76]=false from by decide,za8];refine AC3 hW hs (by omega) true ways hw [76] (f:=fun x y=>(x,y)) fun j x y=>?_
   unfold Bg;simp only[RL,Tf,N3,SA,NI,S5,NW,Se,decide_eq_true (show (way.length:Int)>0 by omega),cT,cF,D0 h0 hw,DZ h0,obs,za8];rfl
theorem A4Q {i:Nat} (he:W[i]? = some [108]) (ways:List Wy) {way:Wy} (hw:way.length<=1000) (hwl:ways.length<=1000):∃ r,Az (W,((i:Int),decide (way≠[]))) ways way=some r/\EI W (CC W i ways way [108]) r:=by
 have hlt:=Fc he;unfold Az Bq;simp only;rw[Ao,he,obs,show ([[77],[76],[108],[72],[86],[104],[118],[90]]:List Str)=KWi from rfl,Jr,obs,decide_eq_true (show ([108]:Str)∈KW by decide)];unfold CC;rw[if_neg (by decide),if_pos (show ([108]:Str)∈KW by decide)];by_cases h0:way = []
 ·subst h0;rw[if_pos rfl];simp only[Nt,MY,Kc,N8,K8,Nx,La,ND,nT,nF,cF,cT,obs,show decide (([]:Wy)≠[])=false from rfl,show (false==false)=true from rfl,show ((4:Int) != 0)=true from rfl];exact ⟨_,rfl,rfl,by omega⟩
 ·have hp:=zd0.2 h0;rw[if_neg h0];rw[if_neg (by decide)];by_cases h12:way.length=12
  ·rw[if_pos h12];simp only[Nt,MY,Kc,N8,K8,Nx,La,ND,nT,nF,cF,cT,obs,show decide (way≠[])=true from decide_eq_true h0,show (false==true)=false from rfl,show ((way.length:Int)==12)=true by simp; omega,show ((5:Int) != 0)=true from rfl];exact ⟨_,rfl,rfl,by omega⟩
  ·rw[if_neg h12,if_neg (by decide),if_pos rfl];simp only[Nt,MY,Kc,N8,K8,Nx,La,ND,nT,nF,cF,cT,obs,show decide (way≠[])=true from decide_eq_true h0,show (false==true)=false from rfl,show ((way.length:Int)==12)=false by simp; omega,show ((0:Int) != 0)=false from rfl,AR (show i<4611686018427387904 by omega),N9,show Lib.contains [72,86,104,118] [108]=false from by decide,za8];refine AC3 hW hs (by omega) true ways hw [108] (f:=fun x y=>(IntKind.wrap .i64 ((D5 way).1 + x),IntKind.wrap .i64 ((D5 way).2 + y))) fun j x y=>?_
   unfold Bg;simp only[Nt,MY,Kc,N8,K8,Nx,La,ND,decide_eq_true (show (way.length:Int)>0 by omega),cT,cF,D0 h0 hw,DZ h0,obs,za8];rfl
theorem A7G {i:Nat} (he:W[i]? = some [72]) (ways:List Wy) {way:Wy} (hw:way.length<=1000) (hwl:ways.length<=1000):∃ r,Az (W,((i:Int),decide (way≠[]))) ways way=some r/\EI W (CC W i ways way [72]) r:=by
 have hlt:=Fc he;unfold Az Bq;simp only;rw[Ao,he,obs,show ([[77],[76],[108],[72],[86],[104],[118],[90]]:List Str)=KWi from rfl,Jr,obs,decide_eq_true (show ([72]:Str)∈KW by decide)];unfold CC;rw[if_neg (by decide),if_pos (show ([72]:Str)∈KW by decide)];by_cases h0:way = []
 ·subst h0;rw[if_pos rfl];simp only[R3,SJ,NX,RZ,M2,Sr,Na,SM,nT,nF,cF,cT,obs,show decide (([]:Wy)≠[])=false from rfl,show (false==false)=true from rfl,show ((4:Int) != 0)=true from rfl];exact ⟨_,rfl,rfl,by omega⟩
 ·have hp:=zd0.2 h0;rw[if_neg h0];rw[if_neg (by decide)];by_cases h12:way.length=12
  ·rw[if_pos h12];simp only[R3,SJ,NX,RZ,M2,Sr,Na,SM,nT,nF,cF,cT,obs,show decide (way≠[])=true from decide_eq_true h0,show (false==true)=false from rfl,show ((way.length:Int)==12)=true by simp; omega,show ((5:Int) != 0)=true from rfl];exact ⟨_,rfl,rfl,by omega⟩
  ·rw[if_neg h12,if_neg (by decide),if_neg (by decide),if_pos rfl];simp only[R3,SJ,NX,RZ,M2,Sr,Na,SM,nT,nF,cF,cT,obs,show decide (way≠[])=true from decide_eq_true h0,show (false==true)=false from rfl,show ((way.length:Int)==12)=false by simp; omega,show ((0:Int) != 0)=false from rfl,AR (show i<4611686018427387904 by omega),N9,show Lib.contains [72,86,104,118] [72]=true from by decide,za8];refine YM hW hs (by omega) true ways hw [72] (f:=fun x=>(x,(D5 way).2)) fun j x=>?_
   unfold Bg;simp only[R3,SJ,NX,RZ,M2,Sr,Na,SM,decide_eq_true (show (way.length:Int)>0 by omega),cT,cF,D0 h0 hw,DZ h0,obs,za8];rfl
theorem A4q {i:Nat} (he:W[i]? = some [104]) (ways:List Wy) {way:Wy} (hw:way.length<=1000) (hwl:ways.length<=1000):∃ r,Az (W,((i:Int),decide (way≠[]))) ways way=some r/\EI W (CC W i ways way [104]) r:=by
 have hlt:=Fc he;unfold Az Bq;simp only;rw[Ao,he,obs,show ([[77],[76],[108],[72],[86],[104],[118],[90]]:List Str)=KWi from rfl,Jr,obs,decide_eq_true (show ([104]:Str)∈KW by decide)];unfold CC;rw[if_neg (by decide),if_pos (show ([104]:Str)∈KW by decide)];by_cases h0:way = []
 ·subst h0;rw[if_pos rfl];simp only[NF,N2,Kx,NL,J3,NE,J9,MS,nT,nF,cF,cT,obs,show decide (([]:Wy)≠[])=false from rfl,show (false==false)=true from rfl,show ((4:Int) != 0)=true from rfl];exact ⟨_,rfl,rfl,by omega⟩
 ·have hp:=zd0.2 h0;rw[if_neg h0];rw[if_neg (by decide)];by_cases h12:way.length=12
  ·rw[if_pos h12];simp only[NF,N2,Kx,NL,J3,NE,J9,MS,nT,nF,cF,cT,obs,show decide (way≠[])=true from decide_eq_true h0,show (false==true)=false from rfl,show ((way.length:Int)==12)=true by simp; omega,show ((5:Int) != 0)=true from rfl];exact ⟨_,rfl,rfl,by omega⟩
  ·rw[if_neg h12,if_neg (by decide),if_neg (by decide),if_neg (by decide),if_pos rfl];simp only[NF,N2,Kx,NL,J3,NE,J9,MS,nT,nF,cF,cT,obs,show decide (way≠[])=true from decide_eq_true h0,show (false==true)=false from rfl,show ((way.length:Int)==12)=false by simp; omega,show ((0:Int) != 0)=false from rfl,AR (show i<4611686018427387904 by omega),N9,show Lib.contains [72,86,104,118] [104]=true from by decide,za8];refine YM hW hs (by omega) true ways hw [104] (f:=fun x=>(IntKind.wrap .i64 ((D5 way).1 + x),(D5 way).2)) fun j x=>?_
   unfold Bg;simp only[NF,N2,Kx,NL,J3,NE,J9,MS,decide_eq_true (show (way.length:Int)>0 by omega),cT,cF,D0 h0 hw,DZ h0,obs,za8];rfl
theorem A75 {i:Nat} (he:W[i]? = some [86]) (ways:List Wy) {way:Wy} (hw:way.length<=1000) (hwl:ways.length<=1000):∃ r,Az (W,((i:Int),decide (way≠[]))) ways way=some r/\EI W (CC W i ways way [86]) r:=by
 have hlt:=Fc he;unfold Az Bq;simp only;rw[Ao,he,obs,show ([[77],[76],[108],[72],[86],[104],[118],[90]]:List Str)=KWi from rfl,Jr,obs,decide_eq_true (show ([86]:Str)∈KW by decide)];unfold CC;rw[if_neg (by decide),if_pos (show ([86]:Str)∈KW by decide)];by_cases h0:way = []
 ·subst h0;rw[if_pos rfl];simp only[SY,SR,M3,Si,Oc,SK,Nr,Tc,nT,nF,cF,cT,obs,show decide (([]:Wy)≠[])=false from rfl,show (false==false)=true from rfl,show ((4:Int) != 0)=true from rfl];exact ⟨_,rfl,rfl,by omega⟩
 ·have hp:=zd0.2 h0;rw[if_neg h0];rw[if_neg (by decide)];by_cases h12:way.length=12
  ·rw[if_pos h12];simp only[SY,SR,M3,Si,Oc,SK,Nr,Tc,nT,nF,cF,cT,obs,show decide (way≠[])=true from decide_eq_true h0,show (false==true)=false from rfl,show ((way.length:Int)==12)=true by simp; omega,show ((5:Int) != 0)=true from rfl];exact ⟨_,rfl,rfl,by omega⟩
  ·rw[if_neg h12,if_neg (by decide),if_neg (by decide),if_neg (by decide),if_neg (by decide),if_pos rfl];simp only[SY,SR,M3,Si,Oc,SK,Nr,Tc,nT,nF,cF,cT,obs,show decide (way≠[])=true from decide_eq_true h0,show (false==true)=false from rfl,show ((way.length:Int)==12)=false by simp; omega,show ((0:Int) != 0)=false from rfl,AR (show i<4611686018427387904 by omega),N9,show Lib.contains [72,86,104,118] [86]=true from by decide,za8];refine YM hW hs (by omega) true ways hw [86] (f:=fun x=>((D5 way).1,x)) fun j x=>?_
   unfold Bg;simp only[SY,SR,M3,Si,Oc,SK,Nr,Tc,decide_eq_true (show (way.length:Int)>0 by omega),cT,cF,D0 h0 hw,DZ h0,obs,za8];rfl
theorem A4K {i:Nat} (he:W[i]? = some [118]) (ways:List Wy) {way:Wy} (hw:way.length<=1000) (hwl:ways.length<=1000):∃ r,Az (W,((i:Int),decide (way≠[]))) ways way=some r/\EI W (CC W i ways way [118]) r:=by
 have hlt:=Fc he;unfold Az Bq;simp only;rw[Ao,he,obs,show ([[77],[76],[108],[72],[86],[104],[118],[90]]:List Str)=KWi from rfl,Jr,obs,decide_eq_true (show ([118]:Str)∈KW by decide)];unfold CC;rw[if_neg (by decide),if_pos (show ([118]:Str)∈KW by decide)];by_cases h0:way = []
 ·subst h0;rw[if_pos rfl];simp only[N0,Nk,KN,M7,K3,MT,K4,MR,nT,nF,cF,cT,obs,show decide (([]:Wy)≠[])=false from rfl,show (false==false)=true from rfl,show ((4:Int) != 0)=true from rfl];exact ⟨_,rfl,rfl,by omega⟩
 ·have hp:=zd0.2 h0;rw[if_neg h0];rw[if_neg (by decide)];by_cases h12:way.length=12
  ·rw[if_pos h12];simp only[N0,Nk,KN,M7,K3,MT,K4,MR,nT,nF,cF,cT,obs,show decide (way≠[])=true from decide_eq_true h0,show (false==true)=false from rfl,show ((way.length:Int)==12)=true by simp; omega,show ((5:Int) != 0)=true from rfl];exact ⟨_,rfl,rfl,by omega⟩
  ·rw[if_neg h12,if_neg (by decide),if_neg (by decide),if_neg (by decide),if_neg (by decide),if_neg (by decide)];simp only[N0,Nk,KN,M7,K3,MT,K4,MR,nT,nF,cF,cT,obs,show decide (way≠[])=true from decide_eq_true h0,show (false==true)=false from rfl,show ((way.length:Int)==12)=false by simp; omega,show ((0:Int) != 0)=false from rfl,AR (show i<4611686018427387904 by omega),N9,show Lib.contains [72,86,104,118] [118]=true from by decide,za8];refine YM hW hs (by omega) true ways hw [118] (f:=fun x=>((D5 way).1,IntKind.wrap .i64 ((D5 way).2 + x))) fun j x=>?_
   unfold Bg;simp only[N0,Nk,KN,M7,K3,MT,K4,MR,decide_eq_true (show (way.length:Int)>0 by omega),cT,cF,D0 h0 hw,DZ h0,obs,za8];rfl
theorem A63 {i:Nat} (he:W[i]? = some [90]) (ways:List Wy) {way:Wy} (hw:way.length<=1000) (hwl:ways.length<=1000):∃ r,Az (W,((i:Int),decide (way≠[]))) ways way=some r/\EI W (CC W i ways way [90]) r:=by
 have hlt:=Fc he;unfold Az Bq;simp only;rw[Ao,he,obs,show ([[77],[76],[108],[72],[86],[104],[118],[90]]:List Str)=KWi from rfl,Jr,obs,decide_eq_true (show ([90]:Str)∈KW by decide)];unfold CC;rw[if_neg (by decide),if_pos (show ([90]:Str)∈KW by decide)];by_cases h0:way = []
 ·subst h0;rw[if_pos rfl];simp only[VA,V1,QT,Wg,Qz,Vs,QR,Vy,nT,nF,cF,cT,obs,show decide (([]:Wy)≠[])=false from rfl,show (false==false)=true from rfl,show ((4:Int) != 0)=true from rfl];exact ⟨_,rfl,rfl,by omega⟩
 ·have hp:=zd0.2 h0;rw[if_neg h0];rw[if_pos rfl];by_cases h3:way.length<3
  ·rw[if_pos h3];simp only[VA,V1,QT,Wg,Qz,Vs,QR,Vy,nT,nF,cF,cT,obs,show decide (way≠[])=true from decide_eq_true h0,show (false==true)=false from rfl,decide_eq_true (show (way.length:Int)<3 by omega),show ((5:Int) != 0)=true from rfl];exact ⟨_,rfl,rfl,by omega⟩
  ·rw[if_neg h3];simp only[VA,V1,QT,Wg,Qz,Vs,QR,Vy,nT,nF,cF,cT,obs,show decide (way≠[])=true from decide_eq_true h0,show (false==true)=false from rfl,decide_eq_false (show ¬(way.length:Int)<3 by omega),show ((0:Int) != 0)=false from rfl,AR (show i<4611686018427387904 by omega)];rw[F9 (by simp[Ag]; omega) (by simp[Ag]; omega),obs];exact ⟨_,rfl,rfl⟩
theorem A4w {i:Nat} {w:Str} (he:W[i]? = some w) (ways:List Wy) {way:Wy} (hw:way.length<=1000) (hwl:ways.length<=1000):∃ r,Az (W,((i:Int),decide (way≠[]))) ways way=some r/\EI W (CC W i ways way w) r:=by
 by_cases hk:w∈KW
 ·have hk':w = [77]\/w = [76]\/w = [108]\/w = [72]\/w = [104]\/w = [86]\/w = [118]\/w = [90]:=by simpa[KW] using hk
  rcases hk' with rfl | rfl | rfl | rfl | rfl | rfl | rfl | rfl
  ·exact A7D hW hs he ways hw hwl
  ·exact A7X hW hs he ways hw hwl
  ·exact A4Q hW hs he ways hw hwl
  ·exact A7G hW hs he ways hw hwl
  ·exact A4q hW hs he ways hw hwl
  ·exact A75 hW hs he ways hw hwl
  ·exact A4K hW hs he ways hw hwl
  ·exact A63 hW hs he ways hw hwl
 ·exact A6p hW hs he hk _ ways way
end
end
section
open Go
def CF (W:List Str) (i:Nat) (ways:List Wy) (way:Wy):CV->Prop
 | .inl (c,_)=>c≠0
 | .inr (j,ways',way')=>i<j/\j<=W.length/\ways'.length<=ways.length + 1/\way'.length<=way.length + 1
section
variable {W:List Str} (hW:W.length<=1000) (hs:∀ w∈W,w.length<=1000)
include hW hs
theorem Bk3 {i j:Nat} (hi:i<j) (hj:j<=W.length) (ways:List Wy) (way:Wy) (p:Pn):CF W i ways way (ptV Hc j ways way p):=by
 unfold ptV
 split
 ·exact ⟨hi,hj,by omega,by simp⟩
 ·show (6:Int)≠0; omega
theorem A7C {i j:Nat} (hi:i<j) (ways:List Wy) (way:Wy) (f:Int->Pn):CF W i ways way (one W j ways way f):=by
 unfold one;cases hz:E9 W j with
 | none=>show (3:Int)≠0; omega
 | some x=>exact Bk3 hW hs (by omega) (KF hW hs hz) ways way _
theorem Be9 {i j:Nat} (hi:i<j) (ways:List Wy) (way:Wy) (f:Int->Int->Pn):CF W i ways way (two W j ways way f):=by
 unfold two;cases hz:E9 W j with
 | none=>show (3:Int)≠0; omega
 | some x=>exact A7C hW hs (by omega) ways way _
theorem A6w {i:Nat} {w:Str} (he:W[i]? = some w) (ways:List Wy) (way:Wy):CF W i ways way (CC W i ways way w):=by
 have hlt:=Fc he;unfold CC
 repeat' split
 all_goals first
  | exact Be9 hW hs (by omega) ways way _
  | exact A7C hW hs (by omega) ways way _
  | (show (5:Int)≠0; omega)
  | (show (4:Int)≠0; omega)
  | (show (2:Int)≠0; omega)
  | exact ⟨by omega,by omega,by simp,by simp⟩
def HP (W:List Str):Nat->Nat->List Wy->Wy->(Int×Nat) ⊕ (List Wy×Wy)
 | 0,_,ways,way=>.inr (ways,way)
 | n + 1,i,ways,way=>match W[i]? with | none=>.inr (ways,way) | some w=>(match CC W i ways way w with | .inl e=>.inl e | .inr (j,ways',way')=>HP W n j ways' way')
abbrev SP:=(List Str×Int×Int)×List Wy×Wy
noncomputable def spB:SP->Option (SP ⊕ SP):=fun s=>Di s.1 s.2.1 s.2.2
def Bl4 (W:List Str):((Int×Nat) ⊕ (List Wy×Wy))->SP->Prop
 | .inl (c,i),r=>r.1.2=((i:Int),c)/\c≠0
 | .inr (ways,way),r=>r=((W,((W.length:Int),0)),(ways,way))
omit hW hs in
theorem Be3 (W:List Str) (i c:Int) (hc:c≠0) (ways:List Wy) (way:Wy):Ah spB ((W,(i,c)),(ways,way))=some ((W,(i,c)),(ways,way)):=by
 refine Aq ?_
 unfold spB Di;simp only;by_cases h:i<(W.length:Int)
 ·rw[decide_eq_true h,cT,show (c==0)=false by simpa using hc,cF]
 ·rw[decide_eq_false h,cF]
theorem A8A:∀ (n i:Nat) (ways:List Wy) (way:Wy),W.length<n + i->i<=W.length->ways.length<=i->way.length<=i->∃ r,Ah spB ((W,((i:Int),0)),(ways,way))=some r/\Bl4 W (HP W n i ways way) r:=by
 intro n
 induction n with
 | zero=>intro i ways way h1 h2; omega
 | succ n ih =>
  intro i ways way h1 h2 h3 h4;unfold HP;by_cases hi:i=W.length
  ·subst hi;rw[ze1 (za7 _)];refine ⟨_,Aq (r:=((W,((W.length:Int),0)),(ways,way))) ?_,rfl⟩
   unfold spB Di;simp only;rw[decide_eq_false (by omega),cF]
  ·have he:W[i]? = some (W[i]'(by omega)):=za1 (by omega);generalize (W[i]'(by omega))=w at he;have hc:=A5U hW hs he ways (way:=way) (by omega) (by omega);have hf:=A6w hW hs he ways way;rw[he];simp only;have hgo:spB ((W,((i:Int),0)),(ways,way))=some (.inl (Wl W ways way (CC W i ways way w))):=by
    unfold spB Di;simp only;rw[decide_eq_true (by omega),cT,show ((0:Int)==0)=true from rfl,cT,hc,obs]
   rw[AY hgo];cases hz:CC W i ways way w with
   | inl e =>
    obtain ⟨c,j⟩:=e;rw[hz] at hf;exact ⟨_,Be3 W _ c hf ways way,rfl,hf⟩
   | inr v =>
    obtain ⟨j,ways',way'⟩:=v;rw[hz] at hf;obtain ⟨f1,f2,f3,f4⟩:=hf;exact ih j ways' way' (by omega) f2 (by omega) (by omega)
abbrev IP:=(List Str×Int×Bool)×List Wy×Wy
noncomputable def ipB:IP->Option (IP ⊕ (IP ⊕ (List Wy×Int×Int×Bool))):=fun s=>Ew s.1 s.2.1 s.2.2
def Bl7 (W:List Str):((Int×Nat) ⊕ (List Wy×Wy))->(IP ⊕ (List Wy×Int×Int×Bool))->Prop
 | .inl (c,i),r=>r = .inr ([],c,(i:Int),false)
 | .inr (ways,way),r=>r = .inl ((W,((W.length:Int),decide (way≠[]))),(ways,way))
theorem A9u:∀ (n i:Nat) (ways:List Wy) (way:Wy),W.length<n + i->i<=W.length->ways.length<=i->way.length<=i->∃ r,Ah ipB ((W,((i:Int),decide (way≠[]))),(ways,way))=some r/\Bl7 W (HP W n i ways way) r:=by
 intro n
 induction n with
 | zero=>intro i ways way h1 h2; omega
 | succ n ih =>
  intro i ways way h1 h2 h3 h4;unfold HP;by_cases hi:i=W.length
  ·subst hi;rw[ze1 (za7 _)];refine ⟨.inl ((W,((W.length:Int),decide (way≠[]))),(ways,way)),Aq ?_,rfl⟩
   unfold ipB Ew;simp only;rw[decide_eq_false (show ¬(W.length:Int)<(W.length:Int) by omega),cF]
  ·have he:W[i]? = some (W[i]'(by omega)):=za1 (by omega);generalize (W[i]'(by omega))=w at he;obtain ⟨r,hc,hE⟩:=A4w hW hs he ways (way:=way) (by omega) (by omega);have hf:=A6w hW hs he ways way;rw[he];simp only;have hgo:ipB ((W,((i:Int),decide (way≠[]))),(ways,way))=bif (r.2.2.2.1 != 0) then some (.inr (.inr ([],(r.2.2.2.1,(r.2.2.2.2,false))))) else some (.inl ((r.1.1,(r.1.2.1,r.1.2.2)),(r.2.1,r.2.2.1))):=by
    unfold ipB Ew;simp only;rw[decide_eq_true (show (i:Int)<(W.length:Int) by omega),cT,hc,obs]
   cases hz:CC W i ways way w with
   | inl e =>
    obtain ⟨c,j⟩:=e;rw[hz] at hf hE;have hE:r.2.2.2=(c,(j:Int))/\c≠0:=hE;rw[hE.1,show (c != 0)=true by simpa[bne] using hE.2,cT] at hgo;exact ⟨_,Aq hgo,rfl⟩
   | inr v =>
    obtain ⟨j,ways',way'⟩:=v;rw[hz] at hf hE;obtain ⟨f1,f2,f3,f4⟩:=hf;have hE:r=((W,((j:Int),decide (way'≠[]))),(ways',(way',(0,0)))):=hE;subst hE;simp only at hgo;rw[show ((0:Int) != 0)=false from rfl,cF] at hgo;rw[AY hgo];exact ih j ways' way' (by omega) f2 (by omega) (by omega)
end
def Mc (s:Str):List Wy×Int×Int×Bool :=
 if 1<=s.length/\s.length<=400 then (match HP (Ap 32 s) ((Ap 32 s).length + 1) 0 [] [] with
  | .inl (c,i)=>([],c,(i:Int),false)
  | .inr (ways,way)=>if way≠[] then ([],7,((Ap 32 s).length:Int),false) else (ways,0,0,true)) else ([],1,0,false)
theorem XE {c:UInt8}:∀ (n:Nat) (s:Str),s.length<=n->(Ap c s).length<=s.length + 1:=by
 intro n
 induction n with
 | zero =>
  intro s hs;have:s = []:=zb7 (by omega);subst this;rw[Ig (by simp)];simp
 | succ n ih =>
  intro s hs;rcases A1W c s with h | ⟨x,r,rfl,h⟩
  ·rw[Ig h]; simp
  ·rw[NA h];rw[zd3,zc0] at hs ⊢
   have:=ih r (by omega);rw[zc0];omega
theorem AY4 {s:Str} (hs:s.length<4611686018427387904):FX s=some (Mc s):=by
 unfold FX Mc;by_cases h0:s.length=0
 ·rw[show ((s.length:Int)==0)=true by simp[h0],cT,if_neg (by omega)]
 rw[show ((s.length:Int)==0)=false from beq_eq_false_iff_ne.2 (by omega),cF];by_cases h1 : 400<s.length
 ·rw[decide_eq_true (by omega),cT,if_neg (by omega)]
 rw[decide_eq_false (by omega),cF,A1H (by omega),obs,if_pos (by omega)];have hc:=XE (c:=32) s.length s (za7 _);have hl:∀ w∈Ap 32 s,w.length<=1000:=fun w hw=>by have:=Au6 s.length s (za7 _) w hw; omega
 obtain ⟨r,h2,h3⟩:=A8A (W:=Ap 32 s) (by omega) hl ((Ap 32 s).length + 1) 0 [] [] (by omega) (by omega) (by simp) (by simp);have h2':Ah (fun (s:(((List Str)×(Int×Int))×((List Wy)×Wy)))=>Di s.1 s.2.1 s.2.2) ((Ap 32 s,((0:Int),(0:Int))),(([]:List Wy),([]:Wy)))=some r:=h2;rw[h2',obs];cases hz:HP (Ap 32 s) ((Ap 32 s).length + 1) 0 [] [] with
 | inl e =>
  obtain ⟨c,i⟩:=e;rw[hz] at h3;have h3:r.1.2=((i:Int),c)/\c≠0:=h3;simp only[h3.1];rw[show (c==0)=false by simpa using h3.2,cF,obs];simp only[za8];rw[show (c != 0)=true by simpa[bne] using h3.2,cT]
 | inr v =>
  obtain ⟨ways,way⟩:=v;rw[hz] at h3;have h3:r=((Ap 32 s,(((Ap 32 s).length:Int),0)),(ways,way)):=h3;subst h3;simp only;rw[show ((0:Int)==0)=true from rfl,cT];by_cases hw:way = []
  ·subst hw;rw[show decide (((([]:Wy).length:Nat):Int)>0)=false from rfl,cF,obs,if_neg (by simp)];rfl
  ·have hp:=zd0.2 hw;rw[decide_eq_true (by omega),cT,obs,if_pos hw];rfl
theorem AS1 {s:Str} (hs:s.length<4294967281):FV s=some (Mc s):=by
 unfold FV Mc;have hin:Bk (s.length:Int) 1 400=some (decide (1<=s.length/\s.length<=400)):=by
  unfold Bk;by_cases h:(s.length:Int)>=1
  ·rw[decide_eq_true h,cT]; congr 1; rw[decide_eq_decide]; omega
  ·rw[decide_eq_false h,cF]; congr 1; symm; rw[decide_eq_false]; omega
 rw[hin,obs];by_cases h : 1<=s.length/\s.length<=400
 ·rw[decide_eq_true h,nT,cF,if_pos h];unfold Ja;rw[A7h hs,obs];have hc:=XE (c:=32) s.length s (za7 _);have hl:∀ w∈Ap 32 s,w.length<=1000:=fun w hw=>by have:=Au6 s.length s (za7 _) w hw; omega
  obtain ⟨r,h2,h3⟩:=A9u (W:=Ap 32 s) (by omega) hl ((Ap 32 s).length + 1) 0 [] [] (by omega) (by omega) (by simp) (by simp);have h2':Ah (fun (s:(((List Str)×(Int×Bool))×((List Wy)×Wy)))=>Ew s.1 s.2.1 s.2.2) ((Ap 32 s,((0:Int),false)),(([]:List Wy),([]:Wy)))=some r:=h2;rw[h2',obs];cases hz:HP (Ap 32 s) ((Ap 32 s).length + 1) 0 [] [] with
  | inl e =>
   obtain ⟨c,i⟩:=e;rw[hz] at h3;have h3:r = .inr ([],c,(i:Int),false):=h3;subst h3;rfl
  | inr v =>
   obtain ⟨ways,way⟩:=v;rw[hz] at h3;have h3:r = .inl ((Ap 32 s,(((Ap 32 s).length:Int),decide (way≠[]))),(ways,way)):=h3;subst h3;simp only[Sum.elim_inl];by_cases hw:way = []
   ·subst hw; rw[show decide (([]:Wy)≠[])=false from rfl,cF,if_neg (by simp)]
   ·rw[decide_eq_true hw,cT,if_pos hw]
 ·rw[decide_eq_false h,nF,cT,if_neg h]
end
section
open Go
end
section
open Go
end
section
open Go
end
section
open Go
abbrev FJ:=List (List (Int×Int))
def KJ (l:FJ):Bool:=l.all Lo&&(decide (1<=l.length)&&decide (l.length<=4))
end
section
open Go
def sp (ws:List Str):Str:=(ws.map (· ++ [32])).flatten
def SW (ws:List Str):Prop:=∀ x∈ws,x.length<=21
theorem SW.append {a b:List Str} (ha:SW a) (hb:SW b):SW (a++b):=fun x hx=>(zb4.1 hx).elim (ha x) (hb x)
section
variable {l:FJ} (hl:l.length<=4) (hw:∀ w∈l,w.length<=12/\3<=w.length/\∀ p∈w,-1000<=p.1/\p.1<=1000/\-1000<=p.2/\p.2<=1000)
include hl hw
end
end
section
open Go
theorem A7b {i:Nat} {ways:List Wy} {way:Wy} {p:Pn} {j:Nat} {ways':List Wy} {way':Wy} (h:ptV Hc i ways way p = .inr (j,ways',way')):ways'=ways/\way'=way ++ [p]/\Hc p=true:=by
 unfold ptV at h
 split at h
 ·rename_i hg;cases h
  exact ⟨rfl,rfl,hg⟩
 ·cases h
theorem MC {W:List Str} {i:Nat} {ways:List Wy} {way:Wy} {f:Int->Pn} {j:Nat} {ways':List Wy} {way':Wy} (h:one W i ways way f = .inr (j,ways',way')):ways'=ways/\∃ p,way'=way ++ [p]/\Hc p=true:=by
 unfold one at h
 split at h
 ·cases h
 ·obtain ⟨a,b,c⟩:=A7b h;exact ⟨a,_,b,c⟩
theorem U3 {W:List Str} {i:Nat} {ways:List Wy} {way:Wy} {f:Int->Int->Pn} {j:Nat} {ways':List Wy} {way':Wy} (h:two W i ways way f = .inr (j,ways',way')):ways'=ways/\∃ p,way'=way ++ [p]/\Hc p=true:=by
 unfold two at h
 split at h
 ·cases h
 ·exact MC h
structure PInv (ways:List Wy) (way:Wy):Prop where
 len:ways.length<=4
 ok:∀ w∈ways,Lo w=true
 pts:∀ p∈way,Eg p=true
 short:way.length<=12
 four:way≠[]->ways.length<4
theorem A6O (p:Pn):Hc p=Eg p:=by
 unfold Hc Eg Dh;rw[Bool.eq_iff_iff];simp
theorem A4d {ways:List Wy} {way:Wy} {p:Pn} (h:PInv ways way) (h4:ways.length<4) (h12:way.length<12) (hp:Hc p=true):PInv ways (way ++ [p]):=by
 refine ⟨h.len,h.ok,fun q hq=>?_,by rw[zd3,List.length_singleton]; omega,fun _=>h4⟩
 rcases zb4.1 hq with hq | hq
 ·exact h.pts q hq
 ·rw[List.mem_singleton.1 hq,<-A6O]; exact hp
theorem A9x {W:List Str} {i:Nat} {w:Str} {ways:List Wy} {way:Wy} {j:Nat} {ways':List Wy} {way':Wy} (h:PInv ways way) (hc:CC W i ways way w = .inr (j,ways',way')):PInv ways' way':=by
 have key:∀ (x:CV),(∀ j ways' way',x = .inr (j,ways',way')->ways'=ways/\∃ p,way'=way ++ [p]/\Hc p=true)->ways.length<4->way.length<12->x = .inr (j,ways',way')->PInv ways' way':=by
  intro x hx h4 h12 he;obtain ⟨a,p,b,c⟩:=hx _ _ _ he;rw[a,b];exact A4d h h4 h12 c
 have hlen:=h.short;unfold CC at hc
 split at hc
 ·split at hc
  ·rename_i hway
   split at hc
   ·cases hc
   ·rename_i h4;have:=h.len;exact key _ (fun _ _ _=>U3) (by omega) (by rw[hway]; simp) hc
  ·cases hc
 ·split at hc
  ·split at hc
   ·cases hc
   ·rename_i hne;have h4:=h.four hne
    split at hc
    ·split at hc
     ·cases hc
     ·rename_i h3;cases hc
      refine ⟨by rw[zd3,List.length_singleton]; omega,fun v hv=>?_,fun p hp=>(by cases hp),by decide,fun h=>absurd rfl h⟩
      rcases zb4.1 hv with hv | hv
      ·exact h.ok v hv
      ·rw[List.mem_singleton.1 hv];exact JJ.2 ⟨⟨by omega,h.short⟩,h.pts⟩
    ·split at hc
     ·cases hc
     ·rename_i h12;have h12:way.length<12:=by omega
      split at hc
      ·exact key _ (fun _ _ _=>U3) h4 h12 hc
      ·split at hc
       ·exact key _ (fun _ _ _=>U3) h4 h12 hc
       ·split at hc
        ·exact key _ (fun _ _ _=>MC) h4 h12 hc
        ·split at hc
         ·exact key _ (fun _ _ _=>MC) h4 h12 hc
         ·split at hc
          ·exact key _ (fun _ _ _=>MC) h4 h12 hc
          ·exact key _ (fun _ _ _=>MC) h4 h12 hc
  ·cases hc
theorem Ay1 {W:List Str}:∀ (n i:Nat) (ways:List Wy) (way:Wy),PInv ways way->∀ ways' way',HP W n i ways way = .inr (ways',way')->PInv ways' way'
 | 0,i,ways,way,h,ways',way',he=>by
  rw[HP] at he;cases he
  exact h
 | n + 1,i,ways,way,h,ways',way',he=>by
  rw[HP] at he
  split at he
  ·cases he; exact h
  ·rename_i w hw;cases hc:CC W i ways way w with
   | inl e=>rw[hc] at he; cases he
   | inr v =>
    obtain ⟨j,a,b⟩:=v;rw[hc] at he;exact Ay1 n j a b (A9x h hc) _ _ he
theorem AN5 {W:List Str} {i:Nat} {w:Str} {ways:List Wy} {way:Wy} {j:Nat} {ways':List Wy} {way':Wy} (hc:CC W i ways way w = .inr (j,ways',way')):way'≠[]\/1<=ways'.length:=by
 have k2:∀ f:Int->Int->Pn,two W (i + 1) ways way f = .inr (j,ways',way')->way'≠[]\/1<=ways'.length:=fun f h=>by
  obtain ⟨_,p,b,_⟩:=U3 h
  left; rw[b]; simp
 have k1:∀ f:Int->Pn,one W (i + 1) ways way f = .inr (j,ways',way')->way'≠[]\/1<=ways'.length:=fun f h=>by
  obtain ⟨_,p,b,_⟩:=MC h
  left; rw[b]; simp
 unfold CC at hc
 repeat' split at hc
 all_goals first
  | exact k2 _ hc
  | exact k1 _ hc
  | (cases hc; right; simp)
  | cases hc
theorem Af1 {W:List Str}:∀ (n i:Nat) (ways:List Wy) (way:Wy),(way≠[]\/1<=ways.length)->∀ ways' way',HP W n i ways way = .inr (ways',way')->way'≠[]\/1<=ways'.length
 | 0,i,ways,way,h,ways',way',he=>by
  rw[HP] at he;cases he
  exact h
 | n + 1,i,ways,way,h,ways',way',he=>by
  rw[HP] at he
  split at he
  ·cases he; exact h
  ·rename_i w hw;cases hc:CC W i ways way w with
   | inl e=>rw[hc] at he; cases he
   | inr v =>
    obtain ⟨j,a,b⟩:=v;rw[hc] at he;exact Af1 n j a b (AN5 hc) _ _ he
theorem A42 {s:Str} {l:List Wy} {c at_:Int} (h:Mc s=(l,c,at_,true)):KJ l=true/\c=0/\at_=0:=by
 unfold Mc at h
 split at h
 ·split at h
  ·cases h
  ·rename_i ways way hp
   split at h
   ·cases h
   ·rename_i hw;have hw:way = []:=Classical.byContradiction fun h=>hw h
    have inv:=Ay1 _ _ _ _ (⟨by simp,by simp,by simp,by simp,fun h=>absurd rfl h⟩:PInv [] []) _ _ hp;have h1 : 1<=ways.length:=by
     have hne:=A7u 32 s;obtain ⟨x,r,hx⟩:∃ x r,Ap 32 s=x::r:=List.exists_cons_of_ne_nil hne;rw[HP,hx] at hp;simp only[List.getElem?_cons_zero] at hp;cases hc:CC (x::r) 0 [] [] x with
     | inl e=>rw[hc] at hp; cases hp
     | inr v =>
      obtain ⟨j,a,b⟩:=v;rw[hc] at hp;rcases Af1 _ _ _ _ (AN5 hc) _ _ hp with h | h
      ·exact absurd hw h
      ·exact h
    cases h
    refine ⟨?_,rfl,rfl⟩
    unfold KJ;rw[za2,za2,decide_eq_true_eq,decide_eq_true_eq];exact ⟨za5.2 inv.ok,h1,inv.len⟩
 ·cases h
theorem A6D {W:List Str} {i:Nat} {w:Str} {ways:List Wy} {way:Wy} {c:Int} {j:Nat} (hc:CC W i ways way w = .inl (c,j)):c≠0:=by
 have kp:∀ (a:Nat) (p:Pn),ptV Hc a ways way p = .inl (c,j)->c≠0:=fun a p h=>by
  unfold ptV at h
  split at h <;> cases h
  omega
 have k1:∀ (a:Nat) (f:Int->Pn),one W a ways way f = .inl (c,j)->c≠0:=fun a f h=>by
  unfold one at h
  split at h
  ·cases h; omega
  ·exact kp _ _ h
 have k2:∀ (a:Nat) (f:Int->Int->Pn),two W a ways way f = .inl (c,j)->c≠0:=fun a f h=>by
  unfold two at h
  split at h
  ·cases h; omega
  ·exact k1 _ _ h
 unfold CC at hc
 repeat' split at hc
 all_goals first
  | exact k2 _ _ hc
  | exact k1 _ _ hc
  | (cases hc; omega)
  | cases hc
theorem Z8 {W:List Str}:∀ (n i:Nat) (ways:List Wy) (way:Wy) (c:Int) (j:Nat),HP W n i ways way = .inl (c,j)->c≠0
 | 0,i,ways,way,c,j,he=>by rw[HP] at he; cases he
 | n + 1,i,ways,way,c,j,he=>by
  rw[HP] at he
  split at he
  ·cases he
  ·rename_i w hw;cases hc:CC W i ways way w with
   | inl e=>rw[hc] at he; cases he; exact A6D hc
   | inr v =>
    obtain ⟨j',a,b⟩:=v;rw[hc] at he;exact Z8 n j' a b c j he
theorem A8q {s:Str} {l:List Wy} {c at_:Int} (h:Mc s=(l,c,at_,false)):c≠0/\l = []:=by
 unfold Mc at h
 split at h
 ·split at h
  ·rename_i c' i hp;cases h
   exact ⟨Z8 _ _ _ _ _ _ hp,rfl⟩
  ·split at h <;> cases h
   exact ⟨by omega,rfl⟩
 ·cases h; exact ⟨by omega,rfl⟩
end
section
open Go
end
section
open Go
def mvW (d:P2) (w:List P2):List P2:=w.map fun p=>(p.1 + d.1,p.2 + d.2)
def Ba2 (d:P2) (w:List P2):Prop:=Lo w=true/\Eg d=true/\(mvW d w).all Eg=true
instance (d:P2) (w:List P2):Decidable (Ba2 d w):=by unfold Ba2; infer_instance
section
variable {l:FJ} {d:P2} (hl:l.length<=1000) (hs:∀ w∈l,AZ6 w)
include hl hs
end
theorem RU (s:Str):(∃ l,Mc s=(l,0,0,true)/\KJ l=true)\/∃ c a,Mc s=([],c,a,false)/\c≠0:=by
 have hv:∃ w c a ok,Mc s=(w,c,a,ok):=⟨_,_,_,_,rfl⟩;obtain ⟨w,c,a,ok,e⟩:=hv;cases ok with
 | true =>
  obtain ⟨h1,h2,h3⟩:=A42 e;exact .inl ⟨w,by rw[e,h2,h3],h1⟩
 | false =>
  obtain ⟨h1,h2⟩:=A8q e;exact .inr ⟨c,a,by rw[e,h2],h1⟩
theorem A3k {l:FJ} (h:KJ l=true) : 1<=l.length/\l.length<=4:=by
 unfold KJ at h;simp only[za2,decide_eq_true_eq] at h;exact h.2
end
section
open Go
def B:Nat->Int
 | 0=>1
 | n + 1=>65536*B n
theorem GM:∀ n,0<B n
 | 0=>by decide
 | n + 1=>by have:=GM n; simp only[B]; omega
theorem Tr:∀ m n,B (m + n)=B m*B n
 | 0,n=>by simp[B]
 | m + 1,n=>by rw[show m + 1 + n=(m + n) + 1 by omega]; simp only[B]; rw[Tr m n,Int.mul_assoc]
theorem Kf {m n:Nat} (h:m<=n):B m<=B n:=by
 induction h with
 | refl=>exact Int.le_refl _
 | @step n h ih=>have:=GM n; simp only[B]; omega
def val:List Int->Int
 | []=>0
 | x::l=>x + 65536*val l
def LB (l:List Int):Prop:=∀ x∈l,0<=x/\x<65536
theorem LB.nil:LB []:=fun _ h=>absurd h (List.not_mem_nil)
theorem LB.head {x:Int} {l:List Int} (h:LB (x::l)) : 0<=x/\x<65536:=h x (List.mem_cons_self ..)
theorem LB.tail {x:Int} {l:List Int} (h:LB (x::l)):LB l:=fun y hy=>h y (List.mem_cons_of_mem _ hy)
theorem LB.cons {x:Int} {l:List Int} (hx : 0<=x/\x<65536) (h:LB l):LB (x::l):=fun y hy=>by
 rcases zc5.1 hy with rfl | hy
 ·exact hx
 ·exact h y hy
theorem LB.append {l m:List Int} (h:LB l) (h':LB m):LB (l++m):=fun y hy=>(zb4.1 hy).elim (h y) (h' y)
theorem LB.take {l:List Int} (h:LB l) (n:Nat):LB (l.take n):=fun y hy=>h y (List.mem_of_mem_take hy)
theorem LB.drop {l:List Int} (h:LB l) (n:Nat):LB (l.drop n):=fun y hy=>h y (List.mem_of_mem_drop hy)
theorem LB.get {l:List Int} (h:LB l) {k:Nat} {x:Int} (hk:l[k]? = some x) : 0<=x/\x<65536:=h x (za4 hk)
theorem LB.set {l:List Int} (h:LB l) {k:Nat} {x:Int} (hx : 0<=x/\x<65536):LB (l.set k x):=fun y hy=>by
 rcases List.mem_or_eq_of_mem_set hy with hy | rfl
 ·exact h y hy
 ·exact hx
theorem LB.zeros (n:Nat):LB (List.replicate n 0):=fun y hy=>by have:=List.eq_of_mem_replicate hy; omega
theorem AX:∀ {l:List Int},LB l->0<=val l
 | [],_=>Int.le_refl _
 | x::l,h=>by have:=h.head; have:=AX h.tail; simp only[val]; omega
theorem Py:∀ {l:List Int},LB l->val l<B l.length
 | [],_=>by decide
 | x::l,h=>by have:=h.head; have:=Py h.tail; simp only[val,zc0,B]; omega
theorem SN:∀ (l m:List Int),val (l++m)=val l + B l.length*val m
 | [],m=>by simp[val,B]
 | x::l,m=>by
  simp only[List.cons_append,val,zc0,B,SN l m];rw[ze0,Int.mul_assoc];omega
theorem FG:∀ n,val (List.replicate n 0)=0
 | 0=>rfl
 | n + 1=>by simp only[List.replicate_succ,val,FG n]; omega
theorem MH (l:List Int) (x:Int):val (l ++ [x])=val l + B l.length*x:=by rw[SN]; simp[val]
theorem Vf (l:List Int) (n:Nat) (h:n<=l.length):val l=val (l.take n) + B n*val (l.drop n):=by
 have:=SN (l.take n) (l.drop n);rw[List.take_append_drop,List.length_take,Nat.min_eq_left h] at this;exact this
theorem Ga:∀ {l:List Int} {k:Nat} {x y:Int},l[k]? = some x->val (l.set k y)=val l + B k*(y-x)
 | [],k,x,y,h=>by simp at h
 | a::l,0,x,y,h=>by
  simp at h;subst h;simp only[List.set_cons_zero,val,B];omega
 | a::l,k + 1,x,y,h=>by
  simp only[List.getElem?_cons_succ] at h;simp only[List.set_cons_succ,val,B,Ga (y:=y) h];rw[ze0,Int.mul_assoc];omega
def NB (l:List Int):Prop:=∀ x,l.getLast? = some x->x≠0
theorem NB.nil:NB []:=fun x h=>by simp at h
theorem NB.tail {x:Int} {l:List Int} (h:NB (x::l)):NB l:=fun y hy=>by
 cases l with
 | nil=>simp at hy
 | cons a t=>exact h y (by rw[List.getLast?_cons_cons]; exact hy)
theorem AJ7:∀ {l:List Int},LB l->NB l->l≠[]->B (l.length-1)<=val l
 | [],_,_,h=>absurd rfl h
 | [x],h,hn,_=>by
  have h1:=h.head;have h2:=hn x rfl;simp only[val,zc0,ze9,B];simp[B];omega
 | x::y::l,h,hn,_=>by
  have h1:=h.head;have h2:=AJ7 h.tail hn.tail (by simp);simp only[zc0,Nat.add_sub_cancel] at h2 ⊢
  rw[val];simp only[B];omega
theorem AS4 {l:List Int} (h:LB l) (hn:NB l) (h0:val l=0):l = []:=by
 cases l with
 | nil=>rfl
 | cons x l =>
  have h1:=AJ7 h hn (by simp);have h2:=GM ((x::l).length-1);omega
theorem A3P:∀ {l m:List Int},LB l->NB l->LB m->NB m->val l=val m->l=m
 | [],m,_,_,hm,nm,h=>by
  have:val m=0:=by rw[<-h]; rfl
  exact (AS4 hm nm this).symm
 | x::l,[],hl,nl,_,_,h=>AS4 hl nl (by rw[h]; rfl)
 | x::l,y::m,hl,nl,hm,nm,h=>by
  have h1:=hl.head;have h2:=hm.head;simp only[val] at h;have hx:x=y:=by omega
  have hv:val l=val m:=by omega
  rw[hx,A3P hl.tail nl.tail hm.tail nm.tail hv]
def lim (n:Nat):List Int:=if h:n=0 then [] else ((n%65536:Nat):Int)::lim (n/65536)
termination_by n
decreasing_by omega
theorem Cr:lim 0 = []:=by unfold lim; simp
theorem AN (n:Nat):LB (lim n):=by
 induction n using Nat.strongRecOn with
 | _ n ih =>
  unfold lim
  split
  ·exact LB.nil
  ·exact LB.cons (by omega) (ih (n/65536) (by omega))
theorem AE (n:Nat):val (lim n)=n:=by
 induction n using Nat.strongRecOn with
 | _ n ih =>
  unfold lim
  split
  ·rename_i h; rw[h]; rfl
  ·simp only[val,ih (n/65536) (by omega)];omega
theorem Jt {n:Nat}:lim n = []↔n=0:=by
 constructor
 ·intro h;have:=AE n;rw[h] at this;simp only[val] at this;omega
 ·rintro rfl; exact Cr
theorem Vl (n:Nat):NB (lim n):=by
 induction n using Nat.strongRecOn with
 | _ n ih =>
  unfold lim
  split
  ·exact NB.nil
  ·rename_i hn;intro x hx;by_cases h0:n/65536=0
   ·rw[h0,Cr] at hx;simp at hx;omega
   ·have hne:lim (n/65536)≠[]:=fun h=>h0 (Jt.1 h)
    cases hl:lim (n/65536) with
    | nil=>exact absurd hl hne
    | cons a t =>
     rw[hl,List.getLast?_cons_cons] at hx;exact ih (n/65536) (by omega) x (by rw[hl]; exact hx)
theorem A73 {l:List Int} (h:LB l) (hn:NB l):l=lim (val l).toNat:=A3P h hn (AN _) (Vl _) (by rw[AE]; have:=AX h; omega)
theorem Aw {n k:Nat}:(lim n).length<=k↔(n:Int)<B k:=by
 constructor
 ·intro h;have h1:=Py (AN n);rw[AE] at h1;have:=Kf h;omega
 ·intro h;rcases zd9 k (lim n).length with hk | hk
  ·exfalso
   have hne:lim n≠[]:=by intro h0; rw[h0] at hk; simp at hk
   have h1:=AJ7 (AN n) (Vl n) hne;rw[AE] at h1;have:=Kf (show k<=(lim n).length-1 by omega);omega
  ·exact hk
def Ff:List Int->List Int
 | []=>[]
 | x::l=>match Ff l with | []=>if x=0 then [] else [x] | m=>x::m
theorem Ag0:∀ {l:List Int},LB l->LB (Ff l)/\NB (Ff l)/\val (Ff l)=val l
 | [],_=>⟨LB.nil,NB.nil,rfl⟩
 | x::l,h=>by
  obtain ⟨h1,h2,h3⟩:=Ag0 h.tail;simp only[Ff];cases hs:Ff l with
  | nil =>
   rw[hs] at h3;simp only[val] at h3;simp only
   split
   ·rename_i hx; subst hx; exact ⟨LB.nil,NB.nil,by simp only[val]; omega⟩
   ·rename_i hx;exact ⟨LB.cons h.head LB.nil,fun y hy=>by simp at hy; subst hy; exact hx,by simp only[val]; omega⟩
  | cons a t =>
   rw[hs] at h1 h2 h3;simp only;exact ⟨LB.cons h.head h1,fun y hy=>h2 y (by rw[List.getLast?_cons_cons] at hy; exact hy),by rw[val,h3]; rfl⟩
theorem Cy {l:List Int} (h:LB l):Ff l=lim (val l).toNat:=by
 obtain ⟨h1,h2,h3⟩:=Ag0 h;rw[A73 h1 h2,h3]
theorem I9:∀ (l:List Int),Ff (l ++ [0])=Ff l
 | []=>rfl
 | x::l=>by simp only[List.cons_append,Ff,I9 l]
theorem OI:∀ {l:List Int},NB l->Ff l=l
 | [],_=>rfl
 | x::l,h=>by
  simp only[Ff,OI h.tail];cases l with
  | nil=>simp only; rw[if_neg (h x rfl)]
  | cons a t=>rfl
theorem VS:∀ (l:List Int),(Ff l).length<=l.length
 | []=>za7 _
 | x::l=>by
  have:=VS l;simp only[Ff]
  split
  ·split <;> simp
  ·rename_i m hm; simp only[zc0] at *; omega
end
section
open Go
def AH (l:List Int):Prop:=l.length<=100000000
theorem A3a {l:List Int} (h:l≠[]):∃ m x,l=m ++ [x]:=⟨l.dropLast,l.getLast h,(List.dropLast_concat_getLast h).symm⟩
theorem A3V {m:List Int} {x:Int} (h:x≠0):NB (m ++ [x]):=fun y hy=>by
 rw[List.getLast?_append] at hy;simp at hy;subst hy;exact h
theorem A9O {n:Nat} (h:n<=200000000):AA3 n 8 1=true:=by unfold AA3; rw[decide_eq_true (by unfold Ag; omega),decide_eq_true (by unfold Ag; omega)]; rfl
theorem Hl {l:List Int} (hb:AH l):Cs l=some (Ff l):=by
 have key:∀ (n:Nat) (l:List Int),l.length=n->n<=100000000->Ah (fun (s:(List Int))=>Lz s) l=some (Ff l):=by
  intro n
  induction n with
  | zero =>
   intro l hl _;have:l = []:=zb7 hl;subst this;exact Aq rfl
  | succ n ih =>
   intro l hl hn;obtain ⟨m,x,rfl⟩:=A3a (l:=l) (by intro h; subst h; simp at hl);have hm:m.length=n:=by simpa using hl
   have hlen:(((m ++ [x]).length:Nat):Int)=(n:Int) + 1:=by simp[hm]
   have hg:AQ (m ++ [x]) (n:Int)=some x:=by rw[Ao,<-hm]; simp
   have hstep:Lz (m ++ [x])=if x=0 then some (Sum.inl m) else some (Sum.inr (m ++ [x])):=by
    unfold Lz;rw[hlen,Aj (by omega) (by omega),show (n:Int) + 1-1=(n:Int) by omega,hg,decide_eq_true (by omega)];simp only[cond_true,za0];by_cases hx:x=0
    ·rw[if_pos hx,beq_iff_eq.2 hx];have:LL 0 (n:Int) (m ++ [x]).length=some (0,n):=by unfold LL; simp[hm]; omega
     rw[this];simp[<-hm]
    ·rw[if_neg hx,beq_eq_false_iff_ne.2 hx];rfl
   by_cases hx:x=0
   ·rw[if_pos hx] at hstep;rw[AY hstep,ih m hm (by omega),hx,I9]
   ·rw[if_neg hx] at hstep;rw[Aq hstep,OI (A3V hx)]
 unfold Cs;have h:=VS l;unfold AH at hb;rw[key _ l rfl hb];simp only[za0,A9O (show (Ff l).length<=200000000 by omega),cond_true]
theorem Au2 {l:List Int} (hb:AH l):Ix l=some (Ff l):=by
 unfold AH at hb;have key:∀ (n:Nat),n<=l.length->Ff (l.take n)=Ff l->∃ k:Nat,k<=l.length/\l.take k=Ff l/\Ah (fun (s:((List Int)×Int))=>QE s.1 s.2) (l,(n:Int))=some (l,(k:Int)):=by
  intro n
  induction n with
  | zero =>
   intro _ h;exact ⟨0,by omega,by simpa[Ff] using h,Aq rfl⟩
  | succ n ih =>
   intro hn h;have hlt:n<l.length:=by omega
   have hg:AQ l (n:Int)=some l[n]:=by rw[Ao,za1 hlt]
   have ht:l.take (n + 1)=l.take n ++ [l[n]]:=by rw[List.take_add_one,za1 hlt]; rfl
   have hstep:QE l ((n + 1:Nat):Int)=if l[n]=0 then some (Sum.inl (l,(n:Int))) else some (Sum.inr (l,((n + 1:Nat):Int))):=by
    unfold QE;rw[Aj (by omega) (by omega),show ((n + 1:Nat):Int)-1=(n:Int) by omega,hg,decide_eq_true (by omega)];simp only[cond_true,za0];by_cases hx:l[n]=0
    ·rw[if_pos hx,beq_iff_eq.2 hx]; rfl
    ·rw[if_neg hx,beq_eq_false_iff_ne.2 hx]; rfl
   by_cases hx:l[n]=0
   ·rw[if_pos hx] at hstep;obtain ⟨k,h1,h2,h3⟩:=ih (by omega) (by rw[<-h,ht,hx,I9]);exact ⟨k,h1,h2,by rw[AY hstep]; exact h3⟩
   ·rw[if_neg hx] at hstep;refine ⟨n + 1,hn,?_,Aq hstep⟩
    rw[<-h,ht,OI (A3V hx)]
 obtain ⟨k,h1,h2,h3⟩:=key l.length (za7 _) (by rw[List.take_length]);unfold Ix;rw[h3];have:LL 0 (k:Int) l.length=some (0,k):=by unfold LL; simp[h1]
 simp only[za0,this,ze7,h2]
theorem Av2 {l:List Int} (hb:AH l):BW l=some l:=by
 unfold BW A7s;cases l with
 | nil=>rfl
 | cons a t =>
  unfold AH at hb;simp only[Cc,neL,za0,A9O (show (a::t).length<=200000000 by omega),cond_true]
theorem AZ9 {l:List Int} (h:AH l):AH (Ff l):=by have:=VS l; unfold AH at *; omega
theorem Pj (l:List Int):decide (((l.length:Nat):Int)>0) = !l.isEmpty:=by cases l <;> simp <;> omega
theorem Ms (n:Nat):(!(lim n).isEmpty)=decide (n≠0):=by
 cases h:lim n with
 | nil=>rw[Jt.1 h]; rfl
 | cons a t=>simp; intro h0; rw[h0,Cr] at h; cases h
theorem Iw {l:List Int} (h:LB l) (hb:AH l) (neg:Bool):Bj neg l=some (lim (val l).toNat,neg&&decide ((val l).toNat≠0)):=by
 unfold Bj;simp only[Au2 hb,za0,Av2 (AZ9 hb),Pj];rw[Cy h,Ms];cases neg <;> rfl
theorem F5 {l:List Int} (h:LB l) (hb:AH l) (neg:Bool):Bs neg l=some (lim (val l).toNat,neg&&decide ((val l).toNat≠0)):=by
 unfold Bs;simp only[Hl hb,za0,Pj];rw[Cy h,Ms];cases neg <;> rfl
def big (z:Int):Bool×List Int:=(decide (z<0),lim z.natAbs)
theorem A3j {x y:Int} (h:big x=big y):x=y:=by
 unfold big at h;have h1:=congrArg Prod.fst h;have h2:=congrArg Prod.snd h;simp only at h1 h2;have h3:x.natAbs=y.natAbs:=by
  have:=congrArg val h2;rw[AE,AE] at this;omega
 by_cases hx:x<0 <;> by_cases hy:y<0 <;> simp[hx,hy] at h1 <;> omega
def GT (b:Bool×List Int):Bool:=(b.2.all fun x=>decide (0<=x)&&decide (x<=65535))&&(match b.2.getLast? with | none=>!b.1 | some x=>decide (b.2.length<=40)&&(x != 0))
theorem H8 {b:Bool×List Int}:GT b=true↔∃ z:Int,(z.natAbs:Int)<B 40/\b=big z:=by
 obtain ⟨neg,l⟩:=b;unfold GT;simp only[za2,za5,decide_eq_true_eq];constructor
 ·rintro ⟨h1,h2⟩;have hl:LB l:=fun x hx=>by have:=h1 x hx; omega
  cases hg:l.getLast? with
  | none =>
   rw[hg] at h2;have:l = []:=List.getLast?_eq_none_iff.1 hg;subst this;have hn:neg=false:=by simpa using h2
   subst hn;exact ⟨0,by decide,by unfold big; simp[Cr]⟩
  | some x =>
   rw[hg] at h2;simp only[za2,decide_eq_true_eq,bne_iff_ne] at h2;have hn:NB l:=fun y hy=>by rw[hg] at hy; cases hy; exact h2.2
   have hv:=A73 hl hn;have h0:(val l).toNat≠0:=by
    intro h0;rw[h0,Cr] at hv;rw[hv] at hg;simp at hg
   have hlt:((val l).toNat:Int)<B 40:=Aw.1 (by rw[<-hv]; exact h2.1);refine ⟨if neg then -((val l).toNat:Int) else ((val l).toNat:Int),?_,?_⟩
   ·cases neg <;> simp <;> omega
   ·unfold big;cases neg
    ·simp only[zc2,if_false];rw[decide_eq_false (by omega),Int.natAbs_natCast,<-hv]
    ·simp only[if_true];rw[decide_eq_true (by omega),Int.natAbs_neg,Int.natAbs_natCast,<-hv]
 ·rintro ⟨z,hz,h⟩;unfold big at h;have hn:neg=decide (z<0):=congrArg Prod.fst h;have hl:l=lim z.natAbs:=congrArg Prod.snd h;subst hl;refine ⟨fun x hx=>by have:=AN _ x hx; omega,?_⟩
  cases hg:(lim z.natAbs).getLast? with
  | none =>
   have:lim z.natAbs = []:=List.getLast?_eq_none_iff.1 hg;have:=Jt.1 this;rw[hn];simp;omega
  | some x =>
   simp only[za2,decide_eq_true_eq,bne_iff_ne];exact ⟨Aw.2 hz,Vl _ x hg⟩
theorem JP {z:Int} (h:(z.natAbs:Int)<B 40):GT (big z)=true:=H8.2 ⟨z,h,rfl⟩
theorem Ar0 (a b c:Int):Bk a b c=some (decide (b<=a)&&decide (a<=c)):=by
 unfold Bk;by_cases h:a>=b <;> simp[h]
theorem A3S (a b c:Int):C0 a b c=some (decide (b<=a)&&decide (a<=c)):=by
 unfold C0;by_cases h:a>=b <;> simp[h]
theorem Iu {k:Nat} {α:Type} {l:List α} {a : α} (h:l[k]? = some a):decide ((k:Int)<(l.length:Int))=true:=by have:=Fc h; simpa using this
theorem Ut {α:Type} (l:List α):decide ((l.length:Int)<(l.length:Int))=false:=by simp
theorem AL6 {l:List Int} (hb:AH l):AJ l=some (!(l.all fun x=>decide (0<=x)&&decide (x<=65535))):=by
 unfold AJ B3;unfold AH at hb;have key:=KC (body:=fun (s:((List Int)×(Int×Int)))=>Bh s.1 s.2.1 s.2.2) (l:=l) (st:=fun k=>(l,(l.length:Int),(k:Int))) (p:=fun x=>decide (0<=x)&&decide (x<=65535)) (fin:=.inl ()) (bad:=fun k=>.inr (k:Int))
  (fun k a hk hp=>by
   have:=Fc hk;unfold Bh FY;simp only[Iu hk,cond_true,Ao,hk,za0,Ar0,hp,Bool.not_true,cond_false,AR (show k<4611686018427387904 by omega)])
  (fun k a hk hp=>by
   unfold Bh FY;simp only[Iu hk,cond_true,Ao,hk,za0,Ar0,hp,Bool.not_false])
  (by unfold Bh; simp only[Ut,cond_false])
 cases hall:l.all fun x=>decide (0<=x)&&decide (x<=65535) with
 | true =>
  have h:=key.1 hall;rw[show ((0:Nat):Int)=0 from rfl] at h;simp only[h,za0,Sum.elim_inl];rfl
 | false =>
  obtain ⟨k,_,h⟩:=key.2 hall;rw[show ((0:Nat):Int)=0 from rfl] at h;simp only[h,za0,za8];have:decide ((k:Int)>=0)=true:=by simp
  rw[this]; rfl
theorem Yn {l:List Int} {x:Int} (h:l.getLast? = some x):l.length≠0/\AQ l ((l.length:Int)-1)=some x:=by
 have hne:l≠[]:=by intro h0; subst h0; simp at h
 obtain ⟨m,y,rfl⟩:=A3a hne;rw[List.getLast?_append] at h;simp at h;subst h;refine ⟨by simp,?_⟩
 have:(((m ++ [y]).length:Nat):Int)-1=(m.length:Int):=by simp
 rw[this,Ao];simp
theorem VF {b:Bool×List Int} (hb:AH b.2):GX b=some (GT b):=by
 obtain ⟨neg,l⟩:=b;unfold GX GT;have hb':=hb;unfold AH at hb';simp only at hb hb' ⊢
 rw[Aj (by omega) (by omega),AL6 hb];cases hg:l.getLast? with
 | none =>
  have:l = []:=List.getLast?_eq_none_iff.1 hg;subst this;cases neg <;> rfl
 | some x =>
  obtain ⟨h0,h1⟩:=Yn hg;have e0:(((l.length:Nat):Int)==0)=false:=beq_eq_false_iff_ne.2 (by omega);have e1:decide (((l.length:Nat):Int)>0)=true:=decide_eq_true (by omega);by_cases h40:l.length<=40
  ·have e2:decide (((l.length:Nat):Int)>40)=false:=decide_eq_false (by omega);simp only[e2,e0,e1,cond_false,cond_true,h1,za0,Bool.not_not,decide_eq_true h40,ze2];by_cases hx:x=0
   ·subst hx; simp
   ·rw[beq_eq_false_iff_ne.2 hx]; simp[hx]
  ·have e2:decide (((l.length:Nat):Int)>40)=true:=decide_eq_true (by omega);simp only[e2,cond_true,decide_eq_false h40,Bool.false_and,Bool.and_false]
theorem VC {b:Bool×List Int} (hb:AH b.2):Fd b=some (GT b):=by
 obtain ⟨neg,l⟩:=b;unfold Fd GT;have hb':=hb;unfold AH at hb';simp only at hb hb' ⊢
 have key:=KC (body:=fun (s:((Bool×(List Int))×((List Int)×(Int×Int))))=>F4 s.1 s.2.1 s.2.2.1 s.2.2.2) (l:=l) (st:=fun k=>((neg,l),(l,((l.length:Int),(k:Int))))) (p:=fun x=>decide (0<=x)&&decide (x<=65535)) (fin:=.inl (neg,l)) (bad:=fun k=>.inr false)
  (fun k a hk hp=>by
   have:=Fc hk;unfold F4;simp only[Iu hk,cond_true,Ao,hk,za0,A3S,hp,Bool.not_true,cond_false,AR (show k<4611686018427387904 by omega)])
  (fun k a hk hp=>by
   unfold F4;simp only[Iu hk,cond_true,Ao,hk,za0,A3S,hp,Bool.not_false])
  (by unfold F4; simp only[Ut,cond_false])
 rw[show ((0:Nat):Int)=0 from rfl] at key;cases hall:l.all fun x=>decide (0<=x)&&decide (x<=65535) with
 | false=>obtain ⟨k,_,h⟩:=key.2 hall; rw[h]; rfl
 | true =>
  rw[key.1 hall];simp only[za0,Sum.elim_inl,ze2];rw[Aj (by omega) (by omega)];cases hg:l.getLast? with
  | none =>
   have:l = []:=List.getLast?_eq_none_iff.1 hg;subst this;rfl
  | some x =>
   obtain ⟨h0,h1⟩:=Yn hg;have e0:(((l.length:Nat):Int)==0)=false:=beq_eq_false_iff_ne.2 (by omega);simp only[e0,cond_false,h1,za0];by_cases h40:l.length<=40
   ·rw[decide_eq_true (show ((l.length:Nat):Int)<=40 by omega),decide_eq_true h40]; rfl
   ·rw[decide_eq_false (show ¬((l.length:Nat):Int)<=40 by omega),decide_eq_false h40]; rfl
theorem A6v {l:List (Bool×List Int)} (hl:l.length<=1000) (hb:∀ b∈l,AH b.2):Ic l=some (l.all GT):=by
 unfold Ic Bl Bu;have key:=KC (body:=fun (s:((List (Bool×(List Int)))×(Int×Int)))=>A0 s.1 s.2.1 s.2.2) (l:=l) (st:=fun k=>(l,(l.length:Int),(k:Int))) (p:=GT) (fin:=.inl ()) (bad:=fun k=>.inr (k:Int))
  (fun k a hk hp=>by
   have:=Fc hk;unfold A0 Hy;simp only[Iu hk,cond_true,Ao,hk,za0,VF (hb a (za4 hk)),hp,Bool.not_true,cond_false,AR (show k<4611686018427387904 by omega)])
  (fun k a hk hp=>by
   unfold A0 Hy;simp only[Iu hk,cond_true,Ao,hk,za0,VF (hb a (za4 hk)),hp,Bool.not_false])
  (by unfold A0; simp only[Ut,cond_false])
 rw[show ((0:Nat):Int)=0 from rfl] at key;cases hall:l.all GT with
 | true=>rw[key.1 hall]; rfl
 | false =>
  obtain ⟨k,_,h⟩:=key.2 hall;rw[h];simp only[za0,za8];have:decide ((k:Int)>=0)=true:=by simp
  rw[this]; rfl
end
end Go.Proofs.YtiijheppiboglaaGreatDoor.Ev
