/- What the theorem of this claim leans on, part 5. -/
import Derived.Test.YthipdlhknbhiiaaGreatKD
import Derived.Test.YthipdlhknbhiiaaGreatProg
import Derived.KernelRfl
set_option linter.unusedVariables false
set_option linter.unusedSimpArgs false
set_option linter.unusedSectionVars false
section
namespace Go.Proofs.YthipdlhknbhiiaaGreat.Ev
open Go
set_option maxRecDepth 100000
theorem SL:EntOK RR O6:=Ab (X:=V1) ⟨tyOK,boolOK,eqOK⟩ (Ad (by exact ⟨⟨Ab5,rfl⟩,⟨⟨Mr,rfl⟩,trivial⟩⟩)) (Ae (by kernel_rfl)) ⟨Tryz.func196,rfl,by kernel_rfl,rfl⟩ (fun x=>by exact Av6 x.1 x.2)
noncomputable def IA (a0:(Bool×((List Int)×(Bool×(List Int))))) (a1:(Bool×((List Int)×(Bool×(List Int))))):Option ((Bool×List (Int)×Bool×List (Int))) :=
 ((BM (a0.1,a0.2.1) (a1.2.2.1,a1.2.2.2))).bind fun x0 =>
 ((BM (a0.2.2.1,a0.2.2.2) (a1.1,a1.2.1))).bind fun x1 =>
 ((CC (x0.1,x0.2) (x1.1,x1.2))).bind fun x2 =>
 some (x2.1,(x2.2.1,(x2.2.2.1,x2.2.2.2)))
noncomputable def Wk:Ent:=⟨Ov,fun x=>IA x.1 x.2⟩
noncomputable def Wb:TX:=⟨tyTab,codTab,[],[4],[Iz,EZ],Ov⟩
set_option maxHeartbeats 2000000 in
theorem Aw5 (a0:(Bool×List (Int)×Bool×List (Int))) (a1:(Bool×List (Int)×Bool×List (Int))):wtF Wb Tryz.f251 (a0,a1)=IA a0 a1:=by kernel_rfl
theorem Aj2:EntOK RR Wk:=Ab (X:=Wb) ⟨tyOK,boolOK,eqOK⟩ (Ad (by exact ⟨⟨II,rfl⟩,⟨⟨FE,rfl⟩,trivial⟩⟩)) (Ae (by kernel_rfl)) ⟨Tryz.func251,rfl,by kernel_rfl,rfl⟩ (fun x=>by exact Aw5 x.1 x.2)
noncomputable def Iw (a0:(Bool×((List Int)×(Bool×(List Int))))) (a1:(Bool×((List Int)×(Bool×(List Int))))):Option ((Bool×List (Int)×Bool×List (Int))) :=
 ((BM (a0.1,a0.2.1) (a1.1,a1.2.1))).bind fun x0 =>
 ((BM (a0.2.2.1,a0.2.2.2) (a1.2.2.1,a1.2.2.2))).bind fun x1 =>
 ((CC (x0.1,x0.2) (x1.1,x1.2))).bind fun x2 =>
 some (x2.1,(x2.2.1,(x2.2.2.1,x2.2.2.2)))
noncomputable def VT:Ent:=⟨Pg,fun x=>Iw x.1 x.2⟩
noncomputable def U5:TX:=⟨tyTab,codTab,[],[4],[Iz,EZ],Pg⟩
set_option maxHeartbeats 2000000 in
theorem Ar1 (a0:(Bool×List (Int)×Bool×List (Int))) (a1:(Bool×List (Int)×Bool×List (Int))):wtF U5 Tryz.f197 (a0,a1)=Iw a0 a1:=by kernel_rfl
theorem Ab7:EntOK RR VT:=Ab (X:=U5) ⟨tyOK,boolOK,eqOK⟩ (Ad (by exact ⟨⟨II,rfl⟩,⟨⟨FE,rfl⟩,trivial⟩⟩)) (Ae (by kernel_rfl)) ⟨Tryz.func197,rfl,by kernel_rfl,rfl⟩ (fun x=>by exact Ar1 x.1 x.2)
noncomputable def D4 (a0:(Bool×((List Int)×(Bool×(List Int))))) (a1:(Bool×((List Int)×(Bool×(List Int))))) (a2:(Bool×((List Int)×(Bool×(List Int))))):Option ((Bool×List (Int)×Bool×List (Int))) :=
 ((Fh (a1.1,(a1.2.1,(a1.2.2.1,a1.2.2.2))) (a0.1,(a0.2.1,(a0.2.2.1,a0.2.2.2))))).bind fun x0 =>
 ((Iw (a2.1,(a2.2.1,(a2.2.2.1,a2.2.2.2))) (x0.1,(x0.2.1,(x0.2.2.1,x0.2.2.2))))).bind fun x1 =>
 ((Eh (a0.1,(a0.2.1,(a0.2.2.1,a0.2.2.2))) (x1.1,(x1.2.1,(x1.2.2.1,x1.2.2.2))))).bind fun x2 =>
 some (x2.1,(x2.2.1,(x2.2.2.1,x2.2.2.2)))
noncomputable def P9:Ent:=⟨JG,fun x=>D4 x.1 x.2.1 x.2.2⟩
noncomputable def QO:TX:=⟨tyTab,codTab,[],[4],[O6,VT,Ll],JG⟩
set_option maxHeartbeats 2000000 in
theorem ZP (a0:(Bool×List (Int)×Bool×List (Int))) (a1:(Bool×List (Int)×Bool×List (Int))) (a2:(Bool×List (Int)×Bool×List (Int))):wtF QO Tryz.f198 (a0,a1,a2)=D4 a0 a1 a2:=by kernel_rfl
theorem XK:EntOK RR P9:=Ab (X:=QO) ⟨tyOK,boolOK,eqOK⟩ (Ad (by exact ⟨⟨SL,rfl⟩,⟨⟨Ab7,rfl⟩,⟨⟨Mr,rfl⟩,trivial⟩⟩⟩)) (Ae (by kernel_rfl)) ⟨Tryz.func198,rfl,by kernel_rfl,rfl⟩ (fun x=>by exact ZP x.1 x.2.1 x.2.2)
noncomputable def GI (a0:(Bool×((List Int)×(Bool×((List Int)×(Bool×((List Int)×(Bool×(List Int))))))))) (a1:(Bool×((List Int)×(Bool×((List Int)×(Bool×((List Int)×(Bool×(List Int))))))))) (a2:(Bool×((List Int)×(Bool×(List Int))))):Option ((Bool×List (Int)×Bool×List (Int)×Bool×List (Int)×Bool×List (Int))) :=
 ((D4 (a0.1,(a0.2.1,(a0.2.2.1,a0.2.2.2.1))) (a1.1,(a1.2.1,(a1.2.2.1,a1.2.2.2.1))) (a2.1,(a2.2.1,(a2.2.2.1,a2.2.2.2))))).bind fun x0 =>
 ((D4 (a0.2.2.2.2.1,(a0.2.2.2.2.2.1,(a0.2.2.2.2.2.2.1,a0.2.2.2.2.2.2.2))) (a1.2.2.2.2.1,(a1.2.2.2.2.2.1,(a1.2.2.2.2.2.2.1,a1.2.2.2.2.2.2.2))) (a2.1,(a2.2.1,(a2.2.2.1,a2.2.2.2))))).bind fun x1 =>
 some (x0.1,(x0.2.1,(x0.2.2.1,(x0.2.2.2,(x1.1,(x1.2.1,(x1.2.2.1,x1.2.2.2)))))))
noncomputable def TI:Ent:=⟨Mv,fun x=>GI x.1 x.2.1 x.2.2⟩
noncomputable def So:TX:=⟨tyTab,codTab,[],[4],[P9],Mv⟩
set_option maxHeartbeats 2000000 in
theorem Ah6 (a0:(Bool×List (Int)×Bool×List (Int)×Bool×List (Int)×Bool×List (Int))) (a1:(Bool×List (Int)×Bool×List (Int)×Bool×List (Int)×Bool×List (Int))) (a2:(Bool×List (Int)×Bool×List (Int))):wtF So Tryz.f131 (a0,a1,a2)=GI a0 a1 a2:=by kernel_rfl
theorem Zt:EntOK RR TI:=Ab (X:=So) ⟨tyOK,boolOK,eqOK⟩ (Ad (by exact ⟨⟨XK,rfl⟩,trivial⟩)) (Ae (by kernel_rfl)) ⟨Tryz.func131,rfl,by kernel_rfl,rfl⟩ (fun x=>by exact Ah6 x.1 x.2.1 x.2.2)
noncomputable def GQ (a0:(Bool×((List Int)×(Bool×((List Int)×(Bool×((List Int)×(Bool×(List Int))))))))) (a1:(Bool×((List Int)×(Bool×((List Int)×(Bool×((List Int)×(Bool×(List Int))))))))) (a2:Bool) (a3:(Bool×((List Int)×(Bool×(List Int))))):Option ((Bool×List (Int)×Bool×List (Int)×Bool×List (Int)×Bool×List (Int))) :=
 ((Di (a0.1,(a0.2.1,(a0.2.2.1,(a0.2.2.2.1,(a0.2.2.2.2.1,(a0.2.2.2.2.2.1,(a0.2.2.2.2.2.2.1,a0.2.2.2.2.2.2.2))))))) a2)).bind fun x0 =>
 ((Fh (a3.1,(a3.2.1,(a3.2.2.1,a3.2.2.2))) (x0.1,(x0.2.1,(x0.2.2.1,x0.2.2.2))))).bind fun x1 =>
 ((Di (a1.1,(a1.2.1,(a1.2.2.1,(a1.2.2.2.1,(a1.2.2.2.2.1,(a1.2.2.2.2.2.1,(a1.2.2.2.2.2.2.1,a1.2.2.2.2.2.2.2))))))) a2)).bind fun x2 =>
 ((Fh (x2.1,(x2.2.1,(x2.2.2.1,x2.2.2.2))) (x0.1,(x0.2.1,(x0.2.2.1,x0.2.2.2))))).bind fun x3 =>
 ((IA (x1.1,(x1.2.1,(x1.2.2.1,x1.2.2.2))) (x3.1,(x3.2.1,(x3.2.2.1,x3.2.2.2))))).bind fun x4 =>
 ((GI (a0.1,(a0.2.1,(a0.2.2.1,(a0.2.2.2.1,(a0.2.2.2.2.1,(a0.2.2.2.2.2.1,(a0.2.2.2.2.2.2.1,a0.2.2.2.2.2.2.2))))))) (a1.1,(a1.2.1,(a1.2.2.1,(a1.2.2.2.1,(a1.2.2.2.2.1,(a1.2.2.2.2.2.1,(a1.2.2.2.2.2.2.1,a1.2.2.2.2.2.2.2))))))) (x4.1,(x4.2.1,(x4.2.2.1,x4.2.2.2))))).bind fun x5 =>
 bif a2 then
  some (x5.1,(x5.2.1,(x5.2.2.1,(x5.2.2.2.1,(a3.1,(a3.2.1,(a3.2.2.1,a3.2.2.2)))))))
 else
 some (a3.1,(a3.2.1,(a3.2.2.1,(a3.2.2.2,(x5.2.2.2.2.1,(x5.2.2.2.2.2.1,(x5.2.2.2.2.2.2.1,x5.2.2.2.2.2.2.2)))))))
noncomputable def T5:Ent:=⟨Mu,fun x=>GQ x.1 x.2.1 x.2.2.1 x.2.2.2⟩
noncomputable def Uk:TX:=⟨tyTab,codTab,[],[4],[IH,O6,Wk,TI],Mu⟩
set_option maxHeartbeats 2000000 in
theorem Ae2 (a0:(Bool×List (Int)×Bool×List (Int)×Bool×List (Int)×Bool×List (Int))) (a1:(Bool×List (Int)×Bool×List (Int)×Bool×List (Int)×Bool×List (Int))) (a2:Bool) (a3:(Bool×List (Int)×Bool×List (Int))):wtF Uk Tryz.f240 (a0,a1,a2,a3)=GQ a0 a1 a2 a3:=by kernel_rfl
theorem Zc:EntOK RR T5:=Ab (X:=Uk) ⟨tyOK,boolOK,eqOK⟩ (Ad (by exact ⟨⟨LW,rfl⟩,⟨⟨SL,rfl⟩,⟨⟨Aj2,rfl⟩,⟨⟨Zt,rfl⟩,trivial⟩⟩⟩⟩)) (Ae (by kernel_rfl)) ⟨Tryz.func240,rfl,by kernel_rfl,rfl⟩ (fun x=>by exact Ae2 x.1 x.2.1 x.2.2.1 x.2.2.2)
noncomputable def BL (s0:(Bool×((List Int)×(Bool×(List Int))))) (s1:(List (((Bool×(List Int))×(Bool×(List Int)))×((Bool×(List Int))×(Bool×(List Int)))))) (s2:(List (((Bool×(List Int))×(Bool×(List Int)))×((Bool×(List Int))×(Bool×(List Int)))))) (s3:Bool) (s4:Bool) (s5:(List (((Bool×(List Int))×(Bool×(List Int)))×((Bool×(List Int))×(Bool×(List Int)))))) (s6:Int) (s7:Int):Option (((Bool×((List Int)×(Bool×(List Int))))×((List (((Bool×(List Int))×(Bool×(List Int)))×((Bool×(List Int))×(Bool×(List Int)))))×((List (((Bool×(List Int))×(Bool×(List Int)))×((Bool×(List Int))×(Bool×(List Int)))))×(Bool×(Bool×((List (((Bool×(List Int))×(Bool×(List Int)))×((Bool×(List Int))×(Bool×(List Int)))))×(Int×Int))))))) ⊕ (List (((Bool×(List Int))×(Bool×(List Int)))×((Bool×(List Int))×(Bool×(List Int)))))) :=
 bif decide (s7<s6) then
  ((getI s5 s7)).bind fun x0 =>
  bif ((((List.length s2):Nat):Int)==(0:Int)) then
   none
  else
  ((getI s2 (Int.tmod (Go.IntKind.wrap Go.IntKind.i64 ((Go.IntKind.wrap Go.IntKind.i64 (s7 + (((List.length s2):Nat):Int)))-(1:Int))) (((List.length s2):Nat):Int)))).bind fun x1 =>
  ((Ec (x1.1.1.1,(x1.1.1.2,(x1.1.2.1,(x1.1.2.2,(x1.2.1.1,(x1.2.1.2,(x1.2.2.1,x1.2.2.2))))))) s3 (s0.1,(s0.2.1,(s0.2.2.1,s0.2.2.2))) s4)).bind fun x2 =>
  ((Ec (x0.1.1.1,(x0.1.1.2,(x0.1.2.1,(x0.1.2.2,(x0.2.1.1,(x0.2.1.2,(x0.2.2.1,x0.2.2.2))))))) s3 (s0.1,(s0.2.1,(s0.2.2.1,s0.2.2.2))) s4)).bind fun x3 =>
  bif (!(decide (x2≤(0:Int))==decide (x3≤(0:Int)))) then
   ((GQ (x1.1.1.1,(x1.1.1.2,(x1.1.2.1,(x1.1.2.2,(x1.2.1.1,(x1.2.1.2,(x1.2.2.1,x1.2.2.2))))))) (x0.1.1.1,(x0.1.1.2,(x0.1.2.1,(x0.1.2.2,(x0.2.1.1,(x0.2.1.2,(x0.2.2.1,x0.2.2.2))))))) s3 (s0.1,(s0.2.1,(s0.2.2.1,s0.2.2.2))))).bind fun x4 =>
   ((appL 128 8 s1 (List.cons (((x4.1,x4.2.1),(x4.2.2.1,x4.2.2.2.1)),((x4.2.2.2.2.1,x4.2.2.2.2.2.1),(x4.2.2.2.2.2.2.1,x4.2.2.2.2.2.2.2))) (List.nil:List (((Bool×(List Int))×(Bool×(List Int)))×((Bool×(List Int))×(Bool×(List Int)))))))).bind fun x5 =>
   bif decide (x3≤(0:Int)) then
    ((appL 128 8 x5 (List.cons (((x0.1.1.1,x0.1.1.2),(x0.1.2.1,x0.1.2.2)),((x0.2.1.1,x0.2.1.2),(x0.2.2.1,x0.2.2.2))) (List.nil:List (((Bool×(List Int))×(Bool×(List Int)))×((Bool×(List Int))×(Bool×(List Int)))))))).bind fun x6 =>
    some (Sum.inl ((s0.1,(s0.2.1,(s0.2.2.1,s0.2.2.2))),(x6,(s2,(s3,(s4,(s5,(s6,(Go.IntKind.wrap Go.IntKind.i64 (s7 + (1:Int)))))))))))
   else
   some (Sum.inl ((s0.1,(s0.2.1,(s0.2.2.1,s0.2.2.2))),(x5,(s2,(s3,(s4,(s5,(s6,(Go.IntKind.wrap Go.IntKind.i64 (s7 + (1:Int)))))))))))
  else
  bif decide (x3≤(0:Int)) then
   ((appL 128 8 s1 (List.cons (((x0.1.1.1,x0.1.1.2),(x0.1.2.1,x0.1.2.2)),((x0.2.1.1,x0.2.1.2),(x0.2.2.1,x0.2.2.2))) (List.nil:List (((Bool×(List Int))×(Bool×(List Int)))×((Bool×(List Int))×(Bool×(List Int)))))))).bind fun x7 =>
   some (Sum.inl ((s0.1,(s0.2.1,(s0.2.2.1,s0.2.2.2))),(x7,(s2,(s3,(s4,(s5,(s6,(Go.IntKind.wrap Go.IntKind.i64 (s7 + (1:Int)))))))))))
  else
  some (Sum.inl ((s0.1,(s0.2.1,(s0.2.2.1,s0.2.2.2))),(s1,(s2,(s3,(s4,(s5,(s6,(Go.IntKind.wrap Go.IntKind.i64 (s7 + (1:Int)))))))))))
 else
 some (Sum.inr s1)
noncomputable def Cs (a0:(List (((Bool×(List Int))×(Bool×(List Int)))×((Bool×(List Int))×(Bool×(List Int)))))) (a1:Bool) (a2:(Bool×((List Int)×(Bool×(List Int))))) (a3:Bool):Option (List ((((Bool×List (Int))×(Bool×List (Int)))×((Bool×List (Int))×(Bool×List (Int)))))) :=
 (loopM (fun (s:((Bool×((List Int)×(Bool×(List Int))))×((List (((Bool×(List Int))×(Bool×(List Int)))×((Bool×(List Int))×(Bool×(List Int)))))×((List (((Bool×(List Int))×(Bool×(List Int)))×((Bool×(List Int))×(Bool×(List Int)))))×(Bool×(Bool×((List (((Bool×(List Int))×(Bool×(List Int)))×((Bool×(List Int))×(Bool×(List Int)))))×(Int×Int))))))))=>BL s.1 s.2.1 s.2.2.1 s.2.2.2.1 s.2.2.2.2.1 s.2.2.2.2.2.1 s.2.2.2.2.2.2.1 s.2.2.2.2.2.2.2) ((a2.1,(a2.2.1,(a2.2.2.1,a2.2.2.2))),((List.nil:List (((Bool×(List Int))×(Bool×(List Int)))×((Bool×(List Int))×(Bool×(List Int))))),(a0,(a1,(a3,(a0,((((List.length a0):Nat):Int),(0:Int))))))))).bind fun x0 =>
 some x0
noncomputable def PG:Ent:=⟨KA,fun x=>Cs x.1 x.2.1 x.2.2.1 x.2.2.2⟩
noncomputable def QJ:TX:=⟨tyTab,codTab,[],[4],[QL,T5],KA⟩
set_option maxHeartbeats 2000000 in
theorem ZN (a0:List ((((Bool×List (Int))×(Bool×List (Int)))×((Bool×List (Int))×(Bool×List (Int)))))) (a1:Bool) (a2:(Bool×List (Int)×Bool×List (Int))) (a3:Bool):wtF QJ Tryz.f175 (a0,a1,a2,a3)=Cs a0 a1 a2 a3:=by kernel_rfl
theorem WO:EntOK RR PG:=Ab (X:=QJ) ⟨tyOK,boolOK,eqOK⟩ (Ad (by exact ⟨⟨WM,rfl⟩,⟨⟨Zc,rfl⟩,trivial⟩⟩)) (Ae (by kernel_rfl)) ⟨Tryz.func175,rfl,by kernel_rfl,rfl⟩ (fun x=>by exact ZN x.1 x.2.1 x.2.2.1 x.2.2.2)
noncomputable def Hu (a0:(List (((Bool×(List Int))×(Bool×(List Int)))×((Bool×(List Int))×(Bool×(List Int)))))) (a1:(Bool×((List Int)×(Bool×((List Int)×(Bool×((List Int)×(Bool×(List Int))))))))) (a2:(Bool×((List Int)×(Bool×((List Int)×(Bool×((List Int)×(Bool×(List Int))))))))):Option (List ((((Bool×List (Int))×(Bool×List (Int)))×((Bool×List (Int))×(Bool×List (Int)))))) :=
 ((Cs a0 false (a1.1,(a1.2.1,(a1.2.2.1,a1.2.2.2.1))) true)).bind fun x0 =>
 ((Cs x0 false (a2.1,(a2.2.1,(a2.2.2.1,a2.2.2.2.1))) false)).bind fun x1 =>
 ((Cs x1 true (a1.2.2.2.2.1,(a1.2.2.2.2.2.1,(a1.2.2.2.2.2.2.1,a1.2.2.2.2.2.2.2))) true)).bind fun x2 =>
 ((Cs x2 true (a2.2.2.2.2.1,(a2.2.2.2.2.2.1,(a2.2.2.2.2.2.2.1,a2.2.2.2.2.2.2.2))) false)).bind fun x3 =>
 some x3
noncomputable def Tn:Ent:=⟨Mx,fun x=>Hu x.1 x.2.1 x.2.2⟩
noncomputable def R0:TX:=⟨tyTab,codTab,[],[4],[PG],Mx⟩
set_option maxHeartbeats 2000000 in
theorem Ae3 (a0:List ((((Bool×List (Int))×(Bool×List (Int)))×((Bool×List (Int))×(Bool×List (Int)))))) (a1:(Bool×List (Int)×Bool×List (Int)×Bool×List (Int)×Bool×List (Int))) (a2:(Bool×List (Int)×Bool×List (Int)×Bool×List (Int)×Bool×List (Int))):wtF R0 Tryz.f87 (a0,a1,a2)=Hu a0 a1 a2:=by kernel_rfl
theorem Yq:EntOK RR Tn:=Ab (X:=R0) ⟨tyOK,boolOK,eqOK⟩ (Ad (by exact ⟨⟨WO,rfl⟩,trivial⟩)) (Ae (by kernel_rfl)) ⟨Tryz.func87,rfl,by kernel_rfl,rfl⟩ (fun x=>by exact Ae3 x.1 x.2.1 x.2.2)
noncomputable def Fb (a0:(Bool×((List Int)×(Bool×(List Int))))):Option ((Bool×List (Int)×Bool×List (Int))×Bool) :=
 bif decide ((((List.length a0.2.1):Nat):Int)>(40:Int)) then
  some ((false,((List.nil:List Int),(false,(List.nil:List Int)))),false)
 else
 bif decide ((((List.length a0.2.2.2):Nat):Int)>(40:Int)) then
  some ((false,((List.nil:List Int),(false,(List.nil:List Int)))),false)
 else
 ((AH a0.1 a0.2.1)).bind fun x0 =>
 ((AH false a0.2.2.2)).bind fun x1 =>
 some ((x0.2,(x0.1,(x1.2,x1.1))),true)
noncomputable def S7:Ent:=⟨Mi,fun x=>Fb x⟩
noncomputable def Sk:TX:=⟨tyTab,codTab,[],[4],[CA],Mi⟩
set_option maxHeartbeats 2000000 in
theorem Ah0 (a0:(Bool×List (Int)×Bool×List (Int))):wtF Sk Tryz.f127 (a0)=Fb a0:=by kernel_rfl
theorem Zd:EntOK RR S7:=Ab (X:=Sk) ⟨tyOK,boolOK,eqOK⟩ (Ad (by exact ⟨⟨Cu,rfl⟩,trivial⟩)) (Ae (by kernel_rfl)) ⟨Tryz.func127,rfl,by kernel_rfl,rfl⟩ (fun x=>by exact Ah0 x)
noncomputable def FL (a0:(Bool×((List Int)×(Bool×((List Int)×(Bool×((List Int)×(Bool×(List Int))))))))):Option ((Bool×List (Int)×Bool×List (Int)×Bool×List (Int)×Bool×List (Int))×Bool) :=
 ((Fb (a0.1,(a0.2.1,(a0.2.2.1,a0.2.2.2.1))))).bind fun x0 =>
 ((Fb (a0.2.2.2.2.1,(a0.2.2.2.2.2.1,(a0.2.2.2.2.2.2.1,a0.2.2.2.2.2.2.2))))).bind fun x1 =>
 bif (!x0.2) then
  some ((false,((List.nil:List Int),(false,((List.nil:List Int),(false,((List.nil:List Int),(false,(List.nil:List Int)))))))),false)
 else
 bif (!x1.2) then
  some ((false,((List.nil:List Int),(false,((List.nil:List Int),(false,((List.nil:List Int),(false,(List.nil:List Int)))))))),false)
 else
 some ((x0.1.1,(x0.1.2.1,(x0.1.2.2.1,(x0.1.2.2.2,(x1.1.1,(x1.1.2.1,(x1.1.2.2.1,x1.1.2.2.2))))))),true)
noncomputable def P8:Ent:=⟨KH,fun x=>FL x⟩
noncomputable def Qj:TX:=⟨tyTab,codTab,[],[4],[S7],KH⟩
set_option maxHeartbeats 2000000 in
theorem YN (a0:(Bool×List (Int)×Bool×List (Int)×Bool×List (Int)×Bool×List (Int))):wtF Qj Tryz.f115 (a0)=FL a0:=by kernel_rfl
theorem Xv:EntOK RR P8:=Ab (X:=Qj) ⟨tyOK,boolOK,eqOK⟩ (Ad (by exact ⟨⟨Zd,rfl⟩,trivial⟩)) (Ae (by kernel_rfl)) ⟨Tryz.func115,rfl,by kernel_rfl,rfl⟩ (fun x=>by exact YN x)
noncomputable def CB (s0:(List (((Bool×(List Int))×(Bool×(List Int)))×((Bool×(List Int))×(Bool×(List Int)))))) (s1:(List (((Bool×(List Int))×(Bool×(List Int)))×((Bool×(List Int))×(Bool×(List Int)))))) (s2:Int) (s3:Int):Option (((List (((Bool×(List Int))×(Bool×(List Int)))×((Bool×(List Int))×(Bool×(List Int)))))×((List (((Bool×(List Int))×(Bool×(List Int)))×((Bool×(List Int))×(Bool×(List Int)))))×(Int×Int))) ⊕ ((List (((Bool×(List Int))×(Bool×(List Int)))×((Bool×(List Int))×(Bool×(List Int))))) ⊕ ((List (((Bool×(List Int))×(Bool×(List Int)))×((Bool×(List Int))×(Bool×(List Int)))))×Bool))) :=
 bif decide (s3<s2) then
  ((getI s1 s3)).bind fun x0 =>
  ((FL (x0.1.1.1,(x0.1.1.2,(x0.1.2.1,(x0.1.2.2,(x0.2.1.1,(x0.2.1.2,(x0.2.2.1,x0.2.2.2))))))))).bind fun x1 =>
  bif (!x1.2) then
   some (Sum.inr (Sum.inr ((List.nil:List (((Bool×(List Int))×(Bool×(List Int)))×((Bool×(List Int))×(Bool×(List Int))))),false)))
  else
  ((appL 128 8 s0 (List.cons (((x1.1.1,x1.1.2.1),(x1.1.2.2.1,x1.1.2.2.2.1)),((x1.1.2.2.2.2.1,x1.1.2.2.2.2.2.1),(x1.1.2.2.2.2.2.2.1,x1.1.2.2.2.2.2.2.2))) (List.nil:List (((Bool×(List Int))×(Bool×(List Int)))×((Bool×(List Int))×(Bool×(List Int)))))))).bind fun x2 =>
  some (Sum.inl (x2,(s1,(s2,(Go.IntKind.wrap Go.IntKind.i64 (s3 + (1:Int)))))))
 else
 some (Sum.inr (Sum.inl s0))
noncomputable def Hq (a0:(List (((Bool×(List Int))×(Bool×(List Int)))×((Bool×(List Int))×(Bool×(List Int)))))):Option (List ((((Bool×List (Int))×(Bool×List (Int)))×((Bool×List (Int))×(Bool×List (Int)))))×Bool) :=
 (loopM (fun (s:((List (((Bool×(List Int))×(Bool×(List Int)))×((Bool×(List Int))×(Bool×(List Int)))))×((List (((Bool×(List Int))×(Bool×(List Int)))×((Bool×(List Int))×(Bool×(List Int)))))×(Int×Int))))=>CB s.1 s.2.1 s.2.2.1 s.2.2.2) ((List.nil:List (((Bool×(List Int))×(Bool×(List Int)))×((Bool×(List Int))×(Bool×(List Int))))),(a0,((((List.length a0):Nat):Int),(0:Int))))).bind fun x0 =>
 Sum.elim
  (fun x1 =>
  some (x1,true))
  (fun x2 =>
  some (x2.1,x2.2))
  x0
noncomputable def Sx:Ent:=⟨Mp,fun x=>Hq x⟩
noncomputable def Tp:TX:=⟨tyTab,codTab,[],[4],[P8],Mp⟩
set_option maxHeartbeats 2000000 in
theorem Aa4 (a0:List ((((Bool×List (Int))×(Bool×List (Int)))×((Bool×List (Int))×(Bool×List (Int)))))):wtF Tp Tryz.f112 (a0)=Hq a0:=by kernel_rfl
theorem Yr:EntOK RR Sx:=Ab (X:=Tp) ⟨tyOK,boolOK,eqOK⟩ (Ad (by exact ⟨⟨Xv,rfl⟩,trivial⟩)) (Ae (by kernel_rfl)) ⟨Tryz.func112,rfl,by kernel_rfl,rfl⟩ (fun x=>by exact Aa4 x)
noncomputable def FI (a0:(List (((Bool×(List Int))×(Bool×(List Int)))×((Bool×(List Int))×(Bool×(List Int)))))):Option (List ((((Bool×List (Int))×(Bool×List (Int)))×((Bool×List (Int))×(Bool×List (Int)))))×Bool) :=
 ((Dd a0)).bind fun x0 =>
 bif (!x0) then
  some ((List.nil:List (((Bool×(List Int))×(Bool×(List Int)))×((Bool×(List Int))×(Bool×(List Int))))),false)
 else
 ((Hq a0)).bind fun x1 =>
 some (x1.1,x1.2)
noncomputable def P3:Ent:=⟨JI,fun x=>FI x⟩
noncomputable def Qd:TX:=⟨tyTab,codTab,[],[4],[Jm,Sx],JI⟩
set_option maxHeartbeats 2000000 in
theorem Zq (a0:List ((((Bool×List (Int))×(Bool×List (Int)))×((Bool×List (Int))×(Bool×List (Int)))))):wtF Qd Tryz.f86 (a0)=FI a0:=by kernel_rfl
theorem XO:EntOK RR P3:=Ab (X:=Qd) ⟨tyOK,boolOK,eqOK⟩ (Ad (by exact ⟨⟨LJ,rfl⟩,⟨⟨Yr,rfl⟩,trivial⟩⟩)) (Ae (by kernel_rfl)) ⟨Tryz.func86,rfl,by kernel_rfl,rfl⟩ (fun x=>by exact Zq x)
noncomputable def A1 (a0:(List (((Bool×(List Int))×(Bool×(List Int)))×((Bool×(List Int))×(Bool×(List Int)))))) (a1:(Bool×((List Int)×(Bool×((List Int)×(Bool×((List Int)×(Bool×(List Int))))))))) (a2:(Bool×((List Int)×(Bool×((List Int)×(Bool×((List Int)×(Bool×(List Int))))))))):Option (List ((((Bool×List (Int))×(Bool×List (Int)))×((Bool×List (Int))×(Bool×List (Int)))))×Bool) :=
 ((Dd a0)).bind fun x0 =>
 bif (!x0) then
  some ((List.nil:List (((Bool×(List Int))×(Bool×(List Int)))×((Bool×(List Int))×(Bool×(List Int))))),false)
 else
 ((Gw (a1.1,(a1.2.1,(a1.2.2.1,(a1.2.2.2.1,(a1.2.2.2.2.1,(a1.2.2.2.2.2.1,(a1.2.2.2.2.2.2.1,a1.2.2.2.2.2.2.2))))))))).bind fun x1 =>
 bif (!x1) then
  some ((List.nil:List (((Bool×(List Int))×(Bool×(List Int)))×((Bool×(List Int))×(Bool×(List Int))))),false)
 else
 ((Gw (a2.1,(a2.2.1,(a2.2.2.1,(a2.2.2.2.1,(a2.2.2.2.2.1,(a2.2.2.2.2.2.1,(a2.2.2.2.2.2.2.1,a2.2.2.2.2.2.2.2))))))))).bind fun x2 =>
 bif (!x2) then
  some ((List.nil:List (((Bool×(List Int))×(Bool×(List Int)))×((Bool×(List Int))×(Bool×(List Int))))),false)
 else
 ((E5 (a1.1,(a1.2.1,(a1.2.2.1,a1.2.2.2.1))) (a2.1,(a2.2.1,(a2.2.2.1,a2.2.2.2.1))))).bind fun x3 =>
 bif decide (x3>(0:Int)) then
  some ((List.nil:List (((Bool×(List Int))×(Bool×(List Int)))×((Bool×(List Int))×(Bool×(List Int))))),false)
 else
 ((E5 (a1.2.2.2.2.1,(a1.2.2.2.2.2.1,(a1.2.2.2.2.2.2.1,a1.2.2.2.2.2.2.2))) (a2.2.2.2.2.1,(a2.2.2.2.2.2.1,(a2.2.2.2.2.2.2.1,a2.2.2.2.2.2.2.2))))).bind fun x4 =>
 bif decide (x4>(0:Int)) then
  some ((List.nil:List (((Bool×(List Int))×(Bool×(List Int)))×((Bool×(List Int))×(Bool×(List Int))))),false)
 else
 ((Hu a0 (a1.1,(a1.2.1,(a1.2.2.1,(a1.2.2.2.1,(a1.2.2.2.2.1,(a1.2.2.2.2.2.1,(a1.2.2.2.2.2.2.1,a1.2.2.2.2.2.2.2))))))) (a2.1,(a2.2.1,(a2.2.2.1,(a2.2.2.2.1,(a2.2.2.2.2.1,(a2.2.2.2.2.2.1,(a2.2.2.2.2.2.2.1,a2.2.2.2.2.2.2.2))))))))).bind fun x5 =>
 ((FI x5)).bind fun x6 =>
 some (x6.1,x6.2)
noncomputable def Qv:Ent:=⟨Kz,fun x=>A1 x.1 x.2.1 x.2.2⟩
noncomputable def QA:TX:=⟨tyTab,codTab,[],[4],[Jm,VW,Ps,Tn,P3],Kz⟩
set_option maxHeartbeats 2000000 in
theorem Z4 (a0:List ((((Bool×List (Int))×(Bool×List (Int)))×((Bool×List (Int))×(Bool×List (Int)))))) (a1:(Bool×List (Int)×Bool×List (Int)×Bool×List (Int)×Bool×List (Int))) (a2:(Bool×List (Int)×Bool×List (Int)×Bool×List (Int)×Bool×List (Int))):wtF QA Tryz.f10 (a0,a1,a2)=A1 a0 a1 a2:=by kernel_rfl
theorem XQ:EntOK RR Qv:=Ab (X:=QA) ⟨tyOK,boolOK,eqOK⟩ (Ad (by exact ⟨⟨LJ,rfl⟩,⟨⟨Aa7,rfl⟩,⟨⟨R8,rfl⟩,⟨⟨Yq,rfl⟩,⟨⟨XO,rfl⟩,trivial⟩⟩⟩⟩⟩)) (Ae (by kernel_rfl)) ⟨Tryz.func10,rfl,by kernel_rfl,rfl⟩ (fun x=>by exact Z4 x.1 x.2.1 x.2.2)
noncomputable def EO (s0:(List Int)) (s1:(List Int)) (s2:Int) (s3:Int):Option (((List Int)×((List Int)×(Int×Int))) ⊕ (Unit ⊕ Bool)) :=
 bif decide (s3<s2) then
  ((getI s0 s3)).bind fun x0 =>
  ((getI s1 s3)).bind fun x1 =>
  bif (x0 != x1) then
   some (Sum.inr (Sum.inr false))
  else
  some (Sum.inl (s0,(s1,(s2,(Go.IntKind.wrap Go.IntKind.i64 (s3 + (1:Int)))))))
 else
 some (Sum.inr (Sum.inl ()))
noncomputable def EB (a0:(List Int)) (a1:(List Int)):Option (Bool) :=
 bif ((((List.length a0):Nat):Int) != (((List.length a1):Nat):Int)) then
  some false
 else
 (loopM (fun (s:((List Int)×((List Int)×(Int×Int))))=>EO s.1 s.2.1 s.2.2.1 s.2.2.2) (a0,(a1,((((List.length a0):Nat):Int),(0:Int))))).bind fun x0 =>
 Sum.elim
  (fun x1 =>
  some true)
  (fun x2 =>
  some x2)
  x0
noncomputable def NA:Ent:=⟨IM,fun x=>EB x.1 x.2⟩
noncomputable def NC:TX:=⟨tyTab,codTab,[],[4],[],IM⟩
set_option maxHeartbeats 2000000 in
theorem XC (a0:List (Int)) (a1:List (Int)):wtF NC Tryz.f154 (a0,a1)=EB a0 a1:=by kernel_rfl
theorem UO:EntOK RR NA:=Ab (X:=NC) ⟨tyOK,boolOK,eqOK⟩ (Ad (by exact trivial)) (Ae (by kernel_rfl)) ⟨Tryz.func154,rfl,by kernel_rfl,rfl⟩ (fun x=>by exact XC x.1 x.2)
noncomputable def Em (a0:(Bool×(List Int))) (a1:(Bool×(List Int))):Option (Bool) :=
 bif (a0.1==a1.1) then
  ((EB a0.2 a1.2)).bind fun x0 =>
  some x0
 else
 some false
noncomputable def PK:Ent:=⟨KE,fun x=>Em x.1 x.2⟩
noncomputable def QP:TX:=⟨tyTab,codTab,[],[4],[NA],KE⟩
set_option maxHeartbeats 2000000 in
theorem Z1 (a0:(Bool×List (Int))) (a1:(Bool×List (Int))):wtF QP Tryz.f64 (a0,a1)=Em a0 a1:=by kernel_rfl
theorem WK:EntOK RR PK:=Ab (X:=QP) ⟨tyOK,boolOK,eqOK⟩ (Ad (by exact ⟨⟨UO,rfl⟩,trivial⟩)) (Ae (by kernel_rfl)) ⟨Tryz.func64,rfl,by kernel_rfl,rfl⟩ (fun x=>by exact Z1 x.1 x.2)
noncomputable def A9 (a0:(Bool×((List Int)×(Bool×(List Int))))) (a1:(Bool×((List Int)×(Bool×(List Int))))):Option (Bool) :=
 ((Em (a0.1,a0.2.1) (a1.1,a1.2.1))).bind fun x0 =>
 bif x0 then
  ((Em (a0.2.2.1,a0.2.2.2) (a1.2.2.1,a1.2.2.2))).bind fun x1 =>
  some x1
 else
 some false
noncomputable def Kd:Ent:=⟨KR,fun x=>A9 x.1 x.2⟩
noncomputable def QF:TX:=⟨tyTab,codTab,[],[4],[PK],KR⟩
set_option maxHeartbeats 2000000 in
theorem X9 (a0:(Bool×List (Int)×Bool×List (Int))) (a1:(Bool×List (Int)×Bool×List (Int))):wtF QF Tryz.f15 (a0,a1)=A9 a0 a1:=by kernel_rfl
theorem Ob:EntOK RR Kd:=Ab (X:=QF) ⟨tyOK,boolOK,eqOK⟩ (Ad (by exact ⟨⟨WK,rfl⟩,trivial⟩)) (Ae (by kernel_rfl)) ⟨Tryz.func15,rfl,by kernel_rfl,rfl⟩ (fun x=>by exact X9 x.1 x.2)
noncomputable def BG (s0:(List (((Bool×(List Int))×(Bool×(List Int)))×((Bool×(List Int))×(Bool×(List Int)))))) (s1:(List (((Bool×(List Int))×(Bool×(List Int)))×((Bool×(List Int))×(Bool×(List Int)))))) (s2:Int) (s3:Int):Option (((List (((Bool×(List Int))×(Bool×(List Int)))×((Bool×(List Int))×(Bool×(List Int)))))×((List (((Bool×(List Int))×(Bool×(List Int)))×((Bool×(List Int))×(Bool×(List Int)))))×(Int×Int))) ⊕ (Unit ⊕ Bool)) :=
 bif decide (s3<s2) then
  ((getI s0 s3)).bind fun x0 =>
  ((getI s1 s3)).bind fun x1 =>
  ((A9 (x0.1.1.1,(x0.1.1.2,(x0.1.2.1,x0.1.2.2))) (x1.1.1.1,(x1.1.1.2,(x1.1.2.1,x1.1.2.2))))).bind fun x2 =>
  bif (!x2) then
   some (Sum.inr (Sum.inr false))
  else
  ((getI s0 s3)).bind fun x3 =>
  ((getI s1 s3)).bind fun x4 =>
  ((A9 (x3.2.1.1,(x3.2.1.2,(x3.2.2.1,x3.2.2.2))) (x4.2.1.1,(x4.2.1.2,(x4.2.2.1,x4.2.2.2))))).bind fun x5 =>
  bif (!x5) then
   some (Sum.inr (Sum.inr false))
  else
  some (Sum.inl (s0,(s1,(s2,(Go.IntKind.wrap Go.IntKind.i64 (s3 + (1:Int)))))))
 else
 some (Sum.inr (Sum.inl ()))
noncomputable def AA (a0:(List (((Bool×(List Int))×(Bool×(List Int)))×((Bool×(List Int))×(Bool×(List Int)))))) (a1:(List (((Bool×(List Int))×(Bool×(List Int)))×((Bool×(List Int))×(Bool×(List Int)))))):Option (Bool) :=
 bif ((((List.length a0):Nat):Int) != (((List.length a1):Nat):Int)) then
  some false
 else
 (loopM (fun (s:((List (((Bool×(List Int))×(Bool×(List Int)))×((Bool×(List Int))×(Bool×(List Int)))))×((List (((Bool×(List Int))×(Bool×(List Int)))×((Bool×(List Int))×(Bool×(List Int)))))×(Int×Int))))=>BG s.1 s.2.1 s.2.2.1 s.2.2.2) (a0,(a1,((((List.length a0):Nat):Int),(0:Int))))).bind fun x0 =>
 Sum.elim
  (fun x1 =>
  some true)
  (fun x2 =>
  some x2)
  x0
noncomputable def LY:Ent:=⟨HW,fun x=>AA x.1 x.2⟩
noncomputable def L1:TX:=⟨tyTab,codTab,[],[4],[Kd],HW⟩
set_option maxHeartbeats 2000000 in
theorem UF (a0:List ((((Bool×List (Int))×(Bool×List (Int)))×((Bool×List (Int))×(Bool×List (Int)))))) (a1:List ((((Bool×List (Int))×(Bool×List (Int)))×((Bool×List (Int))×(Bool×List (Int)))))):wtF L1 Tryz.f11 (a0,a1)=AA a0 a1:=by kernel_rfl
theorem SM:EntOK RR LY:=Ab (X:=L1) ⟨tyOK,boolOK,eqOK⟩ (Ad (by exact ⟨⟨Ob,rfl⟩,trivial⟩)) (Ae (by kernel_rfl)) ⟨Tryz.func11,rfl,by kernel_rfl,rfl⟩ (fun x=>by exact UF x.1 x.2)
noncomputable def HA (a0:(Bool×(List Int))) (a1:(Bool×(List Int))):Option ((Bool×List (Int))) :=
 ((C8 (a1.1,a1.2))).bind fun x0 =>
 ((Cw (a0.1,a0.2) (x0.1,x0.2))).bind fun x1 =>
 some (x1.1,x1.2)
noncomputable def QD:Ent:=⟨JU,fun x=>HA x.1 x.2⟩
noncomputable def Qu:TX:=⟨tyTab,codTab,[],[4],[HC,HF],JU⟩
set_option maxHeartbeats 2000000 in
theorem Yg (a0:(Bool×List (Int))) (a1:(Bool×List (Int))):wtF Qu Tryz.f213 (a0,a1)=HA a0 a1:=by kernel_rfl
theorem Xp:EntOK RR QD:=Ab (X:=Qu) ⟨tyOK,boolOK,eqOK⟩ (Ad (by exact ⟨⟨Jd,rfl⟩,⟨⟨Jj,rfl⟩,trivial⟩⟩)) (Ae (by kernel_rfl)) ⟨Tryz.func213,rfl,by kernel_rfl,rfl⟩ (fun x=>by exact Yg x.1 x.2)
noncomputable def Dm (a0:(Bool×(List Int))) (a1:(Bool×(List Int))):Option ((Bool×List (Int))) :=
 ((CY (a0.1,a0.2) (a1.1,a1.2))).bind fun x0 =>
 ((AY (x0.2.1,x0.2.2))).bind fun x1 =>
 bif decide (x1<(0:Int)) then
  ((BB (1:Int))).bind fun x2 =>
  ((HA (x0.1.1,x0.1.2) (x2.1,x2.2))).bind fun x3 =>
  some (x3.1,x3.2)
 else
 some (x0.1.1,x0.1.2)
noncomputable def Ik:Ent:=⟨Fc,fun x=>Dm x.1 x.2⟩
noncomputable def Ii:TX:=⟨tyTab,codTab,[],[4],[KO,Ga,EX,QD],Fc⟩
set_option maxHeartbeats 2000000 in
theorem Pp (a0:(Bool×List (Int))) (a1:(Bool×List (Int))):wtF Ii Tryz.f178 (a0,a1)=Dm a0 a1:=by kernel_rfl
theorem NK:EntOK RR Ik:=Ab (X:=Ii) ⟨tyOK,boolOK,eqOK⟩ (Ad (by exact ⟨⟨Oa,rfl⟩,⟨⟨H0,rfl⟩,⟨⟨EW,rfl⟩,⟨⟨Xp,rfl⟩,trivial⟩⟩⟩⟩)) (Ae (by kernel_rfl)) ⟨Tryz.func178,rfl,by kernel_rfl,rfl⟩ (fun x=>by exact Pp x.1 x.2)
noncomputable def DC (a0:(Bool×((List Int)×(Bool×(List Int))))):Option ((Bool×List (Int))) :=
 ((Dm (a0.1,a0.2.1) (a0.2.2.1,a0.2.2.2))).bind fun x0 =>
 some (x0.1,x0.2)
noncomputable def LX:Ent:=⟨HM,fun x=>DC x⟩
noncomputable def LT:TX:=⟨tyTab,codTab,[],[4],[Ik],HM⟩
set_option maxHeartbeats 2000000 in
theorem UL (a0:(Bool×List (Int)×Bool×List (Int))):wtF LT Tryz.f90 (a0)=DC a0:=by kernel_rfl
theorem RO:EntOK RR LX:=Ab (X:=LT) ⟨tyOK,boolOK,eqOK⟩ (Ad (by exact ⟨⟨NK,rfl⟩,trivial⟩)) (Ae (by kernel_rfl)) ⟨Tryz.func90,rfl,by kernel_rfl,rfl⟩ (fun x=>by exact UL x)
noncomputable def It (a0:(Bool×(List Int))):Option ((Bool×List (Int)×Bool×List (Int))) :=
 ((AL a0.1 a0.2)).bind fun x0 =>
 ((BB (1:Int))).bind fun x1 =>
 some (x0.2,(x0.1,(x1.1,x1.2)))
noncomputable def VS:Ent:=⟨OW,fun x=>It x⟩
noncomputable def U7:TX:=⟨tyTab,codTab,[],[4],[CN,EX],OW⟩
set_option maxHeartbeats 2000000 in
theorem Aq9 (a0:(Bool×List (Int))):wtF U7 Tryz.f89 (a0)=It a0:=by kernel_rfl
theorem Ae0:EntOK RR VS:=Ab (X:=U7) ⟨tyOK,boolOK,eqOK⟩ (Ad (by exact ⟨⟨CD,rfl⟩,⟨⟨EW,rfl⟩,trivial⟩⟩)) (Ae (by kernel_rfl)) ⟨Tryz.func89,rfl,by kernel_rfl,rfl⟩ (fun x=>by exact Aq9 x)
noncomputable def Bw (a0:(Bool×((List Int)×(Bool×(List Int))))):Option ((Bool×List (Int)×Bool×List (Int))×Bool) :=
 ((A4 (a0.1,(a0.2.1,(a0.2.2.1,a0.2.2.2))) (40:Int))).bind fun x0 =>
 bif (!x0) then
  some ((false,((List.nil:List Int),(false,(List.nil:List Int)))),false)
 else
 some ((a0.1,(a0.2.1,(a0.2.2.1,a0.2.2.2))),true)
noncomputable def Er:Ent:=⟨Hh,fun x=>Bw x⟩
noncomputable def KM:TX:=⟨tyTab,codTab,[],[4],[FN],Hh⟩
set_option maxHeartbeats 2000000 in
theorem S5 (a0:(Bool×List (Int)×Bool×List (Int))):wtF KM Tryz.f93 (a0)=Bw a0:=by kernel_rfl
theorem FP:EntOK RR Er:=Ab (X:=KM) ⟨tyOK,boolOK,eqOK⟩ (Ad (by exact ⟨⟨ID,rfl⟩,trivial⟩)) (Ae (by kernel_rfl)) ⟨Tryz.func93,rfl,by kernel_rfl,rfl⟩ (fun x=>by exact S5 x)
noncomputable def Bn (s0:(Bool×((List Int)×(Bool×(List Int))))) (s1:(Bool×((List Int)×(Bool×(List Int))))) (s2:(Bool×((List Int)×(Bool×(List Int))))) (s3:(Bool×((List Int)×(Bool×(List Int))))) (s4:(Bool×((List Int)×(Bool×(List Int))))) (s5:Int):Option (((Bool×((List Int)×(Bool×(List Int))))×((Bool×((List Int)×(Bool×(List Int))))×((Bool×((List Int)×(Bool×(List Int))))×((Bool×((List Int)×(Bool×(List Int))))×((Bool×((List Int)×(Bool×(List Int))))×Int))))) ⊕ ((Bool×((List Int)×(Bool×(List Int)))) ⊕ ((Bool×((List Int)×(Bool×(List Int))))×Bool))) :=
 bif decide (s5<(200:Int)) then
  ((Cw (s3.1,s3.2.1) (s4.1,s4.2.1))).bind fun x0 =>
  ((Cw (s3.2.2.1,s3.2.2.2) (s4.2.2.1,s4.2.2.2))).bind fun x1 =>
  ((Ds (x0.1,x0.2) (x1.1,x1.2))).bind fun x2 =>
  ((A5 (s0.1,(s0.2.1,(s0.2.2.1,s0.2.2.2))) (x2.1,(x2.2.1,(x2.2.2.1,x2.2.2.2))))).bind fun x3 =>
  bif (!x3) then
   some (Sum.inl ((s0.1,(s0.2.1,(s0.2.2.1,s0.2.2.2))),((s1.1,(s1.2.1,(s1.2.2.1,s1.2.2.2))),((s2.1,(s2.2.1,(s2.2.2.1,s2.2.2.2))),((x2.1,(x2.2.1,(x2.2.2.1,x2.2.2.2))),((s4.1,(s4.2.1,(s4.2.2.1,s4.2.2.2))),(Go.IntKind.wrap Go.IntKind.i64 (s5 + (1:Int)))))))))
  else
  ((A5 (x2.1,(x2.2.1,(x2.2.2.1,x2.2.2.2))) (s1.1,(s1.2.1,(s1.2.2.1,s1.2.2.2))))).bind fun x4 =>
  bif (!x4) then
   some (Sum.inl ((s0.1,(s0.2.1,(s0.2.2.1,s0.2.2.2))),((s1.1,(s1.2.1,(s1.2.2.1,s1.2.2.2))),((s2.1,(s2.2.1,(s2.2.2.1,s2.2.2.2))),((s3.1,(s3.2.1,(s3.2.2.1,s3.2.2.2))),((x2.1,(x2.2.1,(x2.2.2.1,x2.2.2.2))),(Go.IntKind.wrap Go.IntKind.i64 (s5 + (1:Int)))))))))
  else
  ((Bw (x2.1,(x2.2.1,(x2.2.2.1,x2.2.2.2))))).bind fun x5 =>
  some (Sum.inr (Sum.inr ((x5.1.1,(x5.1.2.1,(x5.1.2.2.1,x5.1.2.2.2))),x5.2)))
 else
 some (Sum.inr (Sum.inl (s2.1,(s2.2.1,(s2.2.2.1,s2.2.2.2)))))
noncomputable def Ce (a0:(Bool×((List Int)×(Bool×(List Int))))) (a1:(Bool×((List Int)×(Bool×(List Int))))):Option ((Bool×List (Int)×Bool×List (Int))×Bool) :=
 ((Bx (List.cons ((a0.1,a0.2.1),(a0.2.2.1,a0.2.2.2)) (List.cons ((a1.1,a1.2.1),(a1.2.2.1,a1.2.2.2)) (List.nil:List ((Bool×(List Int))×(Bool×(List Int)))))))).bind fun x0 =>
 bif (!x0) then
  some ((false,((List.nil:List Int),(false,(List.nil:List Int)))),false)
 else
 ((A5 (a0.1,(a0.2.1,(a0.2.2.1,a0.2.2.2))) (a1.1,(a1.2.1,(a1.2.2.1,a1.2.2.2))))).bind fun x1 =>
 bif (!x1) then
  some ((false,((List.nil:List Int),(false,(List.nil:List Int)))),false)
 else
 ((DC (a0.1,(a0.2.1,(a0.2.2.1,a0.2.2.2))))).bind fun x2 =>
 ((It (x2.1,x2.2))).bind fun x3 =>
 ((BC (1:Int))).bind fun x4 =>
 ((BJ (x3.1,(x3.2.1,(x3.2.2.1,x3.2.2.2))) (x4.1,(x4.2.1,(x4.2.2.1,x4.2.2.2))))).bind fun x5 =>
 ((A5 (x5.1,(x5.2.1,(x5.2.2.1,x5.2.2.2))) (a1.1,(a1.2.1,(a1.2.2.1,a1.2.2.2))))).bind fun x6 =>
 bif x6 then
  ((Bw (x5.1,(x5.2.1,(x5.2.2.1,x5.2.2.2))))).bind fun x7 =>
  some ((x7.1.1,(x7.1.2.1,(x7.1.2.2.1,x7.1.2.2.2))),x7.2)
 else
 (loopM (fun (s:((Bool×((List Int)×(Bool×(List Int))))×((Bool×((List Int)×(Bool×(List Int))))×((Bool×((List Int)×(Bool×(List Int))))×((Bool×((List Int)×(Bool×(List Int))))×((Bool×((List Int)×(Bool×(List Int))))×Int))))))=>Bn s.1 s.2.1 s.2.2.1 s.2.2.2.1 s.2.2.2.2.1 s.2.2.2.2.2) ((a0.1,(a0.2.1,(a0.2.2.1,a0.2.2.2))),((a1.1,(a1.2.1,(a1.2.2.1,a1.2.2.2))),((false,((List.nil:List Int),(false,(List.nil:List Int)))),((x3.1,(x3.2.1,(x3.2.2.1,x3.2.2.2))),((x5.1,(x5.2.1,(x5.2.2.1,x5.2.2.2))),(0:Int))))))).bind fun x8 =>
 Sum.elim
  (fun x9 =>
  some ((false,((List.nil:List Int),(false,(List.nil:List Int)))),false))
  (fun x10 =>
  some ((x10.1.1,(x10.1.2.1,(x10.1.2.2.1,x10.1.2.2.2))),x10.2))
  x8
noncomputable def JR:Ent:=⟨Hc,fun x=>Ce x.1 x.2⟩
noncomputable def Kn:TX:=⟨tyTab,codTab,[],[4],[HD,Gi,LX,VS,Gn,D6,Er,HF,Gr],Hc⟩
set_option maxHeartbeats 2000000 in
theorem Ta (a0:(Bool×List (Int)×Bool×List (Int))) (a1:(Bool×List (Int)×Bool×List (Int))):wtF Kn Tryz.f12 (a0,a1)=Ce a0 a1:=by kernel_rfl
theorem QX:EntOK RR JR:=Ab (X:=Kn) ⟨tyOK,boolOK,eqOK⟩ (Ad (by exact ⟨⟨IT,rfl⟩,⟨⟨HY,rfl⟩,⟨⟨RO,rfl⟩,⟨⟨Ae0,rfl⟩,⟨⟨Hr,rfl⟩,⟨⟨Ep,rfl⟩,⟨⟨FP,rfl⟩,⟨⟨Jj,rfl⟩,⟨⟨Hm,rfl⟩,trivial⟩⟩⟩⟩⟩⟩⟩⟩⟩)) (Ae (by kernel_rfl)) ⟨Tryz.func12,rfl,by kernel_rfl,rfl⟩ (fun x=>by exact Ta x.1 x.2)
noncomputable def EM (a0:(Bool×((List Int)×(Bool×(List Int))))):Option ((Bool×List (Int)×Bool×List (Int))) :=
 ((BC (2:Int))).bind fun x0 =>
 ((C0 (a0.1,(a0.2.1,(a0.2.2.1,a0.2.2.2))) (x0.1,(x0.2.1,(x0.2.2.1,x0.2.2.2))))).bind fun x1 =>
 some (x1.1,(x1.2.1,(x1.2.2.1,x1.2.2.2)))
noncomputable def NL:Ent:=⟨IZ,fun x=>EM x⟩
noncomputable def NQ:TX:=⟨tyTab,codTab,[],[4],[Gn,JY],IZ⟩
set_option maxHeartbeats 2000000 in
theorem W3 (a0:(Bool×List (Int)×Bool×List (Int))):wtF NQ Tryz.f126 (a0)=EM a0:=by kernel_rfl
theorem Ux:EntOK RR NL:=Ab (X:=NQ) ⟨tyOK,boolOK,eqOK⟩ (Ad (by exact ⟨⟨Hr,rfl⟩,⟨⟨Ng,rfl⟩,trivial⟩⟩)) (Ae (by kernel_rfl)) ⟨Tryz.func126,rfl,by kernel_rfl,rfl⟩ (fun x=>by exact W3 x)
noncomputable def AU (s0:(Bool×((List Int)×(Bool×(List Int))))) (s1:(Bool×((List Int)×(Bool×(List Int))))) (s2:(List (((Bool×(List Int))×(Bool×(List Int)))×((Bool×(List Int))×(Bool×(List Int)))))) (s3:(List (((Bool×(List Int))×(Bool×(List Int)))×((Bool×(List Int))×(Bool×(List Int)))))) (s4:Int) (s5:Int):Option (((Bool×((List Int)×(Bool×(List Int))))×((Bool×((List Int)×(Bool×(List Int))))×((List (((Bool×(List Int))×(Bool×(List Int)))×((Bool×(List Int))×(Bool×(List Int)))))×((List (((Bool×(List Int))×(Bool×(List Int)))×((Bool×(List Int))×(Bool×(List Int)))))×(Int×Int))))) ⊕ ((Bool×((List Int)×(Bool×(List Int))))×(Bool×((List Int)×(Bool×(List Int)))))) :=
 bif decide (s5<s4) then
  ((getI s3 s5)).bind fun x0 =>
  bif ((((List.length s2):Nat):Int)==(0:Int)) then
   none
  else
  ((getI s2 (Int.tmod (Go.IntKind.wrap Go.IntKind.i64 (s5 + (1:Int))) (((List.length s2):Nat):Int)))).bind fun x1 =>
  ((BK (x0.1.1.1,(x0.1.1.2,(x0.1.2.1,x0.1.2.2))) (x1.2.1.1,(x1.2.1.2,(x1.2.2.1,x1.2.2.2))))).bind fun x2 =>
  ((BK (x1.1.1.1,(x1.1.1.2,(x1.1.2.1,x1.1.2.2))) (x0.2.1.1,(x0.2.1.2,(x0.2.2.1,x0.2.2.2))))).bind fun x3 =>
  ((Ct (x2.1,(x2.2.1,(x2.2.2.1,x2.2.2.2))) (x3.1,(x3.2.1,(x3.2.2.1,x3.2.2.2))))).bind fun x4 =>
  ((BJ (s1.1,(s1.2.1,(s1.2.2.1,s1.2.2.2))) (x4.1,(x4.2.1,(x4.2.2.1,x4.2.2.2))))).bind fun x5 =>
  some (Sum.inl ((s0.1,(s0.2.1,(s0.2.2.1,s0.2.2.2))),((x5.1,(x5.2.1,(x5.2.2.1,x5.2.2.2))),(s2,(s3,(s4,(Go.IntKind.wrap Go.IntKind.i64 (s5 + (1:Int)))))))))
 else
 some (Sum.inr ((s0.1,(s0.2.1,(s0.2.2.1,s0.2.2.2))),(s1.1,(s1.2.1,(s1.2.2.1,s1.2.2.2)))))
noncomputable def EN (a0:(List (((Bool×(List Int))×(Bool×(List Int)))×((Bool×(List Int))×(Bool×(List Int)))))):Option ((Bool×List (Int)×Bool×List (Int))) :=
 ((BC (0:Int))).bind fun x0 =>
 (loopM (fun (s:((Bool×((List Int)×(Bool×(List Int))))×((Bool×((List Int)×(Bool×(List Int))))×((List (((Bool×(List Int))×(Bool×(List Int)))×((Bool×(List Int))×(Bool×(List Int)))))×((List (((Bool×(List Int))×(Bool×(List Int)))×((Bool×(List Int))×(Bool×(List Int)))))×(Int×Int))))))=>AU s.1 s.2.1 s.2.2.1 s.2.2.2.1 s.2.2.2.2.1 s.2.2.2.2.2) ((false,((List.nil:List Int),(false,(List.nil:List Int)))),((x0.1,(x0.2.1,(x0.2.2.1,x0.2.2.2))),(a0,(a0,((((List.length a0):Nat):Int),(0:Int))))))).bind fun x1 =>
 ((EM (x1.2.1,(x1.2.2.1,(x1.2.2.2.1,x1.2.2.2.2))))).bind fun x2 =>
 some (x2.1,(x2.2.1,(x2.2.2.1,x2.2.2.2)))
noncomputable def M8:Ent:=⟨Jl,fun x=>EN x⟩
noncomputable def Nw:TX:=⟨tyTab,codTab,[],[4],[Gn,Ki,HI,D6,NL],Jl⟩
set_option maxHeartbeats 2000000 in
theorem WI (a0:List ((((Bool×List (Int))×(Bool×List (Int)))×((Bool×List (Int))×(Bool×List (Int)))))):wtF Nw Tryz.f96 (a0)=EN a0:=by kernel_rfl
theorem UD:EntOK RR M8:=Ab (X:=Nw) ⟨tyOK,boolOK,eqOK⟩ (Ad (by exact ⟨⟨Hr,rfl⟩,⟨⟨NJ,rfl⟩,⟨⟨I7,rfl⟩,⟨⟨Ep,rfl⟩,⟨⟨Ux,rfl⟩,trivial⟩⟩⟩⟩⟩)) (Ae (by kernel_rfl)) ⟨Tryz.func96,rfl,by kernel_rfl,rfl⟩ (fun x=>by exact WI x)
noncomputable def A3 (a0:(List (((Bool×(List Int))×(Bool×(List Int)))×((Bool×(List Int))×(Bool×(List Int)))))):Option ((Bool×List (Int)×Bool×List (Int))×Bool) :=
 ((CE a0)).bind fun x0 =>
 bif (!x0) then
  some ((false,((List.nil:List Int),(false,(List.nil:List Int)))),false)
 else
 ((EN a0)).bind fun x1 =>
 ((Bw (x1.1,(x1.2.1,(x1.2.2.1,x1.2.2.2))))).bind fun x2 =>
 some ((x2.1.1,(x2.1.2.1,(x2.1.2.2.1,x2.1.2.2.2))),x2.2)
noncomputable def NI:Ent:=⟨I2,fun x=>A3 x⟩
noncomputable def NH:TX:=⟨tyTab,codTab,[],[4],[Gf,M8,Er],I2⟩
set_option maxHeartbeats 2000000 in
theorem XU (a0:List ((((Bool×List (Int))×(Bool×List (Int)))×((Bool×List (Int))×(Bool×List (Int)))))):wtF NH Tryz.f13 (a0)=A3 a0:=by kernel_rfl
theorem UG:EntOK RR NI:=Ab (X:=NH) ⟨tyOK,boolOK,eqOK⟩ (Ad (by exact ⟨⟨HQ,rfl⟩,⟨⟨UD,rfl⟩,⟨⟨FP,rfl⟩,trivial⟩⟩⟩)) (Ae (by kernel_rfl)) ⟨Tryz.func13,rfl,by kernel_rfl,rfl⟩ (fun x=>by exact XU x)
noncomputable def Cy (a0:(Bool×((List Int)×(Bool×(List Int))))) (a1:(Bool×((List Int)×(Bool×(List Int))))):Option ((Bool×List (Int)×Bool×List (Int))×Bool) :=
 ((Bx (List.cons ((a0.1,a0.2.1),(a0.2.2.1,a0.2.2.2)) (List.cons ((a1.1,a1.2.1),(a1.2.2.1,a1.2.2.2)) (List.nil:List ((Bool×(List Int))×(Bool×(List Int)))))))).bind fun x0 =>
 bif (!x0) then
  some ((false,((List.nil:List Int),(false,(List.nil:List Int)))),false)
 else
 ((BJ (a0.1,(a0.2.1,(a0.2.2.1,a0.2.2.2))) (a1.1,(a1.2.1,(a1.2.2.1,a1.2.2.2))))).bind fun x1 =>
 ((Bw (x1.1,(x1.2.1,(x1.2.2.1,x1.2.2.2))))).bind fun x2 =>
 some ((x2.1.1,(x2.1.2.1,(x2.1.2.2.1,x2.1.2.2.2))),x2.2)
noncomputable def Ud:Ent:=⟨Mq,fun x=>Cy x.1 x.2⟩
noncomputable def TA:TX:=⟨tyTab,codTab,[],[4],[HD,D6,Er],Mq⟩
set_option maxHeartbeats 2000000 in
theorem Ac5 (a0:(Bool×List (Int)×Bool×List (Int))) (a1:(Bool×List (Int)×Bool×List (Int))):wtF TA Tryz.f14 (a0,a1)=Cy a0 a1:=by kernel_rfl
theorem YZ:EntOK RR Ud:=Ab (X:=TA) ⟨tyOK,boolOK,eqOK⟩ (Ad (by exact ⟨⟨IT,rfl⟩,⟨⟨Ep,rfl⟩,⟨⟨FP,rfl⟩,trivial⟩⟩⟩)) (Ae (by kernel_rfl)) ⟨Tryz.func14,rfl,by kernel_rfl,rfl⟩ (fun x=>by exact Ac5 x.1 x.2)
noncomputable def Cg (a0:(List Int)):Option (List ((Int×Int))) :=
 ((CQ (a0,((0:Int),(0:Int))))).bind fun x0 =>
 some x0.2
noncomputable def KQ:Ent:=⟨G8,fun x=>Cg x⟩
noncomputable def JW:TX:=⟨tyTab,codTab,[],[4],[HO],G8⟩
set_option maxHeartbeats 2000000 in
theorem RD (a0:List (Int)):wtF JW Tryz.f16 (a0)=Cg a0:=by kernel_rfl
theorem QZ:EntOK RR KQ:=Ab (X:=JW) ⟨tyOK,boolOK,eqOK⟩ (Ad (by exact ⟨⟨JS,rfl⟩,trivial⟩)) (Ae (by kernel_rfl)) ⟨Tryz.func16,rfl,by kernel_rfl,rfl⟩ (fun x=>by exact RD x)
noncomputable def GU (a0:(Int×Int)):Option (Bool) :=
 ((BE a0.1 (-(1000:Int)) (1000:Int))).bind fun x0 =>
 bif x0 then
  ((BE a0.2 (-(1000:Int)) (1000:Int))).bind fun x1 =>
  some x1
 else
 some false
noncomputable def RG:Ent:=⟨MM,fun x=>GU x⟩
noncomputable def RN:TX:=⟨tyTab,codTab,[],[4],[Hv],MM⟩
set_option maxHeartbeats 2000000 in
theorem Aj1 (a0:(Int×Int)):wtF RN Tryz.f201 (a0)=GU a0:=by kernel_rfl
theorem Ya:EntOK RR RG:=Ab (X:=RN) ⟨tyOK,boolOK,eqOK⟩ (Ad (by exact ⟨⟨HG,rfl⟩,trivial⟩)) (Ae (by kernel_rfl)) ⟨Tryz.func201,rfl,by kernel_rfl,rfl⟩ (fun x=>by exact Aj1 x)
noncomputable def EA (a0:(Int×Int)):Option (Bool) :=
 ((GU (a0.1,a0.2))).bind fun x0 =>
 some (!x0)
noncomputable def Oe:Ent:=⟨Jb,fun x=>EA x⟩
noncomputable def Nh:TX:=⟨tyTab,codTab,[],[4],[RG],Jb⟩
set_option maxHeartbeats 2000000 in
theorem WX (a0:(Int×Int)):wtF Nh Tryz.f200 (a0)=EA a0:=by kernel_rfl
theorem UK:EntOK RR Oe:=Ab (X:=Nh) ⟨tyOK,boolOK,eqOK⟩ (Ad (by exact ⟨⟨Ya,rfl⟩,trivial⟩)) (Ae (by kernel_rfl)) ⟨Tryz.func200,rfl,by kernel_rfl,rfl⟩ (fun x=>by exact WX x)
noncomputable def Ax (s0:(List (Int×Int))) (s1:Int) (s2:Int):Option (((List (Int×Int))×(Int×Int)) ⊕ (Unit ⊕ Int)) :=
 bif decide (s2<s1) then
  ((getI s0 s2)).bind fun x0 =>
  ((EA (x0.1,x0.2))).bind fun x1 =>
  bif x1 then
   some (Sum.inr (Sum.inr s2))
  else
  some (Sum.inl (s0,(s1,(Go.IntKind.wrap Go.IntKind.i64 (s2 + (1:Int))))))
 else
 some (Sum.inr (Sum.inl ()))
noncomputable def A0 (a0:(List (Int×Int))):Option (Int) :=
 (loopM (fun (s:((List (Int×Int))×(Int×Int)))=>Ax s.1 s.2.1 s.2.2) (a0,((((List.length a0):Nat):Int),(0:Int)))).bind fun x0 =>
 Sum.elim
  (fun x1 =>
  some (-(1:Int)))
  (fun x2 =>
  some x2)
  x0
noncomputable def Cx:Ent:=⟨BA,fun x=>A0 x⟩
noncomputable def Cv:TX:=⟨tyTab,codTab,[],[4],[Oe],BA⟩
set_option maxHeartbeats 2000000 in
theorem Fy (a0:List ((Int×Int))):wtF Cv Tryz.f250 (a0)=A0 a0:=by kernel_rfl
theorem E4:EntOK RR Cx:=Ab (X:=Cv) ⟨tyOK,boolOK,eqOK⟩ (Ad (by exact ⟨⟨UK,rfl⟩,trivial⟩)) (Ae (by kernel_rfl)) ⟨Tryz.func250,rfl,by kernel_rfl,rfl⟩ (fun x=>by exact Fy x)
noncomputable def AN (a0:(List (Int×Int))):Option (Bool) :=
 ((A0 a0)).bind fun x0 =>
 some (decide (x0≥(0:Int)))
noncomputable def B0:Ent:=⟨Bh,fun x=>AN x⟩
noncomputable def B2:TX:=⟨tyTab,codTab,[],[4],[Cx],Bh⟩
set_option maxHeartbeats 2000000 in
theorem ER (a0:List ((Int×Int))):wtF B2 Tryz.f199 (a0)=AN a0:=by kernel_rfl
theorem En:EntOK RR B0:=Ab (X:=B2) ⟨tyOK,boolOK,eqOK⟩ (Ad (by exact ⟨⟨E4,rfl⟩,trivial⟩)) (Ae (by kernel_rfl)) ⟨Tryz.func199,rfl,by kernel_rfl,rfl⟩ (fun x=>by exact ER x)
noncomputable def GX (a0:(List (Int×Int))):Option (Bool) :=
 ((AN a0)).bind fun x0 =>
 some (!x0)
noncomputable def RL:Ent:=⟨MB,fun x=>GX x⟩
noncomputable def RX:TX:=⟨tyTab,codTab,[],[4],[B0],MB⟩
set_option maxHeartbeats 2000000 in
theorem Af4 (a0:List ((Int×Int))):wtF RX Tryz.f133 (a0)=GX a0:=by kernel_rfl
theorem XV:EntOK RR RL:=Ab (X:=RX) ⟨tyOK,boolOK,eqOK⟩ (Ad (by exact ⟨⟨En,rfl⟩,trivial⟩)) (Ae (by kernel_rfl)) ⟨Tryz.func133,rfl,by kernel_rfl,rfl⟩ (fun x=>by exact Af4 x)
noncomputable def Gj (a0:(List (Int×Int))):Option (Bool) :=
 ((BE (((List.length a0):Nat):Int) (3:Int) (12:Int))).bind fun x0 =>
 bif x0 then
  ((GX a0)).bind fun x1 =>
  some x1
 else
 some false
noncomputable def Og:Ent:=⟨On,fun x=>Gj x⟩
noncomputable def VU:TX:=⟨tyTab,codTab,[],[4],[Hv,RL],On⟩
set_option maxHeartbeats 2000000 in
theorem At1 (a0:List ((Int×Int))):wtF VU Tryz.f98 (a0)=Gj a0:=by kernel_rfl
theorem RW:EntOK RR Og:=Ab (X:=VU) ⟨tyOK,boolOK,eqOK⟩ (Ad (by exact ⟨⟨HG,rfl⟩,⟨⟨XV,rfl⟩,trivial⟩⟩)) (Ae (by kernel_rfl)) ⟨Tryz.func98,rfl,by kernel_rfl,rfl⟩ (fun x=>by exact At1 x)
noncomputable def BZ (s0:(List (((Bool×(List Int))×(Bool×(List Int)))×((Bool×(List Int))×(Bool×(List Int)))))) (s1:(List (Int×Int))) (s2:Int) (s3:Int):Option (((List (((Bool×(List Int))×(Bool×(List Int)))×((Bool×(List Int))×(Bool×(List Int)))))×((List (Int×Int))×(Int×Int))) ⊕ (List (((Bool×(List Int))×(Bool×(List Int)))×((Bool×(List Int))×(Bool×(List Int)))))) :=
 bif decide (s3<s2) then
  ((getI s1 s3)).bind fun x0 =>
  ((BC x0.1)).bind fun x1 =>
  ((BC x0.2)).bind fun x2 =>
  ((appL 128 8 s0 (List.cons (((x1.1,x1.2.1),(x1.2.2.1,x1.2.2.2)),((x2.1,x2.2.1),(x2.2.2.1,x2.2.2.2))) (List.nil:List (((Bool×(List Int))×(Bool×(List Int)))×((Bool×(List Int))×(Bool×(List Int)))))))).bind fun x3 =>
  some (Sum.inl (x3,(s1,(s2,(Go.IntKind.wrap Go.IntKind.i64 (s3 + (1:Int)))))))
 else
 some (Sum.inr s0)
noncomputable def Ha (a0:(List (Int×Int))):Option (List ((((Bool×List (Int))×(Bool×List (Int)))×((Bool×List (Int))×(Bool×List (Int)))))) :=
 (loopM (fun (s:((List (((Bool×(List Int))×(Bool×(List Int)))×((Bool×(List Int))×(Bool×(List Int)))))×((List (Int×Int))×(Int×Int))))=>BZ s.1 s.2.1 s.2.2.1 s.2.2.2) ((List.nil:List (((Bool×(List Int))×(Bool×(List Int)))×((Bool×(List Int))×(Bool×(List Int))))),(a0,((((List.length a0):Nat):Int),(0:Int))))).bind fun x0 =>
 some x0
noncomputable def T8:Ent:=⟨Mn,fun x=>Ha x⟩
noncomputable def Td:TX:=⟨tyTab,codTab,[],[4],[Gn],Mn⟩
set_option maxHeartbeats 2000000 in
theorem Ag7 (a0:List ((Int×Int))):wtF Td Tryz.f99 (a0)=Ha a0:=by kernel_rfl
theorem Y8:EntOK RR T8:=Ab (X:=Td) ⟨tyOK,boolOK,eqOK⟩ (Ad (by exact ⟨⟨Hr,rfl⟩,trivial⟩)) (Ae (by kernel_rfl)) ⟨Tryz.func99,rfl,by kernel_rfl,rfl⟩ (fun x=>by exact Ag7 x)
noncomputable def DU (a0:(List (Int×Int))):Option (List ((((Bool×List (Int))×(Bool×List (Int)))×((Bool×List (Int))×(Bool×List (Int)))))×Bool) :=
 ((Gj a0)).bind fun x0 =>
 bif (!x0) then
  some ((List.nil:List (((Bool×(List Int))×(Bool×(List Int)))×((Bool×(List Int))×(Bool×(List Int))))),false)
 else
 ((Ha a0)).bind fun x1 =>
 some (x1,true)
noncomputable def T4:Ent:=⟨L8,fun x=>DU x⟩
noncomputable def Uo:TX:=⟨tyTab,codTab,[],[4],[Og,T8],L8⟩
set_option maxHeartbeats 2000000 in
theorem Ab2 (a0:List ((Int×Int))):wtF Uo Tryz.f17 (a0)=DU a0:=by kernel_rfl
theorem ZX:EntOK RR T4:=Ab (X:=Uo) ⟨tyOK,boolOK,eqOK⟩ (Ad (by exact ⟨⟨RW,rfl⟩,⟨⟨Y8,rfl⟩,trivial⟩⟩)) (Ae (by kernel_rfl)) ⟨Tryz.func17,rfl,by kernel_rfl,rfl⟩ (fun x=>by exact Ab2 x)
noncomputable def H4 (a0:(List (Int×Int))) (a1:Int):Option (Int) :=
 bif ((((List.length a0):Nat):Int)==(0:Int)) then
  none
 else
 some (Int.tmod (Go.IntKind.wrap Go.IntKind.i64 (a1 + (1:Int))) (((List.length a0):Nat):Int))
noncomputable def VM:Ent:=⟨Pi,fun x=>H4 x.1 x.2⟩
noncomputable def Ve:TX:=⟨tyTab,codTab,[],[4],[],Pi⟩
set_option maxHeartbeats 2000000 in
theorem Ay7 (a0:List ((Int×Int))) (a1:Int):wtF Ve Tryz.f187 (a0,a1)=H4 a0 a1:=by kernel_rfl
theorem Af9:EntOK RR VM:=Ab (X:=Ve) ⟨tyOK,boolOK,eqOK⟩ (Ad (by exact trivial)) (Ae (by kernel_rfl)) ⟨Tryz.func187,rfl,by kernel_rfl,rfl⟩ (fun x=>by exact Ay7 x.1 x.2)
noncomputable def DN (s0:(List (Int×Int))) (s1:Int) (s2:(List (Int×Int))) (s3:Int) (s4:Int):Option (((List (Int×Int))×(Int×((List (Int×Int))×(Int×Int)))) ⊕ Int) :=
 bif decide (s4<s3) then
  ((getI s2 s4)).bind fun x0 =>
  ((H4 s0 s4)).bind fun x1 =>
  ((getI s0 x1)).bind fun x2 =>
  some (Sum.inl (s0,((Go.IntKind.wrap Go.IntKind.i64 (s1 + (Go.IntKind.wrap Go.IntKind.i64 ((Go.IntKind.wrap Go.IntKind.i64 (x0.1*x2.2))-(Go.IntKind.wrap Go.IntKind.i64 (x2.1*x0.2)))))),(s2,(s3,(Go.IntKind.wrap Go.IntKind.i64 (s4 + (1:Int))))))))
 else
 some (Sum.inr s1)
noncomputable def DK (a0:(List (Int×Int))):Option (Int) :=
 (loopM (fun (s:((List (Int×Int))×(Int×((List (Int×Int))×(Int×Int)))))=>DN s.1 s.2.1 s.2.2.1 s.2.2.2.1 s.2.2.2.2) (a0,((0:Int),(a0,((((List.length a0):Nat):Int),(0:Int)))))).bind fun x0 =>
 some x0
noncomputable def LZ:Ent:=⟨HZ,fun x=>DK x⟩
noncomputable def L2:TX:=⟨tyTab,codTab,[],[4],[VM],HZ⟩
set_option maxHeartbeats 2000000 in
theorem UH (a0:List ((Int×Int))):wtF L2 Tryz.f102 (a0)=DK a0:=by kernel_rfl
theorem R4:EntOK RR LZ:=Ab (X:=L2) ⟨tyOK,boolOK,eqOK⟩ (Ad (by exact ⟨⟨Af9,rfl⟩,trivial⟩)) (Ae (by kernel_rfl)) ⟨Tryz.func102,rfl,by kernel_rfl,rfl⟩ (fun x=>by exact UH x)
noncomputable def CJ (a0:(List (Int×Int))):Option (Int×Bool) :=
 ((Gj a0)).bind fun x0 =>
 bif (!x0) then
  some ((0:Int),false)
 else
 ((DK a0)).bind fun x1 =>
 some (x1,true)
noncomputable def LK:Ent:=⟨HP,fun x=>CJ x⟩
noncomputable def LR:TX:=⟨tyTab,codTab,[],[4],[Og,LZ],HP⟩
set_option maxHeartbeats 2000000 in
theorem Uv (a0:List ((Int×Int))):wtF LR Tryz.f19 (a0)=CJ a0:=by kernel_rfl
theorem TD:EntOK RR LK:=Ab (X:=LR) ⟨tyOK,boolOK,eqOK⟩ (Ad (by exact ⟨⟨RW,rfl⟩,⟨⟨R4,rfl⟩,trivial⟩⟩)) (Ae (by kernel_rfl)) ⟨Tryz.func19,rfl,by kernel_rfl,rfl⟩ (fun x=>by exact Uv x)
noncomputable def Gt (a0:Int) (a1:Int):Option ((Bool×List (Int)×Bool×List (Int))×Bool) :=
 bif (a1==(0:Int)) then
  some ((false,((List.nil:List Int),(false,(List.nil:List Int)))),false)
 else
 ((BE a0 (-(4611686018427387904:Int)) (4611686018427387904:Int))).bind fun x0 =>
 bif (!x0) then
  some ((false,((List.nil:List Int),(false,(List.nil:List Int)))),false)
 else
 ((BE a1 (-(4611686018427387904:Int)) (4611686018427387904:Int))).bind fun x1 =>
 bif (!x1) then
  some ((false,((List.nil:List Int),(false,(List.nil:List Int)))),false)
 else
 ((BB a0)).bind fun x2 =>
 ((BB a1)).bind fun x3 =>
 ((Ds (x2.1,x2.2) (x3.1,x3.2))).bind fun x4 =>
 some ((x4.1,(x4.2.1,(x4.2.2.1,x4.2.2.2))),true)
noncomputable def VK:Ent:=⟨Pa,fun x=>Gt x.1 x.2⟩
noncomputable def Wi:TX:=⟨tyTab,codTab,[],[4],[Hv,EX,Gr],Pa⟩
set_option maxHeartbeats 2000000 in
theorem Az4 (a0:Int) (a1:Int):wtF Wi Tryz.f20 (a0,a1)=Gt a0 a1:=by kernel_rfl
theorem Ad3:EntOK RR VK:=Ab (X:=Wi) ⟨tyOK,boolOK,eqOK⟩ (Ad (by exact ⟨⟨HG,rfl⟩,⟨⟨EW,rfl⟩,⟨⟨Hm,rfl⟩,trivial⟩⟩⟩)) (Ae (by kernel_rfl)) ⟨Tryz.func20,rfl,by kernel_rfl,rfl⟩ (fun x=>by exact Az4 x.1 x.2)
noncomputable def Fx (a0:(List Int)) (a1:(List Int)):Option (Bool) :=
 bif decide ((Go.IntKind.wrap Go.IntKind.i64 ((((List.length a0):Nat):Int) + (((List.length a1):Nat):Int)))>(1048576:Int)) then
  some true
 else
 ((BY a0)).bind fun x0 =>
 ((Ar x0.1 (x0.2.1.1,(x0.2.1.2.1,(x0.2.1.2.2.1,(x0.2.1.2.2.2.1,(x0.2.1.2.2.2.2.1,(x0.2.1.2.2.2.2.2.1,(x0.2.1.2.2.2.2.2.2.1,x0.2.1.2.2.2.2.2.2.2))))))) (x0.2.2.1,(x0.2.2.2.1,(x0.2.2.2.2.1,(x0.2.2.2.2.2.1,(x0.2.2.2.2.2.2.1,(x0.2.2.2.2.2.2.2.1,(x0.2.2.2.2.2.2.2.2.1,x0.2.2.2.2.2.2.2.2.2))))))))).bind fun x1 =>
 ((A1 x0.1 (x0.2.1.1,(x0.2.1.2.1,(x0.2.1.2.2.1,(x0.2.1.2.2.2.1,(x0.2.1.2.2.2.2.1,(x0.2.1.2.2.2.2.2.1,(x0.2.1.2.2.2.2.2.2.1,x0.2.1.2.2.2.2.2.2.2))))))) (x0.2.2.1,(x0.2.2.2.1,(x0.2.2.2.2.1,(x0.2.2.2.2.2.1,(x0.2.2.2.2.2.2.1,(x0.2.2.2.2.2.2.2.1,(x0.2.2.2.2.2.2.2.2.1,x0.2.2.2.2.2.2.2.2.2))))))))).bind fun x2 =>
 bif (!(x1.2==x2.2)) then
  some false
 else
 ((AA x1.1 x2.1)).bind fun x3 =>
 bif (!x3) then
  some false
 else
 (bif x1.2 then
   ((Ce (x0.2.1.1,(x0.2.1.2.1,(x0.2.1.2.2.1,x0.2.1.2.2.2.1))) (x0.2.2.1,(x0.2.2.2.1,(x0.2.2.2.2.1,x0.2.2.2.2.2.1))))).bind fun x4 =>
   (bif x4.2 then
     ((Ar x0.1 (x0.2.1.1,(x0.2.1.2.1,(x0.2.1.2.2.1,(x0.2.1.2.2.2.1,(x0.2.1.2.2.2.2.1,(x0.2.1.2.2.2.2.2.1,(x0.2.1.2.2.2.2.2.2.1,x0.2.1.2.2.2.2.2.2.2))))))) (x4.1.1,(x4.1.2.1,(x4.1.2.2.1,(x4.1.2.2.2,(x0.2.2.2.2.2.2.1,(x0.2.2.2.2.2.2.2.1,(x0.2.2.2.2.2.2.2.2.1,x0.2.2.2.2.2.2.2.2.2))))))))).bind fun x5 =>
     ((Ar x0.1 (x4.1.1,(x4.1.2.1,(x4.1.2.2.1,(x4.1.2.2.2,(x0.2.1.2.2.2.2.1,(x0.2.1.2.2.2.2.2.1,(x0.2.1.2.2.2.2.2.2.1,x0.2.1.2.2.2.2.2.2.2))))))) (x0.2.2.1,(x0.2.2.2.1,(x0.2.2.2.2.1,(x0.2.2.2.2.2.1,(x0.2.2.2.2.2.2.1,(x0.2.2.2.2.2.2.2.1,(x0.2.2.2.2.2.2.2.2.1,x0.2.2.2.2.2.2.2.2.2))))))))).bind fun x6 =>
     bif x5.2 then
      bif x6.2 then
       ((A3 x5.1)).bind fun x7 =>
       ((A3 x6.1)).bind fun x8 =>
       ((Cy (x7.1.1,(x7.1.2.1,(x7.1.2.2.1,x7.1.2.2.2))) (x8.1.1,(x8.1.2.1,(x8.1.2.2.1,x8.1.2.2.2))))).bind fun x9 =>
       ((A3 x1.1)).bind fun x10 =>
       bif x7.2 then
        bif x8.2 then
         bif x9.2 then
          bif x10.2 then
           ((A9 (x9.1.1,(x9.1.2.1,(x9.1.2.2.1,x9.1.2.2.2))) (x10.1.1,(x10.1.2.1,(x10.1.2.2.1,x10.1.2.2.2))))).bind fun x11 =>
           bif (!x11) then
            some (Sum.inl (Sum.inl false))
           else
           some (Sum.inr ((x0.2.1.1,(x0.2.1.2.1,(x0.2.1.2.2.1,(x0.2.1.2.2.2.1,(x0.2.1.2.2.2.2.1,(x0.2.1.2.2.2.2.2.1,(x0.2.1.2.2.2.2.2.2.1,x0.2.1.2.2.2.2.2.2.2))))))),((x0.2.2.1,(x0.2.2.2.1,(x0.2.2.2.2.1,(x0.2.2.2.2.2.1,(x0.2.2.2.2.2.2.1,(x0.2.2.2.2.2.2.2.1,(x0.2.2.2.2.2.2.2.2.1,x0.2.2.2.2.2.2.2.2.2))))))),(a1,x1.1))))
          else
          some (Sum.inr ((x0.2.1.1,(x0.2.1.2.1,(x0.2.1.2.2.1,(x0.2.1.2.2.2.1,(x0.2.1.2.2.2.2.1,(x0.2.1.2.2.2.2.2.1,(x0.2.1.2.2.2.2.2.2.1,x0.2.1.2.2.2.2.2.2.2))))))),((x0.2.2.1,(x0.2.2.2.1,(x0.2.2.2.2.1,(x0.2.2.2.2.2.1,(x0.2.2.2.2.2.2.1,(x0.2.2.2.2.2.2.2.1,(x0.2.2.2.2.2.2.2.2.1,x0.2.2.2.2.2.2.2.2.2))))))),(a1,x1.1))))
         else
         some (Sum.inr ((x0.2.1.1,(x0.2.1.2.1,(x0.2.1.2.2.1,(x0.2.1.2.2.2.1,(x0.2.1.2.2.2.2.1,(x0.2.1.2.2.2.2.2.1,(x0.2.1.2.2.2.2.2.2.1,x0.2.1.2.2.2.2.2.2.2))))))),((x0.2.2.1,(x0.2.2.2.1,(x0.2.2.2.2.1,(x0.2.2.2.2.2.1,(x0.2.2.2.2.2.2.1,(x0.2.2.2.2.2.2.2.1,(x0.2.2.2.2.2.2.2.2.1,x0.2.2.2.2.2.2.2.2.2))))))),(a1,x1.1))))
        else
        some (Sum.inr ((x0.2.1.1,(x0.2.1.2.1,(x0.2.1.2.2.1,(x0.2.1.2.2.2.1,(x0.2.1.2.2.2.2.1,(x0.2.1.2.2.2.2.2.1,(x0.2.1.2.2.2.2.2.2.1,x0.2.1.2.2.2.2.2.2.2))))))),((x0.2.2.1,(x0.2.2.2.1,(x0.2.2.2.2.1,(x0.2.2.2.2.2.1,(x0.2.2.2.2.2.2.1,(x0.2.2.2.2.2.2.2.1,(x0.2.2.2.2.2.2.2.2.1,x0.2.2.2.2.2.2.2.2.2))))))),(a1,x1.1))))
       else
       some (Sum.inr ((x0.2.1.1,(x0.2.1.2.1,(x0.2.1.2.2.1,(x0.2.1.2.2.2.1,(x0.2.1.2.2.2.2.1,(x0.2.1.2.2.2.2.2.1,(x0.2.1.2.2.2.2.2.2.1,x0.2.1.2.2.2.2.2.2.2))))))),((x0.2.2.1,(x0.2.2.2.1,(x0.2.2.2.2.1,(x0.2.2.2.2.2.1,(x0.2.2.2.2.2.2.1,(x0.2.2.2.2.2.2.2.1,(x0.2.2.2.2.2.2.2.2.1,x0.2.2.2.2.2.2.2.2.2))))))),(a1,x1.1))))
      else
      some (Sum.inr ((x0.2.1.1,(x0.2.1.2.1,(x0.2.1.2.2.1,(x0.2.1.2.2.2.1,(x0.2.1.2.2.2.2.1,(x0.2.1.2.2.2.2.2.1,(x0.2.1.2.2.2.2.2.2.1,x0.2.1.2.2.2.2.2.2.2))))))),((x0.2.2.1,(x0.2.2.2.1,(x0.2.2.2.2.1,(x0.2.2.2.2.2.1,(x0.2.2.2.2.2.2.1,(x0.2.2.2.2.2.2.2.1,(x0.2.2.2.2.2.2.2.2.1,x0.2.2.2.2.2.2.2.2.2))))))),(a1,x1.1))))
     else
     some (Sum.inr ((x0.2.1.1,(x0.2.1.2.1,(x0.2.1.2.2.1,(x0.2.1.2.2.2.1,(x0.2.1.2.2.2.2.1,(x0.2.1.2.2.2.2.2.1,(x0.2.1.2.2.2.2.2.2.1,x0.2.1.2.2.2.2.2.2.2))))))),((x0.2.2.1,(x0.2.2.2.1,(x0.2.2.2.2.1,(x0.2.2.2.2.2.1,(x0.2.2.2.2.2.2.1,(x0.2.2.2.2.2.2.2.1,(x0.2.2.2.2.2.2.2.2.1,x0.2.2.2.2.2.2.2.2.2))))))),(a1,x1.1))))
    else
    some (Sum.inr ((x0.2.1.1,(x0.2.1.2.1,(x0.2.1.2.2.1,(x0.2.1.2.2.2.1,(x0.2.1.2.2.2.2.1,(x0.2.1.2.2.2.2.2.1,(x0.2.1.2.2.2.2.2.2.1,x0.2.1.2.2.2.2.2.2.2))))))),((x0.2.2.1,(x0.2.2.2.1,(x0.2.2.2.2.1,(x0.2.2.2.2.2.1,(x0.2.2.2.2.2.2.1,(x0.2.2.2.2.2.2.2.1,(x0.2.2.2.2.2.2.2.2.1,x0.2.2.2.2.2.2.2.2.2))))))),(a1,x1.1))))).bind fun x12 =>
   Sum.elim
    (fun x13 =>
    some x13)
    (fun x14 =>
    ((Ar x14.2.2.2 (x14.1.1,(x14.1.2.1,(x14.1.2.2.1,(x14.1.2.2.2.1,(x14.1.2.2.2.2.1,(x14.1.2.2.2.2.2.1,(x14.1.2.2.2.2.2.2.1,x14.1.2.2.2.2.2.2.2))))))) (x14.2.1.1,(x14.2.1.2.1,(x14.2.1.2.2.1,(x14.2.1.2.2.2.1,(x14.2.1.2.2.2.2.1,(x14.2.1.2.2.2.2.2.1,(x14.2.1.2.2.2.2.2.2.1,x14.2.1.2.2.2.2.2.2.2))))))))).bind fun x15 =>
    bif (!x15.2) then
     some (Sum.inl false)
    else
    ((AA x15.1 x14.2.2.2)).bind fun x16 =>
    bif (!x16) then
     some (Sum.inl false)
    else
    some (Sum.inr x14.2.2.1))
    x12
  else
  some (Sum.inr a1)).bind fun x17 =>
 Sum.elim
  (fun x18 =>
  some x18)
  (fun x19 =>
  ((Cg x19)).bind fun x20 =>
  ((DU x20)).bind fun x21 =>
  ((B8 x20)).bind fun x22 =>
  bif (!(x21.2==x22.2)) then
   some false
  else
  ((AA x21.1 x22.1)).bind fun x23 =>
  bif (!x23) then
   some false
  else
  bif x21.2 then
   ((CJ x20)).bind fun x24 =>
   ((A3 x21.1)).bind fun x25 =>
   ((Gt x24.1 (2:Int))).bind fun x26 =>
   bif x24.2 then
    bif x25.2 then
     bif x26.2 then
      ((A9 (x25.1.1,(x25.1.2.1,(x25.1.2.2.1,x25.1.2.2.2))) (x26.1.1,(x26.1.2.1,(x26.1.2.2.1,x26.1.2.2.2))))).bind fun x27 =>
      some x27
     else
     some false
    else
    some false
   else
   some false
  else
  some true)
  x17
noncomputable def Zl:Ent:=⟨KI,fun x=>Fx x.1 x.2⟩
noncomputable def QK:TX:=⟨tyTab,codTab,[],[4],[Ju,Qf,Qv,LY,JR,NI,Ud,Kd,KQ,T4,MA,LK,VK],KI⟩
set_option maxHeartbeats 2000000 in
theorem Yv (a0:List (Int)) (a1:List (Int)):wtF QK Tryz.f3 (a0,a1)=Fx a0 a1:=by kernel_rfl
theorem XF:EntOK RR Zl:=Ab (X:=QK) ⟨tyOK,boolOK,eqOK⟩ (Ad (by exact ⟨⟨Ph,rfl⟩,⟨⟨Xs,rfl⟩,⟨⟨XQ,rfl⟩,⟨⟨SM,rfl⟩,⟨⟨QX,rfl⟩,⟨⟨UG,rfl⟩,⟨⟨YZ,rfl⟩,⟨⟨Ob,rfl⟩,⟨⟨QZ,rfl⟩,⟨⟨ZX,rfl⟩,⟨⟨PF,rfl⟩,⟨⟨TD,rfl⟩,⟨⟨Ad3,rfl⟩,trivial⟩⟩⟩⟩⟩⟩⟩⟩⟩⟩⟩⟩⟩)) (Ae (by kernel_rfl)) ⟨Tryz.func3,rfl,by kernel_rfl,rfl⟩ (fun x=>by exact Yv x.1 x.2)
end Go.Proofs.YthipdlhknbhiiaaGreat.Ev

end
section
namespace Go.Proofs.YthipdlhknbhiiaaGreat.Ev
open Go
section
variable {α β σ ρ:Type} {body : σ→Option (σ ⊕ ρ)}
theorem H7 {l:List α} (st:Nat→β→σ) (step : β→α→β) (fin : β→ρ) (I:Nat→β→Prop)
  (hgo:∀ k b a,l[k]? = some a→I k b→body (st k b)=some (.inl (st (k + 1) (step b a)))∧I (k + 1) (step b a))
  (hend:∀ b,I l.length b→body (st l.length b)=some (.inr (fin b))) (b : β) (h0:I 0 b) :
  loopM body (st 0 b)=some (fin (l.foldl step b))∧I l.length (l.foldl step b):=by
 have key:∀ (n k:Nat) (b : β),k + n=l.length→I k b→loopM body (st k b)=some (fin ((l.drop k).foldl step b))∧I l.length ((l.drop k).foldl step b):=by
  intro n
  induction n with
  | zero =>
   intro k b hk hI
   have:k=l.length:=by omega
   subst this
   rw[List.drop_length]
   exact ⟨Ap (hend b hI),hI⟩
  | succ n ih =>
   intro k b hk hI
   have hlt:k<l.length:=by omega
   have hd:l.drop k=l[k]::l.drop (k + 1):=List.drop_eq_getElem_cons hlt
   have he:l[k]? = some l[k]:=List.getElem?_eq_getElem hlt
   obtain ⟨h1,h2⟩:=hgo k b _ he hI
   rw[hd,List.foldl_cons,AX h1]
   exact ih (k + 1) _ (by omega) h2
 have:=key l.length 0 b (by omega) h0
 rwa [List.drop_zero] at this
def foldX (step : β→α→ρ ⊕ β) : β→List α→ρ ⊕ β
 | b,[]=>.inr b
 | b,a::l=>match step b a with | .inl r=>.inl r | .inr b'=>foldX step b' l
theorem AE5 {l:List α} (st:Nat→β→σ) (step : β→α→ρ ⊕ β) (fin : β→ρ) (I:Nat→β→Prop)
  (hgo:∀ k b a,l[k]? = some a→I k b→(∃ b',step b a = .inr b'∧body (st k b)=some (.inl (st (k + 1) b'))∧I (k + 1) b')∨∃ r,step b a = .inl r∧body (st k b)=some (.inr r))
  (hend:∀ b,I l.length b→body (st l.length b)=some (.inr (fin b))) (b : β) (h0:I 0 b) :
  loopM body (st 0 b)=some (Sum.elim id fin (foldX step b l))∧∀ b',foldX step b l = .inr b'→I l.length b':=by
 have key:∀ (n k:Nat) (b : β),k + n=l.length→I k b→loopM body (st k b)=some (Sum.elim id fin (foldX step b (l.drop k)))∧∀ b',foldX step b (l.drop k) = .inr b'→I l.length b':=by
  intro n
  induction n with
  | zero =>
   intro k b hk hI
   have:k=l.length:=by omega
   subst this
   rw[List.drop_length]
   exact ⟨Ap (hend b hI),fun b' h=>by cases h; exact hI⟩
  | succ n ih =>
   intro k b hk hI
   have hlt:k<l.length:=by omega
   have hd:l.drop k=l[k]::l.drop (k + 1):=List.drop_eq_getElem_cons hlt
   have he:l[k]? = some l[k]:=List.getElem?_eq_getElem hlt
   rw[hd]
   unfold foldX
   rcases hgo k b _ he hI with ⟨b',h1,h2,h3⟩ | ⟨r,h1,h2⟩
   ·rw[h1,AX h2]
    exact ih (k + 1) _ (by omega) h3
   ·rw[h1]
    exact ⟨Ap h2,fun b' h=>by cases h⟩
 have:=key l.length 0 b (by omega) h0
 rwa [List.drop_zero] at this
theorem Ig (st:Nat→β→σ) (fin : β→ρ) (I:Nat→β→Prop)
  (hgo:∀ n b,I (n + 1) b→∃ b',body (st (n + 1) b)=some (.inl (st n b'))∧I n b')
  (hend:∀ b,I 0 b→body (st 0 b)=some (.inr (fin b))):∀ n b,I n b→∃ b',loopM body (st n b)=some (fin b')∧I 0 b':=by
 intro n
 induction n with
 | zero=>intro b h; exact ⟨b,Ap (hend b h),h⟩
 | succ n ih =>
  intro b h
  obtain ⟨b1,h1,h2⟩:=hgo n b h
  obtain ⟨b2,h3,h4⟩:=ih b1 h2
  exact ⟨b2,by rw[AX h1,h3],h4⟩
end
theorem Gb {β σ ρ:Type} {body : σ→Option (σ ⊕ ρ)} (st:Nat→β→σ) (fin : β→ρ) (I:Nat→β→Prop) (e:Nat)
  (hgo:∀ k b,k<e→I k b→∃ b',body (st k b)=some (.inl (st (k + 1) b'))∧I (k + 1) b')
  (hend:∀ b,I e b→body (st e b)=some (.inr (fin b))):∀ k b,k≤e→I k b→∃ b',loopM body (st k b)=some (fin b')∧I e b':=by
 have key:∀ (n k:Nat) (b : β),k + n=e→I k b→∃ b',loopM body (st k b)=some (fin b')∧I e b':=by
  intro n
  induction n with
  | zero =>
   intro k b hk hI
   have:k=e:=by omega
   subst this
   exact ⟨b,Ap (hend b hI),hI⟩
  | succ n ih =>
   intro k b hk hI
   obtain ⟨b1,h1,h2⟩:=hgo k b (by omega) hI
   obtain ⟨b2,h3,h4⟩:=ih (k + 1) b1 (by omega) h2
   exact ⟨b2,by rw[AX h1,h3],h4⟩
 intro k b hk hI
 exact key (e-k) k b (by omega) hI
theorem wrapU {n:Int} (h1 : 0≤n) (h2:n<18446744073709551616):IntKind.wrap .u64 n=n:=by rw[IntKind.wrap_u64]; omega
theorem wrapU' (n:Int) : 0≤IntKind.wrap .u64 n∧IntKind.wrap .u64 n<18446744073709551616:=by rw[IntKind.wrap_u64]; omega
def Short {α:Type} (l:List α):Prop:=l.length<1099511627776
theorem getL {α:Type} {l:List α} {k:Nat} {a : α} (h:l[k]? = some a):k<l.length:=(List.getElem?_eq_some_iff.1 h).1
structure Cur (B:Nat) (c:List Int×Int×Int):Prop where
 bytes:∀ b∈c.1,0≤b∧b≤255
 short:c.1.length≤1048576
 lo : 0≤c.2.1
 hi:c.2.1≤(B:Int)
 seed0 : 0≤c.2.2
 seed1:c.2.2<18446744073709551616
theorem Cur.start {l:List Int} (h:∀ b∈l,0≤b∧b≤255) (hl:l.length≤1048576):Cur 0 (l,0,0):=⟨h,hl,by simp,by simp,by simp,by simp⟩
theorem Cur.mono {B B':Nat} {c:List Int×Int×Int} (h:Cur B c) (hb:B≤B'):Cur B' c:=⟨h.bytes,h.short,h.lo,by have:=h.hi; omega,h.seed0,h.seed1⟩
theorem obs {α β:Type} (a : α) (f : α→Option β):(some a).bind f=f a:=(rfl)
theorem cT {α:Type} (a b : α):(bif true then a else b)=a:=(rfl)
theorem cF {α:Type} (a b : α):(bif false then a else b)=b:=(rfl)
theorem nT:(!true)=false:=(rfl)
theorem nF:(!false)=true:=(rfl)
end Go.Proofs.YthipdlhknbhiiaaGreat.Ev

end
section
namespace Go.Proofs.YthipdlhknbhiiaaGreat.Ev
open Go
theorem and255 (a:Int) : 0≤andI .u64 a 255∧andI .u64 a 255≤255:=by
 unfold andI
 have h:((BitVec.ofInt (IntKind.bits .u64) a &&& BitVec.ofInt (IntKind.bits .u64) 255).toNat)≤255:=by
  rw[BitVec.toNat_and]
  exact Nat.le_trans Nat.and_le_right (by decide)
 rw[wrapU (by omega) (by omega)]
 omega
theorem Ao7 {B:Nat} {c:List Int×Int×Int} (h:Cur B c) (hB:B≤1125899906842624):∃ c' v,Ci c=some (c',v)∧Cur (B + 1) c'∧0≤v∧v≤255:=by
 obtain ⟨l,i,s⟩:=c
 obtain ⟨h1,h2,h3,h4,h5,h6⟩:=h
 simp only at h1 h2 h3 h4 h5 h6
 have w1:IntKind.wrap .i64 (i + 1)=i + 1:=wrapI (by omega) (by omega)
 have hcur:∀ x:Int,Cur (B + 1) (l,i + 1,IntKind.wrap .u64 x):=fun x=>⟨h1,h2,by simp only; omega,by simp only; omega,(wrapU' x).1,(wrapU' x).2⟩
 unfold Ci
 by_cases hi:i<(l.length:Int)
 ·obtain ⟨a,ha,hm⟩:=Ak4 h3 hi
  have hb:=h1 a (List.mem_of_getElem? hm)
  have hd:decide (i<(l.length:Int))=true:=by simpa using hi
  have hd2:decide (i + 1≤(l.length:Int))=true:=by simp; omega
  simp only[hd,cond_true,ha,Option.bind_some,Sum.elim_inr,w1,hd2,wrapI (show -9223372036854775808≤a by omega) (show a≤9223372036854775807 by omega)]
  exact ⟨_,_,rfl,hcur _,hb.1,hb.2⟩
 ·have hd:decide (i<(l.length:Int))=false:=by simpa using hi
  have hd2:decide (i + 1≤(l.length:Int))=false:=by simp; omega
  simp only[hd,cond_false,Option.bind_some,Sum.elim_inr,w1,hd2]
  refine ⟨_,_,rfl,hcur _,?_⟩
  have:=and255 (shrI .u64 (IntKind.wrap .u64 (IntKind.wrap .u64 (IntKind.wrap .u64 (s*6364136223846793005) + IntKind.wrap .u64 0) + 1442695040888963407)) 40)
  rw[wrapI (by omega) (by omega)]
  exact this
theorem Ap5 {a n:Int} (h0 : 0≤a) (hn : 1<n) : 0≤a.tmod n∧a.tmod n<n:=by
 rw[Int.tmod_eq_emod_of_nonneg h0]
 exact ⟨Int.emod_nonneg _ (by omega),Int.emod_lt_of_pos _ (by omega)⟩
theorem AD {B:Nat} {c:List Int×Int×Int} (h:Cur B c) (hB:B≤1000000000000000) (n:Int):∃ c' v,Af c n=some (c',v)∧Cur (B + 2) c'∧0≤v∧(1≤n→v<n):=by
 unfold Af
 by_cases h1:n≤1
 ·have hd:decide (n≤1)=true:=by simpa using h1
  simp only[hd,cond_true]
  exact ⟨_,_,rfl,h.mono (by omega),by omega,by omega⟩
 ·have hd:decide (n≤1)=false:=by simpa using h1
  have hz:(n==0)=false:=by simp; omega
  obtain ⟨c1,v1,e1,q1,b1,b2⟩:=Ao7 h (by omega)
  simp only[hd,cond_false,e1,Option.bind_some,hz]
  by_cases h2:n>200
  ·obtain ⟨c2,v2,e2,q2,b3,b4⟩:=Ao7 q1 (by omega)
   have hd2:decide (n>200)=true:=by simpa using h2
   simp only[hd2,cond_true,e2,Option.bind_some]
   refine ⟨_,_,rfl,q2.mono (by omega),?_⟩
   rw[wrapI (by rw[wrapI (by omega) (by omega)]; omega) (by rw[wrapI (by omega) (by omega)]; omega),wrapI (by omega) (by omega)]
   have:=Ap5 (a:=v1*256 + v2) (n:=n) (by omega) (by omega)
   exact ⟨this.1,fun _=>this.2⟩
  ·have hd2:decide (n>200)=false:=by simpa using h2
   simp only[hd2,cond_false]
   have:=Ap5 (a:=v1) (n:=n) (by omega) (by omega)
   exact ⟨_,_,rfl,q1.mono (by omega),this.1,fun _=>this.2⟩
theorem Je {B:Nat} {c:List Int×Int×Int} (h:Cur B c) (hB:B≤1000000000000000) (n:Int):∃ c' v,Au c n=some (c',v)∧Cur (B + 2) c':=by
 unfold Au
 obtain ⟨c1,v1,e1,q1,_⟩:=AD h hB n
 simp only[e1,Option.bind_some]
 exact ⟨_,_,rfl,q1⟩
theorem Nr {B:Nat} {c:List Int×Int×Int} (h:Cur B c) (hB:B≤1000000000000000) (l:List Int) (h1 : 1≤l.length) (h2:l.length<1000000):∃ c' v,A2 c l=some (c',v)∧Cur (B + 2) c'∧v∈l:=by
 unfold A2
 obtain ⟨c1,v1,e1,q1,b1,b2⟩:=AD h hB (l.length:Int)
 have:=b2 (by omega)
 obtain ⟨a,ha,hm⟩:=Ak4 b1 this
 simp only[e1,Option.bind_some,ha]
 exact ⟨_,_,rfl,q1,List.mem_of_getElem? hm⟩
end Go.Proofs.YthipdlhknbhiiaaGreat.Ev

end
section
namespace Go.Proofs.YthipdlhknbhiiaaGreat.Ev
open Go
def B:Nat→Int
 | 0=>1
 | n + 1=>65536*B n
theorem Ez:∀ n,0<B n
 | 0=>by decide
 | n + 1=>by have:=Ez n; simp only[B]; omega
theorem Nk:∀ m n,B (m + n)=B m*B n
 | 0,n=>by simp[B]
 | m + 1,n=>by rw[show m + 1 + n=(m + n) + 1 by omega]; simp only[B]; rw[Nk m n,Int.mul_assoc]
theorem G6 {m n:Nat} (h:m≤n):B m≤B n:=by
 induction h with
 | refl=>exact Int.le_refl _
 | @step n h ih=>have:=Ez n; simp only[B]; omega
def val:List Int→Int
 | []=>0
 | x::l=>x + 65536*val l
def LB (l:List Int):Prop:=∀ x∈l,0≤x∧x<65536
theorem LB.nil:LB []:=fun _ h=>absurd h (List.not_mem_nil)
theorem LB.head {x:Int} {l:List Int} (h:LB (x::l)) : 0≤x∧x<65536:=h x (List.mem_cons_self ..)
theorem LB.tail {x:Int} {l:List Int} (h:LB (x::l)):LB l:=fun y hy=>h y (List.mem_cons_of_mem _ hy)
theorem LB.cons {x:Int} {l:List Int} (hx : 0≤x∧x<65536) (h:LB l):LB (x::l):=fun y hy=>by
 rcases List.mem_cons.1 hy with rfl | hy
 ·exact hx
 ·exact h y hy
theorem LB.append {l m:List Int} (h:LB l) (h':LB m):LB (l++m):=fun y hy=>(List.mem_append.1 hy).elim (h y) (h' y)
theorem LB.take {l:List Int} (h:LB l) (n:Nat):LB (l.take n):=fun y hy=>h y (List.mem_of_mem_take hy)
theorem LB.drop {l:List Int} (h:LB l) (n:Nat):LB (l.drop n):=fun y hy=>h y (List.mem_of_mem_drop hy)
theorem LB.get {l:List Int} (h:LB l) {k:Nat} {x:Int} (hk:l[k]? = some x) : 0≤x∧x<65536:=h x (List.mem_of_getElem? hk)
theorem LB.set {l:List Int} (h:LB l) {k:Nat} {x:Int} (hx : 0≤x∧x<65536):LB (l.set k x):=fun y hy=>by
 rcases List.mem_or_eq_of_mem_set hy with hy | rfl
 ·exact h y hy
 ·exact hx
theorem LB.zeros (n:Nat):LB (List.replicate n 0):=fun y hy=>by have:=List.eq_of_mem_replicate hy; omega
theorem Aw:∀ {l:List Int},LB l→0≤val l
 | [],_=>Int.le_refl _
 | x::l,h=>by have:=h.head; have:=Aw h.tail; simp only[val]; omega
theorem IV:∀ {l:List Int},LB l→val l<B l.length
 | [],_=>by decide
 | x::l,h=>by have:=h.head; have:=IV h.tail; simp only[val,List.length_cons,B]; omega
theorem L4:∀ (l m:List Int),val (l++m)=val l + B l.length*val m
 | [],m=>by simp[val,B]
 | x::l,m=>by
  simp only[List.cons_append,val,List.length_cons,B,L4 l m]
  rw[Int.mul_add,Int.mul_assoc]
  omega
theorem Dg:∀ n,val (List.replicate n 0)=0
 | 0=>rfl
 | n + 1=>by simp only[List.replicate_succ,val,Dg n]; omega
theorem Iu (l:List Int) (x:Int):val (l ++ [x])=val l + B l.length*x:=by rw[L4]; simp[val]
theorem OI (l:List Int) (n:Nat) (h:n≤l.length):val l=val (l.take n) + B n*val (l.drop n):=by
 have:=L4 (l.take n) (l.drop n)
 rw[List.take_append_drop,List.length_take,Nat.min_eq_left h] at this
 exact this
theorem DM:∀ {l:List Int} {k:Nat} {x y:Int},l[k]? = some x→val (l.set k y)=val l + B k*(y-x)
 | [],k,x,y,h=>by simp at h
 | a::l,0,x,y,h=>by
  simp at h
  subst h
  simp only[List.set_cons_zero,val,B]
  omega
 | a::l,k + 1,x,y,h=>by
  simp only[List.getElem?_cons_succ] at h
  simp only[List.set_cons_succ,val,B,DM (y:=y) h]
  rw[Int.mul_add,Int.mul_assoc]
  omega
def NB (l:List Int):Prop:=∀ x,l.getLast? = some x→x≠0
theorem NB.nil:NB []:=fun x h=>by simp at h
theorem NB.tail {x:Int} {l:List Int} (h:NB (x::l)):NB l:=fun y hy=>by
 cases l with
 | nil=>simp at hy
 | cons a t=>exact h y (by rw[List.getLast?_cons_cons]; exact hy)
theorem Xa:∀ {l:List Int},LB l→NB l→l≠[]→B (l.length-1)≤val l
 | [],_,_,h=>absurd rfl h
 | [x],h,hn,_=>by
  have h1:=h.head
  have h2:=hn x rfl
  simp only[val,List.length_cons,List.length_nil,B]
  simp[B]
  omega
 | x::y::l,h,hn,_=>by
  have h1:=h.head
  have h2:=Xa h.tail hn.tail (by simp)
  simp only[List.length_cons,Nat.add_sub_cancel] at h2 ⊢
  rw[val]
  simp only[B]
  omega
theorem YA {l:List Int} (h:LB l) (hn:NB l) (h0:val l=0):l = []:=by
 cases l with
 | nil=>rfl
 | cons x l =>
  have h1:=Xa h hn (by simp)
  have h2:=Ez ((x::l).length-1)
  omega
theorem Ao2:∀ {l m:List Int},LB l→NB l→LB m→NB m→val l=val m→l=m
 | [],m,_,_,hm,nm,h=>by
  have:val m=0:=by rw[←h]; rfl
  exact (YA hm nm this).symm
 | x::l,[],hl,nl,_,_,h=>YA hl nl (by rw[h]; rfl)
 | x::l,y::m,hl,nl,hm,nm,h=>by
  have h1:=hl.head
  have h2:=hm.head
  simp only[val] at h
  have hx:x=y:=by omega
  have hv:val l=val m:=by omega
  rw[hx,Ao2 hl.tail nl.tail hm.tail nm.tail hv]
def lim (n:Nat):List Int:=if h:n=0 then [] else ((n%65536:Nat):Int)::lim (n/65536)
termination_by n
decreasing_by omega
theorem Bi:lim 0 = []:=by unfold lim; simp
theorem Ao (n:Nat):LB (lim n):=by
 induction n using Nat.strongRecOn with
 | _ n ih =>
  unfold lim
  split
  ·exact LB.nil
  ·exact LB.cons (by omega) (ih (n/65536) (by omega))
theorem Aj (n:Nat):val (lim n)=n:=by
 induction n using Nat.strongRecOn with
 | _ n ih =>
  unfold lim
  split
  ·rename_i h; rw[h]; rfl
  ·simp only[val,ih (n/65536) (by omega)]
   omega
theorem F8 {n:Nat}:lim n = []↔n=0:=by
 constructor
 ·intro h
  have:=Aj n
  rw[h] at this
  simp only[val] at this
  omega
 ·rintro rfl; exact Bi
theorem Oh (n:Nat):NB (lim n):=by
 induction n using Nat.strongRecOn with
 | _ n ih =>
  unfold lim
  split
  ·exact NB.nil
  ·rename_i hn
   intro x hx
   by_cases h0:n/65536=0
   ·rw[h0,Bi] at hx
    simp at hx
    omega
   ·have hne:lim (n/65536)≠[]:=fun h=>h0 (F8.1 h)
    cases hl:lim (n/65536) with
    | nil=>exact absurd hl hne
    | cons a t =>
     rw[hl,List.getLast?_cons_cons] at hx
     exact ih (n/65536) (by omega) x (by rw[hl]; exact hx)
theorem AI2 {l:List Int} (h:LB l) (hn:NB l):l=lim (val l).toNat:=Ao2 h hn (Ao _) (Oh _) (by rw[Aj]; have:=Aw h; omega)
theorem Ah {n k:Nat}:(lim n).length≤k↔(n:Int)<B k:=by
 constructor
 ·intro h
  have h1:=IV (Ao n)
  rw[Aj] at h1
  have:=G6 h
  omega
 ·intro h
  rcases Nat.lt_or_ge k (lim n).length with hk | hk
  ·exfalso
   have hne:lim n≠[]:=by intro h0; rw[h0] at hk; simp at hk
   have h1:=Xa (Ao n) (Oh n) hne
   rw[Aj] at h1
   have:=G6 (show k≤(lim n).length-1 by omega)
   omega
  ·exact hk
def strip:List Int→List Int
 | []=>[]
 | x::l=>match strip l with | []=>if x=0 then [] else [x] | m=>x::m
theorem SZ:∀ {l:List Int},LB l→LB (strip l)∧NB (strip l)∧val (strip l)=val l
 | [],_=>⟨LB.nil,NB.nil,rfl⟩
 | x::l,h=>by
  obtain ⟨h1,h2,h3⟩:=SZ h.tail
  simp only[strip]
  cases hs:strip l with
  | nil =>
   rw[hs] at h3
   simp only[val] at h3
   simp only
   split
   ·rename_i hx; subst hx; exact ⟨LB.nil,NB.nil,by simp only[val]; omega⟩
   ·rename_i hx
    exact ⟨LB.cons h.head LB.nil,fun y hy=>by simp at hy; subst hy; exact hx,by simp only[val]; omega⟩
  | cons a t =>
   rw[hs] at h1 h2 h3
   simp only
   exact ⟨LB.cons h.head h1,fun y hy=>h2 y (by rw[List.getLast?_cons_cons] at hy; exact hy),by rw[val,h3]; rfl⟩
theorem Bt {l:List Int} (h:LB l):strip l=lim (val l).toNat:=by
 obtain ⟨h1,h2,h3⟩:=SZ h
 rw[AI2 h1 h2,h3]
theorem FO:∀ (l:List Int),strip (l ++ [0])=strip l
 | []=>rfl
 | x::l=>by simp only[List.cons_append,strip,FO l]
theorem KD:∀ {l:List Int},NB l→strip l=l
 | [],_=>rfl
 | x::l,h=>by
  simp only[strip,KD h.tail]
  cases l with
  | nil=>simp only; rw[if_neg (h x rfl)]
  | cons a t=>rfl
theorem Pf:∀ (l:List Int),(strip l).length≤l.length
 | []=>Nat.le_refl _
 | x::l=>by
  have:=Pf l
  simp only[strip]
  split
  ·split <;> simp
  ·rename_i m hm; simp only[List.length_cons] at *; omega
end Go.Proofs.YthipdlhknbhiiaaGreat.Ev

end
section
namespace Go.Proofs.YthipdlhknbhiiaaGreat.Ev
open Go
def Brief (l:List Int):Prop:=l.length≤100000000
theorem Ao9 {l:List Int} (h:l≠[]):∃ m x,l=m ++ [x]:=⟨l.dropLast,l.getLast h,(List.dropLast_concat_getLast h).symm⟩
theorem Ap4 {m:List Int} {x:Int} (h:x≠0):NB (m ++ [x]):=fun y hy=>by
 rw[List.getLast?_append] at hy
 simp at hy
 subst hy
 exact h
theorem room1 {n:Nat} (h:n≤200000000):roomI n 8 1=true:=by unfold roomI; rw[decide_eq_true (by unfold maxBytes; omega),decide_eq_true (by unfold maxBytes; omega)]; rfl
theorem EE {l:List Int} (hb:Brief l):Br l=some (strip l):=by
 have key:∀ (n:Nat) (l:List Int),l.length=n→n≤100000000→loopM (fun (s:(List Int))=>HB s) l=some (strip l):=by
  intro n
  induction n with
  | zero =>
   intro l hl _
   have:l = []:=List.eq_nil_of_length_eq_zero hl
   subst this
   exact Ap rfl
  | succ n ih =>
   intro l hl hn
   obtain ⟨m,x,rfl⟩:=Ao9 (l:=l) (by intro h; subst h; simp at hl)
   have hm:m.length=n:=by simpa using hl
   have hlen:(((m ++ [x]).length:Nat):Int)=(n:Int) + 1:=by simp[hm]
   have hg:getI (m ++ [x]) (n:Int)=some x:=by rw[Ak,←hm]; simp
   have hstep:HB (m ++ [x])=if x=0 then some (Sum.inl m) else some (Sum.inr (m ++ [x])):=by
    unfold HB
    rw[hlen,wrapI (by omega) (by omega),show (n:Int) + 1-1=(n:Int) by omega,hg,decide_eq_true (by omega)]
    simp only[cond_true,Option.bind_some]
    by_cases hx:x=0
    ·rw[if_pos hx,beq_iff_eq.2 hx]
     have:subI 0 (n:Int) (m ++ [x]).length=some (0,n):=by unfold subI; simp[hm]; omega
     rw[this]
     simp[←hm]
    ·rw[if_neg hx,beq_eq_false_iff_ne.2 hx]
     rfl
   by_cases hx:x=0
   ·rw[if_pos hx] at hstep
    rw[AX hstep,ih m hm (by omega),hx,FO]
   ·rw[if_neg hx] at hstep
    rw[Ap hstep,KD (Ap4 hx)]
 unfold Br
 have h:=Pf l
 unfold Brief at hb
 rw[key _ l rfl hb]
 simp only[Option.bind_some,room1 (show (strip l).length≤200000000 by omega),cond_true]
theorem Vd {l:List Int} (hb:Brief l):Ft l=some (strip l):=by
 unfold Brief at hb
 have key:∀ (n:Nat),n≤l.length→strip (l.take n)=strip l→∃ k:Nat,k≤l.length∧l.take k=strip l∧loopM (fun (s:((List Int)×Int))=>Lj s.1 s.2) (l,(n:Int))=some (l,(k:Int)):=by
  intro n
  induction n with
  | zero =>
   intro _ h
   exact ⟨0,by omega,by simpa[strip] using h,Ap rfl⟩
  | succ n ih =>
   intro hn h
   have hlt:n<l.length:=by omega
   have hg:getI l (n:Int)=some l[n]:=by rw[Ak,List.getElem?_eq_getElem hlt]
   have ht:l.take (n + 1)=l.take n ++ [l[n]]:=by rw[List.take_add_one,List.getElem?_eq_getElem hlt]; rfl
   have hstep:Lj l ((n + 1:Nat):Int)=if l[n]=0 then some (Sum.inl (l,(n:Int))) else some (Sum.inr (l,((n + 1:Nat):Int))):=by
    unfold Lj
    rw[wrapI (by omega) (by omega),show ((n + 1:Nat):Int)-1=(n:Int) by omega,hg,decide_eq_true (by omega)]
    simp only[cond_true,Option.bind_some]
    by_cases hx:l[n]=0
    ·rw[if_pos hx,beq_iff_eq.2 hx]; rfl
    ·rw[if_neg hx,beq_eq_false_iff_ne.2 hx]; rfl
   by_cases hx:l[n]=0
   ·rw[if_pos hx] at hstep
    obtain ⟨k,h1,h2,h3⟩:=ih (by omega) (by rw[←h,ht,hx,FO])
    exact ⟨k,h1,h2,by rw[AX hstep]; exact h3⟩
   ·rw[if_neg hx] at hstep
    refine ⟨n + 1,hn,?_,Ap hstep⟩
    rw[←h,ht,KD (Ap4 hx)]
 obtain ⟨k,h1,h2,h3⟩:=key l.length (Nat.le_refl _) (by rw[List.take_length])
 unfold Ft
 rw[h3]
 have:subI 0 (k:Int) l.length=some (0,k):=by unfold subI; simp[h1]
 simp only[Option.bind_some,this,List.drop_zero,h2]
theorem Vr {l:List Int} (hb:Brief l):Bc l=some l:=by
 unfold Bc orNil
 cases l with
 | nil=>rfl
 | cons a t =>
  unfold Brief at hb
  simp only[Bf,neL,Option.bind_some,room1 (show (a::t).length≤200000000 by omega),cond_true]
theorem ZY {l:List Int} (h:Brief l):Brief (strip l):=by have:=Pf l; unfold Brief at *; omega
theorem JH (l:List Int):decide (((l.length:Nat):Int)>0) = !l.isEmpty:=by cases l <;> simp <;> omega
theorem H1 (n:Nat):(!(lim n).isEmpty)=decide (n≠0):=by
 cases h:lim n with
 | nil=>rw[F8.1 h]; rfl
 | cons a t=>simp; intro h0; rw[h0,Bi] at h; cases h
theorem Fn {l:List Int} (h:LB l) (hb:Brief l) (neg:Bool):AL neg l=some (lim (val l).toNat,neg&&decide ((val l).toNat≠0)):=by
 unfold AL
 simp only[Vd hb,Option.bind_some,Vr (ZY hb),JH]
 rw[Bt h,H1]
 cases neg <;> rfl
theorem CX {l:List Int} (h:LB l) (hb:Brief l) (neg:Bool):AH neg l=some (lim (val l).toNat,neg&&decide ((val l).toNat≠0)):=by
 unfold AH
 simp only[EE hb,Option.bind_some,JH]
 rw[Bt h,H1]
 cases neg <;> rfl
def big (z:Int):Bool×List Int:=(decide (z<0),lim z.natAbs)
theorem Am4 {x y:Int} (h:big x=big y):x=y:=by
 unfold big at h
 have h1:=congrArg Prod.fst h
 have h2:=congrArg Prod.snd h
 simp only at h1 h2
 have h3:x.natAbs=y.natAbs:=by
  have:=congrArg val h2
  rw[Aj,Aj] at this
  omega
 by_cases hx:x<0 <;> by_cases hy:y<0 <;> simp[hx,hy] at h1 <;> omega
def goodB (b:Bool×List Int):Bool:=(b.2.all fun x=>decide (0≤x)&&decide (x≤65535))&&(match b.2.getLast? with | none=>!b.1 | some x=>decide (b.2.length≤40)&&(x != 0))
theorem Dq {b:Bool×List Int}:goodB b=true↔∃ z:Int,(z.natAbs:Int)<B 40∧b=big z:=by
 obtain ⟨neg,l⟩:=b
 unfold goodB
 simp only[Bool.and_eq_true,List.all_eq_true,decide_eq_true_eq]
 constructor
 ·rintro ⟨h1,h2⟩
  have hl:LB l:=fun x hx=>by have:=h1 x hx; omega
  cases hg:l.getLast? with
  | none =>
   rw[hg] at h2
   have:l = []:=List.getLast?_eq_none_iff.1 hg
   subst this
   have hn:neg=false:=by simpa using h2
   subst hn
   exact ⟨0,by decide,by unfold big; simp[Bi]⟩
  | some x =>
   rw[hg] at h2
   simp only[Bool.and_eq_true,decide_eq_true_eq,bne_iff_ne] at h2
   have hn:NB l:=fun y hy=>by rw[hg] at hy; cases hy; exact h2.2
   have hv:=AI2 hl hn
   have h0:(val l).toNat≠0:=by
    intro h0
    rw[h0,Bi] at hv
    rw[hv] at hg
    simp at hg
   have hlt:((val l).toNat:Int)<B 40:=Ah.1 (by rw[←hv]; exact h2.1)
   refine ⟨if neg then -((val l).toNat:Int) else ((val l).toNat:Int),?_,?_⟩
   ·cases neg <;> simp <;> omega
   ·unfold big
    cases neg
    ·simp only[Bool.false_eq_true,if_false]
     rw[decide_eq_false (by omega),Int.natAbs_natCast,←hv]
    ·simp only[if_true]
     rw[decide_eq_true (by omega),Int.natAbs_neg,Int.natAbs_natCast,←hv]
 ·rintro ⟨z,hz,h⟩
  unfold big at h
  have hn:neg=decide (z<0):=congrArg Prod.fst h
  have hl:l=lim z.natAbs:=congrArg Prod.snd h
  subst hl
  refine ⟨fun x hx=>by have:=Ao _ x hx; omega,?_⟩
  cases hg:(lim z.natAbs).getLast? with
  | none =>
   have:lim z.natAbs = []:=List.getLast?_eq_none_iff.1 hg
   have:=F8.1 this
   rw[hn]
   simp
   omega
  | some x =>
   simp only[Bool.and_eq_true,decide_eq_true_eq,bne_iff_ne]
   exact ⟨Ah.2 hz,Oh _ x hg⟩
theorem LF {z:Int} (h:(z.natAbs:Int)<B 40):goodB (big z)=true:=Dq.2 ⟨z,h,rfl⟩
theorem OT (a b c:Int):BE a b c=some (decide (b≤a)&&decide (a≤c)):=by
 unfold BE
 by_cases h:a≥b <;> simp[h]
theorem Ly (a b c:Int):CI a b c=some (decide (b≤a)&&decide (a≤c)):=by
 unfold CI
 by_cases h:a≥b <;> simp[h]
theorem Ew {k:Nat} {α:Type} {l:List α} {a : α} (h:l[k]? = some a):decide ((k:Int)<(l.length:Int))=true:=by have:=getL h; simpa using this
theorem Lc {α:Type} (l:List α):decide ((l.length:Int)<(l.length:Int))=false:=by simp
theorem Xf {l:List Int} (hb:Brief l):Am l=some (!(l.all fun x=>decide (0≤x)&&decide (x≤65535))):=by
 unfold Am Be
 unfold Brief at hb
 have key:=GV (body:=fun (s:((List Int)×(Int×Int)))=>AE s.1 s.2.1 s.2.2) (l:=l) (st:=fun k=>(l,(l.length:Int),(k:Int))) (p:=fun x=>decide (0≤x)&&decide (x≤65535)) (fin:=.inl ()) (bad:=fun k=>.inr (k:Int))
  (fun k a hk hp=>by
   have:=getL hk
   unfold AE DD
   simp only[Ew hk,cond_true,Ak,hk,Option.bind_some,OT,hp,Bool.not_true,cond_false,wrap1 (show k<4611686018427387904 by omega)])
  (fun k a hk hp=>by
   unfold AE DD
   simp only[Ew hk,cond_true,Ak,hk,Option.bind_some,OT,hp,Bool.not_false])
  (by unfold AE; simp only[Lc,cond_false])
 cases hall:l.all fun x=>decide (0≤x)&&decide (x≤65535) with
 | true =>
  have h:=key.1 hall
  rw[show ((0:Nat):Int)=0 from rfl] at h
  simp only[h,Option.bind_some,Sum.elim_inl]
  rfl
 | false =>
  obtain ⟨k,_,h⟩:=key.2 hall
  rw[show ((0:Nat):Int)=0 from rfl] at h
  simp only[h,Option.bind_some,Sum.elim_inr]
  have:decide ((k:Int)≥0)=true:=by simp
  rw[this]; rfl
theorem Qs {l:List Int} {x:Int} (h:l.getLast? = some x):l.length≠0∧getI l ((l.length:Int)-1)=some x:=by
 have hne:l≠[]:=by intro h0; subst h0; simp at h
 obtain ⟨m,y,rfl⟩:=Ao9 hne
 rw[List.getLast?_append] at h
 simp at h
 subst h
 refine ⟨by simp,?_⟩
 have:(((m ++ [y]).length:Nat):Int)-1=(m.length:Int):=by simp
 rw[this,Ak]
 simp
theorem Va {b:Bool×List Int} (hb:Brief b.2):Fz b=some (goodB b):=by
 obtain ⟨neg,l⟩:=b
 unfold Fz goodB
 have hb':=hb
 unfold Brief at hb'
 simp only at hb hb' ⊢
 rw[wrapI (by omega) (by omega),Xf hb]
 cases hg:l.getLast? with
 | none =>
  have:l = []:=List.getLast?_eq_none_iff.1 hg
  subst this
  cases neg <;> rfl
 | some x =>
  obtain ⟨h0,h1⟩:=Qs hg
  have e0:(((l.length:Nat):Int)==0)=false:=beq_eq_false_iff_ne.2 (by omega)
  have e1:decide (((l.length:Nat):Int)>0)=true:=decide_eq_true (by omega)
  by_cases h40:l.length≤40
  ·have e2:decide (((l.length:Nat):Int)>40)=false:=decide_eq_false (by omega)
   simp only[e2,e0,e1,cond_false,cond_true,h1,Option.bind_some,Bool.not_not,decide_eq_true h40,Bool.true_and]
   by_cases hx:x=0
   ·subst hx; simp
   ·rw[beq_eq_false_iff_ne.2 hx]; simp[hx]
  ·have e2:decide (((l.length:Nat):Int)>40)=true:=decide_eq_true (by omega)
   simp only[e2,cond_true,decide_eq_false h40,Bool.false_and,Bool.and_false]
theorem K9 {b:Bool×List Int} (hb:Brief b.2):Cr b=some (goodB b):=by
 obtain ⟨neg,l⟩:=b
 unfold Cr goodB
 have hb':=hb
 unfold Brief at hb'
 simp only at hb hb' ⊢
 have key:=GV (body:=fun (s:((Bool×(List Int))×((List Int)×(Int×Int))))=>DJ s.1 s.2.1 s.2.2.1 s.2.2.2) (l:=l) (st:=fun k=>((neg,l),(l,((l.length:Int),(k:Int))))) (p:=fun x=>decide (0≤x)&&decide (x≤65535)) (fin:=.inl (neg,l)) (bad:=fun k=>.inr false)
  (fun k a hk hp=>by
   have:=getL hk
   unfold DJ
   simp only[Ew hk,cond_true,Ak,hk,Option.bind_some,Ly,hp,Bool.not_true,cond_false,wrap1 (show k<4611686018427387904 by omega)])
  (fun k a hk hp=>by
   unfold DJ
   simp only[Ew hk,cond_true,Ak,hk,Option.bind_some,Ly,hp,Bool.not_false])
  (by unfold DJ; simp only[Lc,cond_false])
 rw[show ((0:Nat):Int)=0 from rfl] at key
 cases hall:l.all fun x=>decide (0≤x)&&decide (x≤65535) with
 | false=>obtain ⟨k,_,h⟩:=key.2 hall; rw[h]; rfl
 | true =>
  rw[key.1 hall]
  simp only[Option.bind_some,Sum.elim_inl,Bool.true_and]
  rw[wrapI (by omega) (by omega)]
  cases hg:l.getLast? with
  | none =>
   have:l = []:=List.getLast?_eq_none_iff.1 hg
   subst this
   rfl
  | some x =>
   obtain ⟨h0,h1⟩:=Qs hg
   have e0:(((l.length:Nat):Int)==0)=false:=beq_eq_false_iff_ne.2 (by omega)
   simp only[e0,cond_false,h1,Option.bind_some]
   by_cases h40:l.length≤40
   ·rw[decide_eq_true (show ((l.length:Nat):Int)≤40 by omega),decide_eq_true h40]; rfl
   ·rw[decide_eq_false (show ¬((l.length:Nat):Int)≤40 by omega),decide_eq_false h40]; rfl
theorem AD3 {l:List (Bool×List Int)} (hl:l.length≤1000) (hb:∀ b∈l,Brief b.2):Fk l=some (l.all goodB):=by
 unfold Fk AG AO
 have key:=GV (body:=fun (s:((List (Bool×(List Int)))×(Int×Int)))=>As s.1 s.2.1 s.2.2) (l:=l) (st:=fun k=>(l,(l.length:Int),(k:Int))) (p:=goodB) (fin:=.inl ()) (bad:=fun k=>.inr (k:Int))
  (fun k a hk hp=>by
   have:=getL hk
   unfold As EJ
   simp only[Ew hk,cond_true,Ak,hk,Option.bind_some,Va (hb a (List.mem_of_getElem? hk)),hp,Bool.not_true,cond_false,wrap1 (show k<4611686018427387904 by omega)])
  (fun k a hk hp=>by
   unfold As EJ
   simp only[Ew hk,cond_true,Ak,hk,Option.bind_some,Va (hb a (List.mem_of_getElem? hk)),hp,Bool.not_false])
  (by unfold As; simp only[Lc,cond_false])
 rw[show ((0:Nat):Int)=0 from rfl] at key
 cases hall:l.all goodB with
 | true=>rw[key.1 hall]; rfl
 | false =>
  obtain ⟨k,_,h⟩:=key.2 hall
  rw[h]
  simp only[Option.bind_some,Sum.elim_inr]
  have:decide ((k:Int)≥0)=true:=by simp
  rw[this]; rfl
end Go.Proofs.YthipdlhknbhiiaaGreat.Ev

end
section
namespace Go.Proofs.YthipdlhknbhiiaaGreat.Ev
open Go
def cmpZ (a b:Int):Int:=if a<b then -1 else if b<a then 1 else 0
theorem Cz {a b:Int} (h:a<b):cmpZ a b = -1:=by unfold cmpZ; rw[if_pos h]
theorem Fo {a b:Int} (h:b<a):cmpZ a b=1:=by unfold cmpZ; rw[if_neg (by omega),if_pos h]
theorem Ln (a:Int):cmpZ a a=0:=by unfold cmpZ; simp
theorem BF (a b:Int):(cmpZ a b = -1∧a<b)∨(cmpZ a b=1∧b<a)∨(cmpZ a b=0∧a=b):=by unfold cmpZ; split <;> (try split) <;> omega
theorem O9 (a b:Int):Bg a b=some (cmpZ a b):=by
 unfold Bg CF cmpZ
 by_cases h1:a<b <;> by_cases h2:b<a <;> simp[h1,h2]
theorem YQ {k:Nat} {d:Int} (h:d≤-1):B k*d≤- B k:=by
 have:=Int.mul_le_mul_of_nonneg_left h (Int.le_of_lt (Ez k))
 omega
theorem Am5 {l m:List Int} (hl:LB l) (hm:LB m) {k:Nat} {x y:Int} (hx:l[k]? = some x) (hy:m[k]? = some y) (hd:l.drop (k + 1)=m.drop (k + 1)):(x<y→val l<val m)∧(y<x→val m<val l):=by
 have kl:=getL hx
 have km:=getL hy
 have e1:=OI l k (by omega)
 have e2:=OI m k (by omega)
 have d1:l.drop k=x::l.drop (k + 1):=by rw[List.drop_eq_getElem_cons kl]; congr 1; rw[List.getElem?_eq_getElem kl] at hx; exact Option.some.inj hx
 have d2:m.drop k=y::m.drop (k + 1):=by rw[List.drop_eq_getElem_cons km]; congr 1; rw[List.getElem?_eq_getElem km] at hy; exact Option.some.inj hy
 rw[d1] at e1
 rw[d2,←hd] at e2
 simp only[val] at e1 e2
 have t1:=Aw (hl.take k)
 have t2:=Aw (hm.take k)
 have t3:=IV (hl.take k)
 have t4:=IV (hm.take k)
 rw[List.length_take,Nat.min_eq_left (by omega)] at t3 t4
 rw[Int.mul_add] at e1 e2
 constructor
 ·intro h
  have:=YQ (k:=k) (show x-y≤-1 by omega)
  rw[Int.mul_sub] at this
  omega
 ·intro h
  have:=YQ (k:=k) (show y-x≤-1 by omega)
  rw[Int.mul_sub] at this
  omega
theorem Rh {a b:Nat}:((lim a).length<(lim b).length→a<b):=by
 intro h
 rcases Nat.lt_or_ge a b with h1 | h1
 ·exact h1
 ·exfalso
  have h2:=(Ah (n:=a) (k:=(lim a).length)).1 (Nat.le_refl _)
  have:=(Ah (n:=b) (k:=(lim a).length)).2 (by omega)
  omega
section
variable {l m:List Int} (hl:LB l) (hm:LB m) (hlen:l.length=m.length) (hb:Brief l)
include hl hm hlen hb
theorem Ae1:(val l=val m→loopM (fun (s:((List Int)×((List Int)×Int)))=>AI s.1 s.2.1 s.2.2) (l,(m,(l.length:Int)-1))=some (.inl ())) ∧
  (val l≠val m→loopM (fun (s:((List Int)×((List Int)×Int)))=>AI s.1 s.2.1 s.2.2) (l,(m,(l.length:Int)-1))=some (.inr (cmpZ (val l) (val m)))):=by
 unfold Brief at hb
 have key:∀ (n:Nat),n≤l.length→l.drop n=m.drop n→(l=m→loopM (fun (s:((List Int)×((List Int)×Int)))=>AI s.1 s.2.1 s.2.2) (l,(m,(n:Int)-1))=some (.inl ()))∧(l≠m→loopM (fun (s:((List Int)×((List Int)×Int)))=>AI s.1 s.2.1 s.2.2) (l,(m,(n:Int)-1))=some (.inr (cmpZ (val l) (val m)))∧val l≠val m):=by
  intro n
  induction n with
  | zero =>
   intro _ h
   simp only[List.drop_zero] at h
   refine ⟨fun _=>Ap rfl,fun hn=>absurd h hn⟩
  | succ n ih =>
   intro hn h
   have k1:n<l.length:=by omega
   have k2:n<m.length:=by omega
   have hx:l[n]? = some l[n]:=List.getElem?_eq_getElem k1
   have hy:m[n]? = some m[n]:=List.getElem?_eq_getElem k2
   have hs:((n + 1:Nat):Int)-1=(n:Int):=by omega
   rw[hs]
   by_cases he:l[n]=m[n]
   ·have hd:l.drop n=m.drop n:=by rw[List.drop_eq_getElem_cons k1,List.drop_eq_getElem_cons k2,he,h]
    have hstep:AI l m (n:Int)=some (.inl (l,(m,(n:Int)-1))):=by
     unfold AI
     rw[decide_eq_true (show (n:Int)≥0 by omega),Ak,Ak,hx,hy,wrapI (by omega) (by omega)]
     simp only[cond_true,Option.bind_some,he,bne_self_eq_false,cond_false]
    obtain ⟨i1,i2⟩:=ih (by omega) hd
    exact ⟨fun hh=>by rw[AX hstep]; exact i1 hh,fun hh=>by rw[AX hstep]; exact i2 hh⟩
   ·obtain ⟨c1,c2⟩:=Am5 hl hm hx hy h
    have hne:l≠m:=fun hh=>he (by subst hh; rfl)
    have hc:cmpZ l[n] m[n]=cmpZ (val l) (val m):=by
     rcases Int.lt_or_gt_of_ne he with h1 | h1
     ·rw[Cz h1,Cz (c1 h1)]
     ·rw[Fo h1,Fo (c2 h1)]
    have hstep:AI l m (n:Int)=some (.inr (.inr (cmpZ (val l) (val m)))):=by
     unfold AI
     rw[decide_eq_true (show (n:Int)≥0 by omega),Ak,Ak,hx,hy]
     have hb:(l[n] != m[n])=true:=by simpa using he
     simp only[cond_true,Option.bind_some,hb,O9,hc]
    refine ⟨fun hh=>absurd hh hne,fun _=>⟨Ap hstep,?_⟩⟩
    rcases Int.lt_or_gt_of_ne he with h1 | h1
    ·have:=c1 h1; omega
    ·have:=c2 h1; omega
 obtain ⟨h1,h2⟩:=key l.length (Nat.le_refl _) (by rw[List.drop_length,hlen,List.drop_length])
 constructor
 ·intro hv
  by_cases he:l=m
  ·exact h1 he
  ·exact absurd hv (h2 he).2
 ·intro hv
  exact (h2 fun he=>hv (by rw[he])).1
theorem Ae5:(val l=val m→loopM (fun (s:((List Int)×((List Int)×Int)))=>B3 s.1 s.2.1 s.2.2) (l,(m,(l.length:Int)-1))=some (.inl ())) ∧
  (val l≠val m→loopM (fun (s:((List Int)×((List Int)×Int)))=>B3 s.1 s.2.1 s.2.2) (l,(m,(l.length:Int)-1))=some (.inr (cmpZ (val l) (val m)))):=by
 unfold Brief at hb
 have key:∀ (n:Nat),n≤l.length→l.drop n=m.drop n→(l=m→loopM (fun (s:((List Int)×((List Int)×Int)))=>B3 s.1 s.2.1 s.2.2) (l,(m,(n:Int)-1))=some (.inl ()))∧(l≠m→loopM (fun (s:((List Int)×((List Int)×Int)))=>B3 s.1 s.2.1 s.2.2) (l,(m,(n:Int)-1))=some (.inr (cmpZ (val l) (val m)))∧val l≠val m):=by
  intro n
  induction n with
  | zero =>
   intro _ h
   simp only[List.drop_zero] at h
   refine ⟨fun _=>Ap rfl,fun hn=>absurd h hn⟩
  | succ n ih =>
   intro hn h
   have k1:n<l.length:=by omega
   have k2:n<m.length:=by omega
   have hx:l[n]? = some l[n]:=List.getElem?_eq_getElem k1
   have hy:m[n]? = some m[n]:=List.getElem?_eq_getElem k2
   have hs:((n + 1:Nat):Int)-1=(n:Int):=by omega
   rw[hs]
   by_cases he:l[n]=m[n]
   ·have hd:l.drop n=m.drop n:=by rw[List.drop_eq_getElem_cons k1,List.drop_eq_getElem_cons k2,he,h]
    have hstep:B3 l m (n:Int)=some (.inl (l,(m,(n:Int)-1))):=by
     unfold B3
     rw[decide_eq_true (show (n:Int)≥0 by omega),Ak,Ak,hx,hy,wrapI (by omega) (by omega)]
     simp only[cond_true,Option.bind_some,he]
     rw[decide_eq_false (Int.lt_irrefl _)]
     rfl
    obtain ⟨i1,i2⟩:=ih (by omega) hd
    exact ⟨fun hh=>by rw[AX hstep]; exact i1 hh,fun hh=>by rw[AX hstep]; exact i2 hh⟩
   ·obtain ⟨c1,c2⟩:=Am5 hl hm hx hy h
    have hne:l≠m:=fun hh=>he (by subst hh; rfl)
    have hstep:B3 l m (n:Int)=some (.inr (.inr (cmpZ (val l) (val m)))):=by
     unfold B3
     rw[decide_eq_true (show (n:Int)≥0 by omega),Ak,Ak,hx,hy]
     simp only[cond_true,Option.bind_some]
     rcases Int.lt_or_gt_of_ne he with h1 | h1
     ·rw[decide_eq_true h1,Cz (c1 h1)]; rfl
     ·rw[decide_eq_false (by omega),decide_eq_true h1,Fo (c2 h1)]; rfl
    refine ⟨fun hh=>absurd hh hne,fun _=>⟨Ap hstep,?_⟩⟩
    rcases Int.lt_or_gt_of_ne he with h1 | h1
    ·have:=c1 h1; omega
    ·have:=c2 h1; omega
 obtain ⟨h1,h2⟩:=key l.length (Nat.le_refl _) (by rw[List.drop_length,hlen,List.drop_length])
 constructor
 ·intro hv
  by_cases he:l=m
  ·exact h1 he
  ·exact absurd hv (h2 he).2
 ·intro hv
  exact (h2 fun he=>hv (by rw[he])).1
end
theorem GF {a b:Nat} (ha:Brief (lim a)) (hb:Brief (lim b)):A8 (lim a) (lim b)=some (cmpZ a b):=by
 unfold A8
 have ha':=ha
 have hb':=hb
 unfold Brief at ha' hb'
 by_cases h:(lim a).length=(lim b).length
 ·have e:((((lim a).length:Nat):Int) != (((lim b).length:Nat):Int))=false:=by simp[h]
  rw[e,wrapI (by omega) (by omega)]
  simp only[cond_false]
  obtain ⟨h1,h2⟩:=Ae1 (Ao a) (Ao b) h ha
  rw[Aj,Aj] at h1 h2
  by_cases hv:(a:Int)=b
  ·rw[h1 hv,hv,Ln]; rfl
  ·rw[h2 hv]; rfl
 ·have e:((((lim a).length:Nat):Int) != (((lim b).length:Nat):Int))=true:=by simp; omega
  rw[e]
  simp only[cond_true,O9,Option.bind_some]
  rcases Nat.lt_or_gt_of_ne h with h1 | h1
  ·have:=Rh h1
   rw[Cz (by omega),Cz (by omega)]
  ·have:=Rh h1
   rw[Fo (by omega),Fo (by omega)]
theorem M6 {a b:Nat} (ha:Brief (lim a)) (hb:Brief (lim b)):Bo (lim a) (lim b)=some (cmpZ a b):=by
 unfold Bo
 have ha':=ha
 have hb':=hb
 unfold Brief at ha' hb'
 by_cases h:(lim a).length=(lim b).length
 ·have e:((((lim a).length:Nat):Int) != (((lim b).length:Nat):Int))=false:=by simp[h]
  rw[e,wrapI (by omega) (by omega)]
  simp only[cond_false]
  obtain ⟨h1,h2⟩:=Ae5 (Ao a) (Ao b) h ha
  rw[Aj,Aj] at h1 h2
  by_cases hv:(a:Int)=b
  ·rw[h1 hv,hv,Ln]; rfl
  ·rw[h2 hv]; rfl
 ·have e:((((lim a).length:Nat):Int) != (((lim b).length:Nat):Int))=true:=by simp; omega
  rw[e]
  simp only[cond_true]
  rcases Nat.lt_or_gt_of_ne h with h1 | h1
  ·have:=Rh h1
   rw[decide_eq_true (by omega),Cz (by omega)]; rfl
  ·have:=Rh h1
   rw[decide_eq_false (by omega),Fo (by omega)]; rfl
def dg (l:List Int) (k:Nat):Int:=l.getD k 0
theorem DP {l:List Int} {k:Nat} {x:Int} (h:l[k]? = some x):dg l k=x:=by unfold dg; rw[List.getD_eq_getElem?_getD,h]; rfl
theorem FU {l:List Int} {k:Nat} (h:l.length≤k):dg l k=0:=by unfold dg; rw[List.getD_eq_getElem?_getD,List.getElem?_eq_none h]; rfl
theorem AJ {l:List Int} (h:LB l) (k:Nat) : 0≤dg l k∧dg l k<65536:=by
 rcases Nat.lt_or_ge k l.length with hk | hk
 ·rw[DP (List.getElem?_eq_getElem hk)]; exact h _ (List.getElem_mem _)
 ·rw[FU hk]; omega
theorem Av (l:List Int) (k:Nat):val (l.take (k + 1))=val (l.take k) + B k*dg l k:=by
 rcases Nat.lt_or_ge k l.length with hk | hk
 ·have he:=List.getElem?_eq_getElem hk
  rw[List.take_add_one,he,DP he,Option.toList_some,Iu,List.length_take,Nat.min_eq_left (by omega)]
 ·rw[FU hk,List.take_of_length_le (by omega),List.take_of_length_le hk]
  omega
theorem Im {l:List Int} (k:Nat):BR l (k:Int)=some (dg l k):=by
 unfold BR
 rcases Nat.lt_or_ge k l.length with hk | hk
 ·rw[decide_eq_true (by omega),Ak,List.getElem?_eq_getElem hk,DP (List.getElem?_eq_getElem hk)]
  rfl
 ·rw[decide_eq_false (by omega),FU hk]
  rfl
theorem app1 {l:List Int} {x:Int} (h:l.length≤100000000):appL 8 1 l [x]=some (l ++ [x]):=Rq (by simp[maxBytes]; omega) (by simp[maxBytes]; omega)
theorem W2 {a b:List Int} (ha:LB a) (hb:LB b) (na:a.length≤10000000) (nb:b.length≤10000000) :
  ∃ r,C5 a b=some r∧LB r∧val r=val a + val b∧r.length≤max a.length b.length + 1∧(r.length≤max a.length b.length∨B (max a.length b.length)≤val a + val b):=by
 unfold C5
 obtain ⟨r,h1,h2⟩:=EL (f:=fun (s:((List Int)×((List Int)×((List Int)×(Int×Int)))))=>Cm s.1 s.2.1 s.2.2.1 s.2.2.2.1 s.2.2.2.2)
  (I:=fun s=>∃ (k:Nat) (out:List Int) (c:Int),s=(out,(a,(b,(c,(k:Int)))))∧out.length=k∧k≤max a.length b.length + 1∧LB out∧(c=0∨c=1)∧(k=max a.length b.length + 1→c=0∧B (max a.length b.length)≤val a + val b)∧val out + B k*c=val (a.take k) + val (b.take k))
  (R:=fun r=>LB r∧val r=val a + val b∧r.length≤max a.length b.length + 1∧(r.length≤max a.length b.length∨B (max a.length b.length)≤val a + val b)) (fun s=>max a.length b.length + 2-s.1.length) (by
   rintro s ⟨k,out,c,rfl,h1,h2,h3,h4,h4',h5⟩
   simp only
   have da:=AJ ha k
   have db:=AJ hb k
   have go:k<max a.length b.length∨c=1→∃ c',Cm out a b c (k:Int)=some (.inl (out ++ [(dg a k + dg b k + c)%65536],(a,(b,(c',((k + 1:Nat):Int))))))∧c'=(dg a k + dg b k + c)/65536:=by
    intro hgo
    refine ⟨_,?_,rfl⟩
    have hkk:k≤max a.length b.length:=by rcases hgo with h | h <;> omega
    unfold Cm
    have hcond:(bif decide ((k:Int)<((a.length:Nat):Int)) then some (Sum.inr (α:=(List Int×List Int×List Int×Int×Int) ⊕ List Int) (out,(a,(b,(c,(k:Int)))))) else bif decide ((k:Int)<((b.length:Nat):Int)) then some (Sum.inr (out,(a,(b,(c,(k:Int)))))) else bif decide (c>0) then some (Sum.inr (out,(a,(b,(c,(k:Int)))))) else some (Sum.inl (Sum.inr out)))=some (Sum.inr (out,(a,(b,(c,(k:Int)))))):=by
     by_cases c1:(k:Int)<(a.length:Int)
     ·rw[decide_eq_true c1]; rfl
     ·by_cases c2:(k:Int)<(b.length:Int)
      ·rw[decide_eq_false c1,decide_eq_true c2]; rfl
      ·have:c>0:=by rcases hgo with h | h <;> omega
       rw[decide_eq_false c1,decide_eq_false c2,decide_eq_true this]; rfl
    rw[hcond]
    simp only[Option.bind_some,Sum.elim_inr,Im]
    rw[wrapI (n:=dg a k + dg b k) (by omega) (by omega),wrapI (n:=dg a k + dg b k + c) (by omega) (by omega),Int.tmod_eq_emod_of_nonneg (by omega),Int.tdiv_eq_ediv_of_nonneg (by omega),wrapI (by omega) (by omega),app1 (by omega),wrap1 (by omega)]
    rfl
   by_cases hgo:k<max a.length b.length∨c=1
   ·obtain ⟨c',e1,e2⟩:=go hgo
    clear go
    have hkk:k≤max a.length b.length:=by
     rcases hgo with h | h
     ·omega
     ·rcases Nat.lt_or_ge (max a.length b.length) k with h6 | h6
      ·have:=h4' (by omega); omega
      ·exact h6
    refine .inl ⟨_,e1,⟨k + 1,_,c',rfl,by simp[h1],by omega,h3.append (LB.cons (by omega) LB.nil),by omega,?_,?_⟩,by simp; omega⟩
    ·intro hk
     have:k=max a.length b.length:=by omega
     rw[FU (by omega),FU (by omega)] at e2
     refine ⟨by omega,?_⟩
     have hc1:c=1:=by omega
     rw[hc1,List.take_of_length_le (by omega),List.take_of_length_le (by omega),this] at h5
     have:=Aw h3
     omega
    ·rw[Iu,h1,Av,Av]
     have:B (k + 1)*c'=B k*(65536*c'):=by simp only[B]; rw[Int.mul_comm 65536 (B k),Int.mul_assoc]
     rw[this]
     have hq:(dg a k + dg b k + c)%65536 + 65536*c'=dg a k + dg b k + c:=by omega
     have:B k*((dg a k + dg b k + c)%65536) + B k*(65536*c')=B k*dg a k + B k*dg b k + B k*c:=by rw[←Int.mul_add,hq,Int.mul_add,Int.mul_add]
     omega
   ·clear go
    have hc:c=0:=by omega
    have hk:max a.length b.length≤k:=by omega
    subst hc
    refine .inr ⟨out,?_,h3,?_,by omega,?_⟩
    ·unfold Cm
     rw[decide_eq_false (by omega),decide_eq_false (by omega)]
     rfl
    ·rw[List.take_of_length_le (by omega),List.take_of_length_le (by omega)] at h5
     omega
    ·rcases Nat.lt_or_ge (max a.length b.length) k with h6 | h6
     ·exact .inr (h4' (by omega)).2
     ·left; omega) ([],(a,(b,(0,0)))) ⟨0,[],0,rfl,rfl,by omega,LB.nil,.inl rfl,by omega,by simp[val,B]⟩
 exact ⟨r,by rw[h1]; rfl,h2⟩
theorem Aj4 {a b:List Int} (ha:LB a) (hb:LB b) (na:a.length≤10000000) (nb:b.length≤10000000) :
  ∃ r,EC a b=some r∧LB r∧val r=val a + val b∧r.length≤max a.length b.length + 1:=by
 unfold EC
 have hM:maxL [((a.length:Nat):Int),((b.length:Nat):Int)]=((max a.length b.length:Nat):Int):=by simp only[maxL,List.foldl]; split <;> omega
 obtain ⟨r,h1,h2⟩:=EL (f:=fun (s:((List Int)×((List Int)×((List Int)×(Int×Int)))))=>C9 s.1 s.2.1 s.2.2.1 s.2.2.2.1 s.2.2.2.2)
  (I:=fun s=>∃ (k:Nat) (out:List Int) (c:Int),s=(out,(a,(b,(c,(k:Int)))))∧out.length=k∧k≤max a.length b.length + 1∧LB out∧(c=0∨c=1)∧(k=max a.length b.length + 1→c=0)∧val out + B k*c=val (a.take k) + val (b.take k))
  (R:=fun r=>LB r∧val r=val a + val b∧r.length≤max a.length b.length + 1) (fun s=>max a.length b.length + 2-s.1.length) (by
   rintro s ⟨k,out,c,rfl,h1,h2,h3,h4,h4',h5⟩
   simp only
   have da:=AJ ha k
   have db:=AJ hb k
   have go:k<max a.length b.length∨c=1→∃ c',C9 out a b c (k:Int)=some (.inl (out ++ [(dg a k + dg b k + c)%65536],(a,(b,(c',((k + 1:Nat):Int))))))∧c'=(dg a k + dg b k + c)/65536:=by
    intro hgo
    refine ⟨_,?_,rfl⟩
    have hkk:k≤max a.length b.length:=by rcases hgo with h | h <;> omega
    unfold C9
    rw[hM]
    have hcond:(bif decide ((k:Int)<((max a.length b.length:Nat):Int)) then some (Sum.inr (α:=(List Int×List Int×List Int×Int×Int) ⊕ List Int) (out,(a,(b,(c,(k:Int)))))) else bif decide (c>0) then some (Sum.inr (out,(a,(b,(c,(k:Int)))))) else some (Sum.inl (Sum.inr out)))=some (Sum.inr (out,(a,(b,(c,(k:Int)))))):=by
     by_cases c1:(k:Int)<((max a.length b.length:Nat):Int)
     ·rw[decide_eq_true c1]; rfl
     ·have:c>0:=by rcases hgo with h | h <;> omega
      rw[decide_eq_false c1,decide_eq_true this]; rfl
    rw[hcond]
    simp only[Option.bind_some,Sum.elim_inr]
    have s1:(bif decide ((k:Int)<((a.length:Nat):Int)) then (getI a (k:Int)).bind fun x3=>some (Sum.inr (α:=(List Int×List Int×List Int×Int×Int) ⊕ List Int) (out,(a,(b,(IntKind.wrap .i64 (c + x3),(k:Int)))))) else some (Sum.inr (out,(a,(b,(c,(k:Int)))))))=some (Sum.inr (out,(a,(b,(c + dg a k,(k:Int)))))):=by
     rcases Nat.lt_or_ge k a.length with hk | hk
     ·rw[decide_eq_true (by omega),Ak,List.getElem?_eq_getElem hk,←DP (List.getElem?_eq_getElem hk)]
      simp only[cond_true,Option.bind_some]
      rw[wrapI (by omega) (by omega)]
     ·rw[decide_eq_false (by omega),FU hk]
      simp
    rw[s1]
    simp only[Option.bind_some,Sum.elim_inr]
    have s2:(bif decide ((k:Int)<((b.length:Nat):Int)) then (getI b (k:Int)).bind fun x3=>some (Sum.inr (α:=(List Int×List Int×List Int×Int×Int) ⊕ List Int) (out,(a,(b,(IntKind.wrap .i64 (c + dg a k + x3),(k:Int)))))) else some (Sum.inr (out,(a,(b,(c + dg a k,(k:Int)))))))=some (Sum.inr (out,(a,(b,(dg a k + dg b k + c,(k:Int)))))):=by
     rcases Nat.lt_or_ge k b.length with hk | hk
     ·rw[decide_eq_true (by omega),Ak,List.getElem?_eq_getElem hk,←DP (List.getElem?_eq_getElem hk)]
      simp only[cond_true,Option.bind_some]
      rw[wrapI (by omega) (by omega),show c + dg a k + dg b k=dg a k + dg b k + c by omega]
     ·rw[decide_eq_false (by omega),FU hk,show dg a k + 0 + c=c + dg a k by omega]
      rfl
    rw[s2]
    simp only[Option.bind_some,Sum.elim_inr]
    rw[Int.tmod_eq_emod_of_nonneg (by omega),Int.tdiv_eq_ediv_of_nonneg (by omega),wrapI (by omega) (by omega),app1 (by omega),wrap1 (by omega)]
    rfl
   by_cases hgo:k<max a.length b.length∨c=1
   ·obtain ⟨c',e1,e2⟩:=go hgo
    clear go
    have hkk:k≤max a.length b.length:=by
     rcases hgo with h | h
     ·omega
     ·rcases Nat.lt_or_ge (max a.length b.length) k with h6 | h6
      ·have:=h4' (by omega); omega
      ·exact h6
    refine .inl ⟨_,e1,⟨k + 1,_,c',rfl,by simp[h1],by omega,h3.append (LB.cons (by omega) LB.nil),by omega,?_,?_⟩,by simp; omega⟩
    ·intro hk
     have:k=max a.length b.length:=by omega
     rw[FU (by omega),FU (by omega)] at e2
     omega
    ·rw[Iu,h1,Av,Av]
     have:B (k + 1)*c'=B k*(65536*c'):=by simp only[B]; rw[Int.mul_comm 65536 (B k),Int.mul_assoc]
     rw[this]
     have hq:(dg a k + dg b k + c)%65536 + 65536*c'=dg a k + dg b k + c:=by omega
     have:B k*((dg a k + dg b k + c)%65536) + B k*(65536*c')=B k*dg a k + B k*dg b k + B k*c:=by rw[←Int.mul_add,hq,Int.mul_add,Int.mul_add]
     omega
   ·clear go
    have hc:c=0:=by omega
    have hk:max a.length b.length≤k:=by omega
    subst hc
    refine .inr ⟨out,?_,h3,?_,by omega⟩
    ·unfold C9
     rw[hM,decide_eq_false (by omega)]
     rfl
    ·rw[List.take_of_length_le (by omega),List.take_of_length_le (by omega)] at h5
     omega) ([],(a,(b,(0,0)))) ⟨0,[],0,rfl,rfl,by omega,LB.nil,.inl rfl,by omega,by simp[val,B]⟩
 exact ⟨r,by rw[h1]; rfl,h2⟩
end Go.Proofs.YthipdlhknbhiiaaGreat.Ev

end
section
namespace Go.Proofs.YthipdlhknbhiiaaGreat.Ev
open Go
theorem P6 {v:Int} (h : -65536≤v∧v<65536) : 0≤(if v<0 then v + 65536 else v)∧(if v<0 then v + 65536 else v)<65536∧(if v<0 then v + 65536 else v)-65536*(if v<0 then 1 else 0)=v∧((if v<0 then 1 else 0:Int)=0∨(if v<0 then 1 else 0:Int)=1):=by
 split <;> omega
theorem RV {k:Nat} {A Bv out d br br' v x y:Int} (h1:out-B k*br=A-Bv) (h2:d-65536*br'=v) (h3:v=x-y-br):out + B k*d-B (k + 1)*br'=A + B k*x-(Bv + B k*y):=by
 have e1:B (k + 1)*br'=B k*(65536*br'):=by simp only[B]; rw[Int.mul_comm 65536 (B k),Int.mul_assoc]
 have e2:B k*d-B k*(65536*br')=B k*x-B k*y-B k*br:=by rw[←Int.mul_sub,h2,h3,Int.mul_sub,Int.mul_sub]
 rw[e1]
 omega
theorem NY {a b:List Int} (ha:LB a) (hb:LB b) (hlen:b.length≤a.length) (na:a.length≤10000000) (hle:val b≤val a) :
  Cp a b=some (lim (val a-val b).toNat):=by
 unfold Cp
 obtain ⟨r,h1,h2⟩:=EL (f:=fun (s:((List Int)×((List Int)×((List Int)×(Int×(Int×Int))))))=>Dt s.1 s.2.1 s.2.2.1 s.2.2.2.1 s.2.2.2.2.1 s.2.2.2.2.2)
  (I:=fun s=>∃ (k:Nat) (out:List Int) (c:Int),s=(out,(a,(b,(c,((a.length:Int),(k:Int))))))∧out.length=k∧k≤a.length∧LB out∧(c=0∨c=1)∧val out-B k*c=val (a.take k)-val (b.take k))
  (R:=fun r=>LB r∧val r=val a-val b∧r.length=a.length) (fun s=>a.length + 1-s.1.length) (by
   rintro s ⟨k,out,c,rfl,h1,h2,h3,h4,h5⟩
   simp only
   by_cases hk:k<a.length
   ·have da:=AJ ha k
    have db:=AJ hb k
    have hg:=List.getElem?_eq_getElem hk
    have hx:a[k]=dg a k:=(DP hg).symm
    have hv:=P6 (v:=dg a k-dg b k-c) (by omega)
    refine .inl ⟨(out ++ [if dg a k-dg b k-c<0 then dg a k-dg b k-c + 65536 else dg a k-dg b k-c],(a,(b,((if dg a k-dg b k-c<0 then 1 else 0),((a.length:Int),((k + 1:Nat):Int)))))),?_,⟨k + 1,_,_,rfl,by simp[h1],by omega,h3.append (LB.cons (by omega) LB.nil),hv.2.2.2,?_⟩,by simp; omega⟩
    ·unfold Dt
     rw[decide_eq_true (by omega),Ak,hg]
     simp only[cond_true,Option.bind_some,Im,hx]
     rw[wrapI (n:=dg a k-dg b k) (by omega) (by omega),wrapI (n:=dg a k-dg b k-c) (by omega) (by omega),wrapI (n:=dg a k-dg b k-c + 65536) (by omega) (by omega),wrap1 (by omega)]
     by_cases hneg:dg a k-dg b k-c<0
     ·rw[decide_eq_true hneg,if_pos hneg,if_pos hneg]
      simp only[cond_true]
      rw[app1 (by omega)]
      rfl
     ·rw[decide_eq_false hneg,if_neg hneg,if_neg hneg]
      simp only[cond_false]
      rw[app1 (by omega)]
      rfl
    ·rw[Iu,h1,Av,Av]
     exact RV h5 hv.2.2.1 rfl
   ·have hk':k=a.length:=by omega
    refine .inr ⟨out,?_,h3,?_,by omega⟩
    ·unfold Dt
     rw[decide_eq_false (by omega)]
     rfl
    ·rw[List.take_of_length_le (by omega),List.take_of_length_le (by omega)] at h5
     have b1:=IV h3
     have b2:=Aw h3
     rw[h1] at b1
     rcases h4 with h4 | h4
     ·subst h4; omega
     ·subst h4; omega) ([],(a,(b,(0,((a.length:Int),0))))) ⟨0,[],0,rfl,rfl,by omega,LB.nil,.inl rfl,by simp[val,B]⟩
 rw[h1]
 simp only[Option.bind_some]
 rw[EE (by unfold Brief; omega)]
 simp only[Option.bind_some]
 rw[Bt h2.1,h2.2.1]
theorem Tb {a b:List Int} (ha:LB a) (hb:LB b) (hlen:b.length≤a.length) (na:a.length≤10000000) (hle:val b≤val a) :
  De a b=some (lim (val a-val b).toNat):=by
 unfold De
 rw[Vr (by unfold Brief; omega)]
 simp only[Option.bind_some]
 obtain ⟨r,h1,h2⟩:=EL (f:=fun (s:((List Int)×((List Int)×(Int×(Int×Int)))))=>EQ s.1 s.2.1 s.2.2.1 s.2.2.2.1 s.2.2.2.2)
  (I:=fun s=>∃ (k:Nat) (out:List Int) (c:Int),s=(out,(b,(c,((a.length:Int),(k:Int)))))∧out.length=a.length∧k≤a.length∧LB (out.take k)∧out.drop k=a.drop k∧(c=0∨c=1)∧val (out.take k)-B k*c=val (a.take k)-val (b.take k))
  (R:=fun r=>LB r∧val r=val a-val b∧r.length=a.length) (fun s=>(a.length + 1-s.2.2.2.2).toNat) (by
   rintro s ⟨k,out,c,rfl,h1,h2,h3,h3',h4,h5⟩
   simp only
   by_cases hk:k<a.length
   ·have da:=AJ ha k
    have db:=AJ hb k
    have hg:=List.getElem?_eq_getElem hk
    have hx:a[k]=dg a k:=(DP hg).symm
    have hko:k<out.length:=by omega
    have hox:out[k]? = some (dg a k):=by
     have e1:out.drop k=out[k]::out.drop (k + 1):=List.drop_eq_getElem_cons hko
     have e2:a.drop k=a[k]::a.drop (k + 1):=List.drop_eq_getElem_cons hk
     rw[List.getElem?_eq_getElem hko]
     rw[e1,e2] at h3'
     rw[(List.cons.inj h3').1,hx]
    have hv:=P6 (v:=dg a k-dg b k-c) (by omega)
    have hset:∀ y:Int,(out.set k y)[k]? = some y:=fun y=>by rw[List.getElem?_set_self hko]
    have hdg:dg (out.set k (if dg a k-dg b k-c<0 then dg a k-dg b k-c + 65536 else dg a k-dg b k-c)) k=(if dg a k-dg b k-c<0 then dg a k-dg b k-c + 65536 else dg a k-dg b k-c):=DP (hset _)
    have htk:(out.set k (if dg a k-dg b k-c<0 then dg a k-dg b k-c + 65536 else dg a k-dg b k-c)).take k=out.take k:=List.take_set_of_le (Nat.le_refl _)
    refine .inl ⟨(out.set k (if dg a k-dg b k-c<0 then dg a k-dg b k-c + 65536 else dg a k-dg b k-c),(b,((if dg a k-dg b k-c<0 then 1 else 0),((a.length:Int),((k + 1:Nat):Int))))),?_,⟨k + 1,_,_,rfl,by simp[h1],by omega,?_,?_,hv.2.2.2,?_⟩,by simp; omega⟩
    ·unfold EQ getN
     have i1:idxI (k:Int) out.length=some k:=AQ hko
     have i2:∀ y:Int,idxI (k:Int) (out.set k y).length=some k:=fun y=>by rw[List.length_set]; exact i1
     rw[decide_eq_true (by omega)]
     simp only[cond_true,i1,Option.bind_some,hox,i2,hset,Ak]
     have hw1:=wrap1 (show k<4611686018427387904 by omega)
     rw[wrapI (n:=dg a k-c) (by omega) (by omega)]
     have s1:(bif decide ((k:Int)<((b.length:Nat):Int)) then (b[k]?).bind fun x6=>some (Sum.inr (α:=(List Int×List Int×Int×Int×Int) ⊕ List Int) ((out.set k (dg a k-c)).set k (IntKind.wrap .i64 (dg a k-c-x6)),(b,((k:Int),((a.length:Int),(k:Int)))))) else some (Sum.inr (out.set k (dg a k-c),(b,((k:Int),((a.length:Int),(k:Int)))))))=some (Sum.inr (out.set k (dg a k-dg b k-c),(b,((k:Int),((a.length:Int),(k:Int)))))):=by
      rcases Nat.lt_or_ge k b.length with hkb | hkb
      ·rw[decide_eq_true (by omega),List.getElem?_eq_getElem hkb,←DP (List.getElem?_eq_getElem hkb)]
       simp only[cond_true,Option.bind_some,List.set_set]
       rw[wrapI (by omega) (by omega),show dg a k-c-dg b k=dg a k-dg b k-c by omega]
      ·rw[decide_eq_false (by omega),FU hkb,show dg a k-0-c=dg a k-c by omega]
       rfl
     rw[s1]
     simp only[Option.bind_some,Sum.elim_inr,i2,hset,List.set_set,hw1]
     by_cases hneg:dg a k-dg b k-c<0
     ·rw[decide_eq_true hneg,if_pos hneg,if_pos hneg,wrapI (by omega) (by omega)]
      rfl
     ·rw[decide_eq_false hneg,if_neg hneg,if_neg hneg]
      rfl
    ·rw[List.take_add_one,htk,hset]
     exact h3.append (LB.cons (by omega) LB.nil)
    ·rw[List.drop_set_of_lt (by omega)]
     have:out.drop (k + 1)=(out.drop k).drop 1:=by rw[List.drop_drop]
     rw[this,h3',List.drop_drop]
    ·rw[Av (out.set k _),Av a,Av b,htk,hdg]
     exact RV h5 hv.2.2.1 rfl
   ·have hk':k=a.length:=by omega
    refine .inr ⟨out,?_,?_,?_,h1⟩
    ·unfold EQ
     rw[decide_eq_false (by omega)]
     rfl
    ·rw[List.take_of_length_le (by omega)] at h3; exact h3
    ·rw[List.take_of_length_le (by omega)] at h3 h5
     rw[List.take_of_length_le (by omega),List.take_of_length_le (by omega)] at h5
     have b1:=IV h3
     have b2:=Aw h3
     rw[h1,←hk'] at b1
     rcases h4 with h4 | h4
     ·subst h4; omega
     ·subst h4; omega) (a,(b,(0,((a.length:Int),0)))) ⟨0,a,0,rfl,rfl,by omega,by rw[List.take_zero]; exact LB.nil,rfl,.inl rfl,by simp[val,B]⟩
 rw[h1]
 simp only[Option.bind_some]
 rw[Vd (by unfold Brief; omega)]
 simp only[Option.bind_some]
 rw[Bt h2.1,h2.2.1]
end Go.Proofs.YthipdlhknbhiiaaGreat.Ev

end
section
namespace Go.Proofs.YthipdlhknbhiiaaGreat.Ev
open Go
theorem Ek {n k:Nat} (h:(n:Int)<B k) (hk:k≤1000000):(lim n).length≤1000000:=Nat.le_trans (Ah.2 h) hk
theorem Lo {x y:Int} {k:Nat} (hk:k≤1000000) (hx:(x.natAbs:Int)<B k) (hy:(y.natAbs:Int)<B k):Cw (big x) (big y)=some (big (x + y)):=by
 have lx:=Ek hx hk
 have ly:=Ek hy hk
 unfold Cw big
 simp only
 by_cases hs:decide (x<0)=decide (y<0)
 ·rw[hs,beq_self_eq_true]
  obtain ⟨r,e1,e2,e3,e4⟩:=Aj4 (Ao x.natAbs) (Ao y.natAbs) (by omega) (by omega)
  rw[Aj,Aj] at e3
  simp only[cond_true,e1,Option.bind_some]
  rw[Fn e2 (by unfold Brief; omega)]
  simp only[Option.bind_some]
  have hv:(val r).toNat=(x + y).natAbs:=by
   by_cases h1:x<0
   ·have:y<0:=by simpa[h1] using hs
    omega
   ·have:¬y<0:=by simpa[h1] using hs
    omega
  rw[hv]
  congr 2
  by_cases h2:y<0
  ·have h1:x<0:=by simpa[h2] using hs
   rw[decide_eq_true h2,decide_eq_true (show x + y<0 by omega),decide_eq_true (show (x + y).natAbs≠0 by omega)]; rfl
  ·have h1:¬x<0:=by simpa[h2] using hs
   rw[decide_eq_false h2,decide_eq_false (show ¬x + y<0 by omega)]; rfl
 ·have hb:(decide (x<0)==decide (y<0))=false:=by simpa using hs
  rw[hb]
  simp only[cond_false]
  rw[GF (by unfold Brief; omega) (by unfold Brief; omega)]
  simp only[Option.bind_some]
  have hxy:(x<0∧¬y<0)∨(¬x<0∧y<0):=by
   by_cases h1:x<0 <;> by_cases h2:y<0 <;> simp[h1,h2] at hs ⊢
  rcases Nat.lt_or_ge x.natAbs y.natAbs with hlt | hge
  ·rw[Cz (by omega),decide_eq_false (by omega)]
   simp only[cond_false]
   have hl:(lim x.natAbs).length≤(lim y.natAbs).length:=Ah.2 (by have:=Ah.1 (Nat.le_refl (lim y.natAbs).length); omega)
   rw[Tb (Ao _) (Ao _) hl (by omega) (by rw[Aj,Aj]; omega)]
   simp only[Option.bind_some,Aj]
   have e:((y.natAbs:Int)-(x.natAbs:Int)).toNat=(x + y).natAbs:=by omega
   rw[e,Fn (Ao _) (by
    have:(lim (x + y).natAbs).length≤(lim y.natAbs).length:=Ah.2 (by have:=Ah.1 (Nat.le_refl (lim y.natAbs).length); omega)
    unfold Brief; omega)]
   simp only[Option.bind_some,Aj,Int.toNat_natCast]
   congr 2
   by_cases h2:y<0
   ·rw[decide_eq_true h2,decide_eq_true (show x + y<0 by omega),decide_eq_true (show (x + y).natAbs≠0 by omega)]; rfl
   ·rw[decide_eq_false h2,decide_eq_false (show ¬x + y<0 by omega)]; rfl
  ·have hc:cmpZ (x.natAbs:Int) (y.natAbs:Int)≥0:=by unfold cmpZ; rw[if_neg (by omega)]; split <;> omega
   rw[decide_eq_true hc]
   simp only[cond_true]
   have hl:(lim y.natAbs).length≤(lim x.natAbs).length:=Ah.2 (by have:=Ah.1 (Nat.le_refl (lim x.natAbs).length); omega)
   rw[Tb (Ao _) (Ao _) hl (by omega) (by rw[Aj,Aj]; omega)]
   simp only[Option.bind_some,Aj]
   have e:((x.natAbs:Int)-(y.natAbs:Int)).toNat=(x + y).natAbs:=by omega
   rw[e,Fn (Ao _) (by
    have:(lim (x + y).natAbs).length≤(lim x.natAbs).length:=Ah.2 (by have:=Ah.1 (Nat.le_refl (lim x.natAbs).length); omega)
    unfold Brief; omega)]
   simp only[Option.bind_some,Aj,Int.toNat_natCast]
   congr 2
   by_cases h2:x<0
   ·rw[decide_eq_true h2]
    by_cases h3:x + y<0
    ·rw[decide_eq_true h3,decide_eq_true (show (x + y).natAbs≠0 by omega)]; rfl
    ·rw[decide_eq_false h3,decide_eq_false (show ¬(x + y).natAbs≠0 by omega)]; rfl
   ·rw[decide_eq_false h2,decide_eq_false (show ¬x + y<0 by omega)]; rfl
theorem Mm {o x y c:Int} (ho : 0≤o∧o<65536) (hx : 0≤x∧x<65536) (hy : 0≤y∧y<65536) (hc : 0≤c∧c<65536) :
  (0≤x*y∧x*y≤4294836225)∧0≤(o + x*y + c)/65536∧(o + x*y + c)/65536<65536∧0≤(o + x*y + c)%65536∧(o + x*y + c)%65536<65536∧(o + x*y + c)%65536 + 65536*((o + x*y + c)/65536)=o + x*y + c:=by
 have h1 : 0≤x*y:=Int.mul_nonneg hx.1 hy.1
 have h2:x*y≤65535*65535:=Int.le_trans (Int.mul_le_mul_of_nonneg_left (show y≤65535 by omega) hx.1) (Int.mul_le_mul_of_nonneg_right (show x≤65535 by omega) (by omega))
 omega
theorem ZJ {out:List Int} {p:Nat} {o d c c' t V:Int} (ho:out[p]? = some o) (hd:d + 65536*c'=o + t + c) (hV:val out + B p*c=V):val (out.set p d) + B (p + 1)*c'=V + B p*t:=by
 rw[DM ho]
 have e1:B (p + 1)*c'=B p*(65536*c'):=by simp only[B]; rw[Int.mul_comm 65536 (B p),Int.mul_assoc]
 have e2:B p*d + B p*(65536*c')=B p*o + B p*t + B p*c:=by rw[←Int.mul_add,hd,Int.mul_add,Int.mul_add]
 rw[e1,Int.mul_sub]
 omega
theorem Ag {l:List Int} {k:Nat} (h:k<l.length):l[k]? = some (dg l k):=by rw[List.getElem?_eq_getElem h,DP (List.getElem?_eq_getElem h)]
theorem Bj {l:List Int} {k j:Nat} {x:Int} (h:k≠j):dg (l.set k x) j=dg l j:=by
 unfold dg
 rw[List.getD_eq_getElem?_getD,List.getD_eq_getElem?_getD,List.getElem?_set_ne h]
structure Row (out0 out:List Int) (i k:Nat) (c x:Int) (b:List Int):Prop where
 len:out.length=out0.length
 lb:LB out
 hi:∀ j,i + k≤j→dg out j=dg out0 j
 c0 : 0≤c
 c1:c<65536
 v:val out + B (i + k)*c=val out0 + B i*(x*val (b.take k))
theorem Row.start {out0:List Int} (h:LB out0) (i:Nat) (x:Int) (b:List Int):Row out0 out0 i 0 0 x b:=⟨rfl,h,fun _ _=>rfl,by omega,by omega,by simp[val]⟩
theorem Row.next {out0 out:List Int} {i k:Nat} {c x:Int} {b:List Int} (h:Row out0 out i k c x b) (hb:LB b) (hx : 0≤x∧x<65536) (hk:i + k<out.length) :
  Row out0 (out.set (i + k) ((dg out (i + k) + x*dg b k + c)%65536)) i (k + 1) ((dg out (i + k) + x*dg b k + c)/65536) x b:=by
 have hs:=Mm (AJ h.lb (i + k)) hx (AJ hb k) ⟨h.c0,h.c1⟩
 refine ⟨by rw[List.length_set]; exact h.len,h.lb.set ⟨hs.2.2.2.1,hs.2.2.2.2.1⟩,fun j hj=>by rw[Bj (by omega)]; exact h.hi j (by omega),hs.2.1,hs.2.2.1,?_⟩
 have:=ZJ (Ag hk) hs.2.2.2.2.2 h.v
 rw[show i + (k + 1)=i + k + 1 by omega,this,Av,Int.mul_add,Int.mul_add]
 have:B (i + k)*(x*dg b k)=B i*(x*(B k*dg b k)):=by rw[Nk]; grind
 omega
theorem Ar8 {a0 a1 a2:Bool×List Int} {out0:List Int} {i:Nat} {x:Int} (hx : 0≤x∧x<65536) (h0:LB out0) (hb:LB a1.2) (hlen:i + a1.2.length≤out0.length) (ho:out0.length≤10000000) (s7:List Int) (s8 s9:Int) :
  ∃ out c,loopM (fun (s:((Bool×(List Int))×((Bool×(List Int))×((Bool×(List Int))×((List Int)×(Int×(Int×(Int×((List Int)×(Int×(Int×((List Int)×(Int×Int)))))))))))))=>DL s.1 s.2.1 s.2.2.1 s.2.2.2.1 s.2.2.2.2.1 s.2.2.2.2.2.1 s.2.2.2.2.2.2.1 s.2.2.2.2.2.2.2.1 s.2.2.2.2.2.2.2.2.1 s.2.2.2.2.2.2.2.2.2.1 s.2.2.2.2.2.2.2.2.2.2.1 s.2.2.2.2.2.2.2.2.2.2.2.1 s.2.2.2.2.2.2.2.2.2.2.2.2) ((a0.1,a0.2),((a1.1,a1.2),((a2.1,a2.2),(out0,((i:Int),(x,((0:Int),(s7,(s8,(s9,(a1.2,((((List.length a1.2):Nat):Int),(0:Int))))))))))))) =
   some ((a0.1,a0.2),((a1.1,a1.2),((a2.1,a2.2),(out,((i:Int),(c,(s7,(s8,s9))))))))∧Row out0 out i a1.2.length c x a1.2:=by
 obtain ⟨⟨out,c⟩,h1,h2⟩:=Gb (body:=fun (s:((Bool×(List Int))×((Bool×(List Int))×((Bool×(List Int))×((List Int)×(Int×(Int×(Int×((List Int)×(Int×(Int×((List Int)×(Int×Int)))))))))))))=>DL s.1 s.2.1 s.2.2.1 s.2.2.2.1 s.2.2.2.2.1 s.2.2.2.2.2.1 s.2.2.2.2.2.2.1 s.2.2.2.2.2.2.2.1 s.2.2.2.2.2.2.2.2.1 s.2.2.2.2.2.2.2.2.2.1 s.2.2.2.2.2.2.2.2.2.2.1 s.2.2.2.2.2.2.2.2.2.2.2.1 s.2.2.2.2.2.2.2.2.2.2.2.2)
  (st:=fun k (b:List Int×Int)=>((a0.1,a0.2),((a1.1,a1.2),((a2.1,a2.2),(b.1,((i:Int),(x,(b.2,(s7,(s8,(s9,(a1.2,((((List.length a1.2):Nat):Int),(k:Int))))))))))))))
  (fin:=fun b=>((a0.1,a0.2),((a1.1,a1.2),((a2.1,a2.2),(b.1,((i:Int),(b.2,(s7,(s8,s9)))))))))
  (I:=fun k b=>Row out0 b.1 i k b.2 x a1.2) (e:=a1.2.length)
  (by
   rintro k ⟨out,c⟩ hk hI
   simp only at hI
   have hl:=hI.len
   have hp:i + k<out.length:=by omega
   have hs:=Mm (AJ hI.lb (i + k)) hx (AJ hb k) ⟨hI.c0,hI.c1⟩
   have dl:=AJ hI.lb (i + k)
   have c0:=hI.c0
   have c1:=hI.c1
   refine ⟨(_,_),?_,hI.next hb hx hp⟩
   unfold DL getN
   dsimp only
   have i1:idxI ((i:Int) + (k:Int)) out.length=some (i + k):=by rw[show (i:Int) + (k:Int)=((i + k:Nat):Int) by omega]; exact AQ hp
   rw[decide_eq_true (by omega),wrapI (n:=(i:Int) + (k:Int)) (by omega) (by omega)]
   simp only[cond_true,Ak,Ag hk,Option.bind_some,i1,Ag hp]
   rw[wrapI (n:=x*dg a1.2 k) (by omega) (by omega),wrapI (n:=dg out (i + k) + x*dg a1.2 k) (by omega) (by omega),wrapI (n:=c + (dg out (i + k) + x*dg a1.2 k)) (by omega) (by omega),show c + (dg out (i + k) + x*dg a1.2 k)=dg out (i + k) + x*dg a1.2 k + c by omega,
    Int.tmod_eq_emod_of_nonneg (by omega),Int.tdiv_eq_ediv_of_nonneg (by omega),wrapI (n:=(dg out (i + k) + x*dg a1.2 k + c)/65536) (by omega) (by omega),wrap1 (by omega)])
  (by
   rintro ⟨out,c⟩ _
   unfold DL
   dsimp only
   rw[decide_eq_false (by omega)]
   rfl) 0 (out0,0) (by omega) (Row.start h0 i x _)
 exact ⟨out,c,h1,h2⟩
theorem Ck {x y:Int} {k:Nat} (hk:k≤100000) (hx:(x.natAbs:Int)<B k) (hy:(y.natAbs:Int)<B k):∃ r,AV (big x) (big y)=some r∧(r.2,r.1)=big (x*y):=by
 have lx:=Nat.le_trans (Ah.2 hx) hk
 have ly:=Nat.le_trans (Ah.2 hy) hk
 unfold AV
 generalize ha:lim x.natAbs=a at lx
 generalize hb':lim y.natAbs=b at ly
 have la:LB a:=ha▸Ao _
 have lb:LB b:=hb'▸Ao _
 have e1:(big x).2=a:=ha
 have e2:(big y).2=b:=hb'
 rw[e1,e2,wrapI (by omega) (by omega),show ((a.length:Nat):Int) + ((b.length:Nat):Int)=((a.length + b.length:Nat):Int) by omega,FD (by unfold maxBytes; omega) (by unfold maxBytes; omega)]
 simp only[Option.bind_some]
 obtain ⟨out,h1,h2⟩:=Gb (body:=fun (s:((Bool×(List Int))×((Bool×(List Int))×((Bool×(List Int))×((List Int)×((List Int)×(Int×Int)))))))=>Fq s.1 s.2.1 s.2.2.1 s.2.2.2.1 s.2.2.2.2.1 s.2.2.2.2.2.1 s.2.2.2.2.2.2)
  (st:=fun i (o:List Int)=>(((big x).1,a),(((big y).1,b),((false,([]:List Int)),(o,(a,(((a.length:Nat):Int),(i:Int))))))))
  (fin:=fun o=>(((big x).1,a),(((big y).1,b),((false,([]:List Int)),o))))
  (I:=fun i o=>o.length=a.length + b.length∧LB o∧(∀ j,i + b.length≤j→dg o j=0)∧val o=val (a.take i)*val b) (e:=a.length)
  (by
   rintro i o hi ⟨h1,h2,h3,h4⟩
   have hd:=AJ la i
   obtain ⟨o1,c,q1,q2⟩:=Ar8 (a0:=((big x).1,a)) (a1:=((big y).1,b)) (a2:=(false,[])) hd h2 lb (show i + b.length≤o.length by omega) (show o.length≤10000000 by omega) a ((a.length:Nat):Int) (i:Int)
   simp only at q1 q2
   have hl1:=q2.len
   have hp:i + b.length<o1.length:=by omega
   have hz:dg o1 (i + b.length)=0:=by rw[q2.hi _ (Nat.le_refl _),h3 _ (by omega)]
   have c0:=q2.c0
   have c1:=q2.c1
   refine ⟨o1.set (i + b.length) c,?_,by rw[List.length_set]; omega,q2.lb.set ⟨c0,c1⟩,fun j hj=>?_,?_⟩
   ·unfold Fq getN
    dsimp only
    rw[decide_eq_true (by omega),Ak,Ag hi]
    simp only[cond_true,Option.bind_some]
    rw[q1]
    simp only[Option.bind_some]
    have i1:idxI ((i:Int) + ((b.length:Nat):Int)) o1.length=some (i + b.length):=by rw[show (i:Int) + ((b.length:Nat):Int)=((i + b.length:Nat):Int) by omega]; exact AQ hp
    rw[wrapI (n:=(i:Int) + ((b.length:Nat):Int)) (by omega) (by omega),i1]
    simp only[Option.bind_some,Ag hp,hz]
    rw[wrapI (n:=0 + c) (by omega) (by omega),wrap1 (by omega),Int.zero_add]
   ·rw[Bj (by omega),q2.hi j (by omega),h3 j (by omega)]
   ·rw[DM (Ag hp),hz,Int.sub_zero]
    have hv:=q2.v
    rw[List.take_length] at hv
    rw[Av,Int.add_mul,←h4]
    have:B i*dg a i*val b=B i*(dg a i*val b):=Int.mul_assoc ..
    omega)
  (by
   rintro o _
   unfold Fq
   dsimp only
   rw[decide_eq_false (by omega)]
   rfl) 0 (List.replicate (a.length + b.length) 0) (by omega) ⟨by simp,LB.zeros _,fun j _=>by
    unfold dg; rw[List.getD_eq_getElem?_getD,List.getElem?_replicate]; split <;> rfl,by rw[Dg]; simp[val]⟩
 rw[show ((0:Nat):Int)=0 from rfl] at h1
 rw[h1]
 obtain ⟨g1,g2,g3,g4⟩:=h2
 rw[List.take_length] at g4
 simp only[Option.bind_some]
 rw[Fn g2 (by unfold Brief; omega)]
 simp only[Option.bind_some]
 refine ⟨_,rfl,?_⟩
 have hv:(val out).toNat=(x*y).natAbs:=by rw[g4,←ha,←hb',Aj,Aj,Int.natAbs_mul]; omega
 rw[hv]
 unfold big
 congr 1
 by_cases hx0:x=0
 ·subst hx0; simp
 ·by_cases hy0:y=0
  ·subst hy0; simp
  ·have hne:(x*y).natAbs≠0:=by
    rw[Int.natAbs_mul]
    intro h
    rcases Nat.mul_eq_zero.1 h with h | h <;> omega
   rw[decide_eq_true hne]
   by_cases h1:x<0
   ·by_cases h2:y<0
    ·have:=Int.mul_pos_of_neg_of_neg h1 h2
     rw[decide_eq_true h1,decide_eq_true h2,decide_eq_false (by omega)]; rfl
    ·have:=Int.mul_neg_of_neg_of_pos h1 (show 0<y by omega)
     rw[decide_eq_true h1,decide_eq_false h2,decide_eq_true (by omega)]; rfl
   ·by_cases h2:y<0
    ·have:=Int.mul_neg_of_pos_of_neg (show 0<x by omega) h2
     rw[decide_eq_false h1,decide_eq_true h2,decide_eq_true (by omega)]; rfl
    ·have:=Int.mul_pos (show 0<x by omega) (show 0<y by omega)
     rw[decide_eq_false h1,decide_eq_false h2,decide_eq_false (by omega)]; rfl
end Go.Proofs.YthipdlhknbhiiaaGreat.Ev

end
section
namespace Go.Proofs.YthipdlhknbhiiaaGreat.Ev
open Go
theorem Ar0 {out0 b:List Int} {i:Nat} {x:Int} (hx : 0≤x∧x<65536) (h0:LB out0) (hb:LB b) (hlen:i + b.length<out0.length) (hz:∀ j,i + b.length≤j→dg out0 j=0) (ho:out0.length≤10000000) (s6:List Int) (s7 s8:Int) :
  ∃ out,loopM (fun (s:((List Int)×((List Int)×(Int×(Int×(Int×(Int×((List Int)×(Int×Int)))))))))=>Cj s.1 s.2.1 s.2.2.1 s.2.2.2.1 s.2.2.2.2.1 s.2.2.2.2.2.1 s.2.2.2.2.2.2.1 s.2.2.2.2.2.2.2.1 s.2.2.2.2.2.2.2.2) (out0,(b,((i:Int),(x,((0:Int),((0:Int),(s6,(s7,s8))))))))=some (out,(b,(s6,(s7,s8)))) ∧
   out.length=out0.length∧LB out∧(∀ j,i + 1 + b.length≤j→dg out j=0)∧val out=val out0 + B i*(x*val b):=by
 obtain ⟨r,h1,out,rfl,h2⟩:=EL (f:=fun (s:((List Int)×((List Int)×(Int×(Int×(Int×(Int×((List Int)×(Int×Int)))))))))=>Cj s.1 s.2.1 s.2.2.1 s.2.2.2.1 s.2.2.2.2.1 s.2.2.2.2.2.1 s.2.2.2.2.2.2.1 s.2.2.2.2.2.2.2.1 s.2.2.2.2.2.2.2.2)
  (I:=fun s=>∃ (k:Nat) (out:List Int) (c:Int),s=(out,(b,((i:Int),(x,(c,((k:Int),(s6,(s7,s8))))))))∧k≤b.length + 1∧Row out0 out i k c x b∧(k=b.length + 1→c=0))
  (R:=fun r=>∃ out,r=(out,(b,(s6,(s7,s8))))∧out.length=out0.length∧LB out∧(∀ j,i + 1 + b.length≤j→dg out j=0)∧val out=val out0 + B i*(x*val b)) (fun s=>(b.length + 2-s.2.2.2.2.2.1).toNat) (by
   rintro s ⟨k,out,c,rfl,hk,hR,hc⟩
   simp only
   have hl:=hR.len
   have c0:=hR.c0
   have c1:=hR.c1
   by_cases hgo:k<b.length∨c>0
   ·have hkb:k≤b.length:=by
     rcases hgo with h | h
     ·omega
     ·rcases Nat.lt_or_ge b.length k with h6 | h6
      ·have:=hc (by omega); omega
      ·exact h6
    have hp:i + k<out.length:=by omega
    have hs:=Mm (AJ hR.lb (i + k)) hx (AJ hb k) ⟨c0,c1⟩
    have dl:=AJ hR.lb (i + k)
    refine .inl ⟨(out.set (i + k) ((dg out (i + k) + x*dg b k + c)%65536),(b,((i:Int),(x,((dg out (i + k) + x*dg b k + c)/65536,(((k + 1:Nat):Int),(s6,(s7,s8)))))))),?_,⟨k + 1,_,_,rfl,by omega,hR.next hb hx hp,fun he=>?_⟩,by simp only; omega⟩
    ·unfold Cj getN
     have hcond:(bif decide ((k:Int)<((b.length:Nat):Int)) then some (Sum.inr (α:=(List Int×List Int×Int×Int×Int×Int×List Int×Int×Int) ⊕ (List Int×List Int×List Int×Int×Int)) (out,(b,((i:Int),(x,(c,((k:Int),(s6,(s7,s8))))))))) else bif decide (c>0) then some (Sum.inr (out,(b,((i:Int),(x,(c,((k:Int),(s6,(s7,s8))))))))) else some (Sum.inl (Sum.inr (out,(b,(s6,(s7,s8)))))))=some (Sum.inr (out,(b,((i:Int),(x,(c,((k:Int),(s6,(s7,s8))))))))):=by
      by_cases g1:(k:Int)<(b.length:Int)
      ·rw[decide_eq_true g1]; rfl
      ·have:c>0:=by rcases hgo with h | h <;> omega
       rw[decide_eq_false g1,decide_eq_true this]; rfl
     rw[hcond]
     have i1:idxI ((i:Int) + (k:Int)) out.length=some (i + k):=by rw[show (i:Int) + (k:Int)=((i + k:Nat):Int) by omega]; exact AQ hp
     simp only[Option.bind_some,Sum.elim_inr]
     rw[wrapI (n:=(i:Int) + (k:Int)) (by omega) (by omega),i1]
     simp only[Option.bind_some,Ag hp,Im]
     rw[wrapI (n:=x*dg b k) (by omega) (by omega),wrapI (n:=dg out (i + k) + x*dg b k) (by omega) (by omega),wrapI (n:=dg out (i + k) + x*dg b k + c) (by omega) (by omega),
      Int.tmod_eq_emod_of_nonneg (by omega),Int.tdiv_eq_ediv_of_nonneg (by omega),wrapI (n:=(dg out (i + k) + x*dg b k + c)/65536) (by omega) (by omega),wrap1 (by omega)]
    ·have hkb':k=b.length:=by omega
     have z1:dg b k=0:=FU (by omega)
     have z2:dg out (i + k)=0:=by rw[hR.hi _ (Nat.le_refl _),hz _ (by omega)]
     rw[z1,z2,Int.mul_zero]
     omega
   ·have hkb:b.length≤k:=by omega
    have hcz:c=0:=by omega
    subst hcz
    refine .inr ⟨_,?_,out,rfl,hl,hR.lb,fun j hj=>?_,?_⟩
    ·unfold Cj
     rw[decide_eq_false (by omega),decide_eq_false (by omega)]
     rfl
    ·rw[hR.hi j (by omega),hz j (by omega)]
    ·have:=hR.v
     rw[List.take_of_length_le hkb] at this
     omega) (out0,(b,((i:Int),(x,((0:Int),((0:Int),(s6,(s7,s8)))))))) ⟨0,out0,0,rfl,by omega,Row.start h0 i x b,by omega⟩
 exact ⟨out,h1,h2⟩
theorem Xb {a b:List Int} (ha:LB a) (hb:LB b) (na:a.length≤100000) (nb:b.length≤100000):C1 a b=some (lim (val a*val b).toNat):=by
 unfold C1
 rw[wrapI (n:=((a.length:Nat):Int) + ((b.length:Nat):Int)) (by omega) (by omega),wrapI (by omega) (by omega),show ((a.length:Nat):Int) + ((b.length:Nat):Int) + 1=((a.length + b.length + 1:Nat):Int) by omega,FD (by unfold maxBytes; omega) (by unfold maxBytes; omega)]
 simp only[Option.bind_some]
 obtain ⟨out,h1,h2⟩:=Gb (body:=fun (s:((List Int)×((List Int)×((List Int)×(Int×Int)))))=>Df s.1 s.2.1 s.2.2.1 s.2.2.2.1 s.2.2.2.2)
  (st:=fun i (o:List Int)=>(o,(b,(a,(((a.length:Nat):Int),(i:Int)))))) (fin:=fun o=>o)
  (I:=fun i o=>o.length=a.length + b.length + 1∧LB o∧(∀ j,i + b.length≤j→dg o j=0)∧val o=val (a.take i)*val b) (e:=a.length)
  (by
   rintro i o hi ⟨h1,h2,h3,h4⟩
   have hd:=AJ ha i
   obtain ⟨o1,q1,q2,q3,q4,q5⟩:=Ar0 hd h2 hb (show i + b.length<o.length by omega) h3 (by omega) a ((a.length:Nat):Int) (i:Int)
   refine ⟨o1,?_,by omega,q3,q4,?_⟩
   ·unfold Df
    dsimp only
    rw[decide_eq_true (by omega),Ak,Ag hi]
    simp only[cond_true,Option.bind_some]
    rw[q1]
    simp only[Option.bind_some]
    rw[wrap1 (by omega)]
   ·rw[q5,h4,Av,Int.add_mul]
    have:B i*dg a i*val b=B i*(dg a i*val b):=Int.mul_assoc ..
    omega)
  (by
   rintro o _
   unfold Df
   dsimp only
   rw[decide_eq_false (by omega)]
   rfl) 0 (List.replicate (a.length + b.length + 1) 0) (by omega) ⟨by simp,LB.zeros _,fun j _=>by
    unfold dg; rw[List.getD_eq_getElem?_getD,List.getElem?_replicate]; split <;> rfl,by rw[Dg]; simp[val]⟩
 rw[show ((0:Nat):Int)=0 from rfl] at h1
 rw[h1]
 obtain ⟨g1,g2,g3,g4⟩:=h2
 rw[List.take_length] at g4
 simp only[Option.bind_some]
 rw[EE (by unfold Brief; omega)]
 simp only[Option.bind_some]
 rw[Bt g2,g4]
theorem AK0 {x y:Int} (h:(x*y).natAbs≠0):(!(decide (x<0)==decide (y<0)))=decide (x*y<0):=by
 have hx:x≠0:=by rintro rfl; simp at h
 have hy:y≠0:=by rintro rfl; simp at h
 by_cases h1:x<0
 ·by_cases h2:y<0
  ·have:=Int.mul_pos_of_neg_of_neg h1 h2
   rw[decide_eq_true h1,decide_eq_true h2,decide_eq_false (by omega)]; rfl
  ·have:=Int.mul_neg_of_neg_of_pos h1 (show 0<y by omega)
   rw[decide_eq_true h1,decide_eq_false h2,decide_eq_true (by omega)]; rfl
 ·by_cases h2:y<0
  ·have:=Int.mul_neg_of_pos_of_neg (show 0<x by omega) h2
   rw[decide_eq_false h1,decide_eq_true h2,decide_eq_true (by omega)]; rfl
  ·have:=Int.mul_pos (show 0<x by omega) (show 0<y by omega)
   rw[decide_eq_false h1,decide_eq_false h2,decide_eq_false (by omega)]; rfl
theorem UN (x y:Int):((!(decide (x<0)==decide (y<0)))&&decide ((x*y).natAbs≠0),lim (x*y).natAbs)=big (x*y):=by
 unfold big
 congr 1
 by_cases h:(x*y).natAbs≠0
 ·rw[AK0 h,decide_eq_true h,Bool.and_true]
 ·rw[decide_eq_false h,Bool.and_false,decide_eq_false (by omega)]
theorem Gd {x y:Int} {k:Nat} (hk:k≤100000) (hx:(x.natAbs:Int)<B k) (hy:(y.natAbs:Int)<B k):BM (big x) (big y)=some (big (x*y)):=by
 have lx:=Nat.le_trans (Ah.2 hx) hk
 have ly:=Nat.le_trans (Ah.2 hy) hk
 unfold BM
 rw[show (big x).2=lim x.natAbs from rfl,show (big y).2=lim y.natAbs from rfl,Xb (Ao _) (Ao _) lx ly]
 have e:(val (lim x.natAbs)*val (lim y.natAbs)).toNat=(x*y).natAbs:=by rw[Aj,Aj,Int.natAbs_mul]; omega
 have hl:(lim (x*y).natAbs).length≤k + k:=by
  rw[Ah,Int.natAbs_mul,Nk]
  have h1:=Ez k
  have:((x.natAbs*y.natAbs:Nat):Int)=(x.natAbs:Int)*(y.natAbs:Int):=by simp
  rw[this]
  exact Int.lt_of_le_of_lt (Int.mul_le_mul_of_nonneg_right (Int.le_of_lt hx) (by omega)) (Int.mul_lt_mul_of_pos_left hy h1)
 simp only[Option.bind_some]
 rw[e,CX (Ao _) (by unfold Brief; omega)]
 simp only[Option.bind_some,Aj,Int.toNat_natCast]
 rw[←UN]
 rfl
end Go.Proofs.YthipdlhknbhiiaaGreat.Ev

end
section
namespace Go.Proofs.YthipdlhknbhiiaaGreat.Ev
open Go
theorem Bu (l:List Int) (h:Nat):val l=val (l.take h) + B h*val (l.drop h):=by
 rcases Nat.le_or_ge h l.length with hc | hc
 ·exact OI l h hc
 ·rw[List.take_of_length_le hc,List.drop_eq_nil_of_le hc]; simp[val]
theorem AU0 {l:List Int} (h:LB l):((val l).toNat:Int)=val l:=by have:=Aw h; omega
theorem fit2 {x y:Nat} {p q:Nat} (h1:(x:Int)<B p) (h2:(y:Int)<B q):((x*y:Nat):Int)<B (p + q):=by
 rw[Nk,show ((x*y:Nat):Int)=(x:Int)*(y:Int) by simp]
 exact Int.lt_of_le_of_lt (Int.mul_le_mul_of_nonneg_right (Int.le_of_lt h1) (by omega)) (Int.mul_lt_mul_of_pos_left h2 (Ez p))
theorem AH9 {l:List Int} (hl:LB l) (n k:Nat) (h:l.length≤n):(lim (val l).toNat).length≤n:=by
 rw[Ah,AU0 hl]
 have:=IV hl
 have:=G6 h
 omega
end Go.Proofs.YthipdlhknbhiiaaGreat.Ev

end
section
namespace Go.Proofs.YthipdlhknbhiiaaGreat.Ev
open Go
theorem Tv {n:Nat} (h:n≠0):lim n=((n%65536:Nat):Int)::lim (n/65536):=by
 conv=>lhs; unfold lim
 rw[dif_neg h]
theorem NR (s:Bool×List Int) (neg:Bool):∀ (f:Nat) (n:Nat) (acc:List Int),n≤f→n<18446744073709551616→acc.length + (lim n).length≤10000 →
  loopM (fun (s:((Bool×(List Int))×((List Int)×(Bool×Int))))=>HJ s.1 s.2.1 s.2.2.1 s.2.2.2) (s,(acc,(neg,(n:Int))))=some (s,(acc++lim n,neg)):=by
 intro f
 induction f with
 | zero =>
  intro n acc hn _ _
  have:n=0:=by omega
  subst this
  rw[Bi,List.append_nil]
  exact Ap rfl
 | succ f ih =>
  intro n acc hn h64 h2
  by_cases h0:n=0
  ·subst h0
   rw[Bi,List.append_nil]
   exact Ap rfl
  ·rw[Tv h0] at h2 ⊢
   simp only[List.length_cons] at h2
   have hstep:HJ s acc neg (n:Int)=some (.inl (s,(acc ++ [((n%65536:Nat):Int)],(neg,((n/65536:Nat):Int))))):=by
    unfold HJ
    rw[decide_eq_true (by omega),Int.tmod_eq_emod_of_nonneg (by omega),Int.tdiv_eq_ediv_of_nonneg (by omega),wrapI (by omega) (by omega),wrapU (by omega) (by omega)]
    simp only[cond_true]
    rw[app1 (by omega)]
    simp only[Option.bind_some]
    rw[show (n:Int)%65536=((n%65536:Nat):Int) by omega,show (n:Int)/65536=((n/65536:Nat):Int) by omega]
   have:=ih (n/65536) (acc ++ [((n%65536:Nat):Int)]) (by omega) (by omega) (by simp; omega)
   rw[AX hstep,this,List.append_assoc]
   rfl
theorem lim64 {n:Nat} (h:n<18446744073709551616):(lim n).length≤4:=Ah.2 (by have:B 4=18446744073709551616:=rfl; omega)
theorem Na {n:Int} (h1 : -9223372036854775808≤n) (h2:n≤9223372036854775807):BB n=some (big n):=by
 unfold BB
 have hl:=lim64 (n:=n.natAbs) (by omega)
 by_cases h:n<0
 ·have e:IntKind.wrap .u64 (0-IntKind.wrap .u64 n)=(n.natAbs:Int):=by rw[IntKind.wrap_u64,IntKind.wrap_u64]; omega
  rw[decide_eq_true h]
  simp only[cond_true,Option.bind_some,Sum.elim_inr]
  rw[e,NR (false,[]) true n.natAbs n.natAbs [] (Nat.le_refl _) (by omega) (by simp; omega)]
  unfold big
  rw[decide_eq_true h]
  rfl
 ·have e:IntKind.wrap .u64 n=(n.natAbs:Int):=by rw[IntKind.wrap_u64]; omega
  rw[decide_eq_false h]
  simp only[cond_false,Option.bind_some,Sum.elim_inr]
  rw[e,NR (false,[]) false n.natAbs n.natAbs [] (Nat.le_refl _) (by omega) (by simp; omega)]
  unfold big
  rw[decide_eq_false h]
  rfl
theorem Xl (s:Bool×List Int) (m:Int):∀ (f:Nat) (n:Int) (acc:List Int),n.natAbs≤f→-9223372036854775808≤n→n≤9223372036854775807→acc.length + (lim n.natAbs).length≤10000 →
  loopM (fun (s:((Bool×(List Int))×((List Int)×(Int×Int))))=>Hy s.1 s.2.1 s.2.2.1 s.2.2.2) (s,(acc,(m,n)))=some (s,(acc++lim n.natAbs,m)):=by
 intro f
 induction f with
 | zero =>
  intro n acc hn _ _ _
  have:n=0:=by omega
  subst this
  rw[show (0:Int).natAbs=0 from rfl,Bi,List.append_nil]
  exact Ap rfl
 | succ f ih =>
  intro n acc hn h1 h2 h3
  by_cases h0:n=0
  ·subst h0
   rw[show (0:Int).natAbs=0 from rfl,Bi,List.append_nil]
   exact Ap rfl
  ·rw[Tv (show n.natAbs≠0 by omega)] at h3 ⊢
   simp only[List.length_cons] at h3
   have hq:(Int.tdiv n 65536).natAbs=n.natAbs/65536:=by rw[Int.natAbs_tdiv]; rfl
   have hq1 : -9223372036854775808≤Int.tdiv n 65536∧Int.tdiv n 65536≤9223372036854775807:=by omega
   have hr:((Int.tmod n 65536).natAbs:Int)=((n.natAbs%65536:Nat):Int):=by rw[Int.natAbs_tmod]; rfl
   have hstep:Hy s acc m n=some (.inl (s,(acc ++ [((n.natAbs%65536:Nat):Int)],(m,Int.tdiv n 65536)))):=by
    unfold Hy
    have:(n != 0)=true:=by simpa using h0
    rw[this,wrapI (n:=Int.tdiv n 65536) (by omega) (by omega)]
    simp only[cond_true]
    by_cases hneg:Int.tmod n 65536<0
    ·rw[decide_eq_true hneg,wrapI (by omega) (by omega)]
     simp only[cond_true]
     rw[app1 (by omega),show (0:Int)-Int.tmod n 65536=((n.natAbs%65536:Nat):Int) by omega]
     rfl
    ·rw[decide_eq_false hneg]
     simp only[cond_false]
     rw[app1 (by omega),show Int.tmod n 65536=((n.natAbs%65536:Nat):Int) by omega]
     rfl
   have:=ih (Int.tdiv n 65536) (acc ++ [((n.natAbs%65536:Nat):Int)]) (by omega) hq1.1 hq1.2 (by rw[hq]; simp; omega)
   rw[AX hstep,this,List.append_assoc,hq]
   rfl
theorem Rp {n:Int} (h1 : -9223372036854775808≤n) (h2:n≤9223372036854775807):Dv n=some (big n):=by
 unfold Dv
 have hl:=lim64 (n:=n.natAbs) (by omega)
 rw[Xl (false,[]) n n.natAbs n [] (Nat.le_refl _) h1 h2 (by simp; omega)]
 simp only[Option.bind_some,List.nil_append]
 rw[CX (Ao _) (by unfold Brief; omega)]
 simp only[Option.bind_some,Aj,Int.toNat_natCast]
 unfold big
 by_cases h:n<0
 ·rw[decide_eq_true h,decide_eq_true (show n.natAbs≠0 by omega)]; rfl
 ·rw[decide_eq_false h]; rfl
theorem Xe (z:Int):AY (big z)=some (cmpZ z 0):=by
 unfold AY big
 by_cases h0:z=0
 ·subst h0
  rw[show (0:Int).natAbs=0 from rfl,Bi]
  rfl
 ·have:((((lim z.natAbs).length:Nat):Int)==0)=false:=beq_eq_false_iff_ne.2 (by
   intro h
   have h2:lim z.natAbs = []:=List.eq_nil_of_length_eq_zero (by omega)
   have:=F8.1 h2
   omega)
  rw[this]
  by_cases h:z<0
  ·rw[decide_eq_true h,Cz h]; rfl
  ·rw[decide_eq_false h,Fo (by omega)]; rfl
theorem NP {x y:Int} {k:Nat} (hk:k≤1000000) (hx:(x.natAbs:Int)<B k) (hy:(y.natAbs:Int)<B k):Co (big x) (big y)=some (cmpZ x y):=by
 have lx:=Ek hx hk
 have ly:=Ek hy hk
 unfold Co
 have e1:AY ((big x).1,(big x).2)=some (cmpZ x 0):=Xe x
 have e2:AY ((big y).1,(big y).2)=some (cmpZ y 0):=Xe y
 simp only[e1,e2,Option.bind_some,O9]
 have e3:A8 (big x).2 (big y).2=some (cmpZ (x.natAbs:Int) (y.natAbs:Int)):=GF (by unfold Brief; omega) (by unfold Brief; omega)
 rw[e3]
 have cx:=BF x 0
 have cy:=BF y 0
 have c3:=BF (x.natAbs:Int) (y.natAbs:Int)
 have cxy:=BF x y
 have cs:=BF (cmpZ x 0) (cmpZ y 0)
 by_cases h:cmpZ x 0=cmpZ y 0
 ·rw[h,bne_self_eq_false]
  simp only[cond_false,Option.bind_some]
  rcases cy with ⟨cy,_⟩ | ⟨cy,_⟩ | ⟨cy,_⟩ <;> rw[cy] at h⊢<;> rcases c3 with ⟨c3,_⟩ | ⟨c3,_⟩ | ⟨c3,_⟩ <;> rw[c3] <;> rw[wrapI (by omega) (by omega)] <;> congr 1 <;> omega
 ·have hb:(cmpZ x 0 != cmpZ y 0)=true:=by simpa using h
  rw[hb]
  simp only[cond_true]
  congr 1
  omega
end Go.Proofs.YthipdlhknbhiiaaGreat.Ev

end
section
namespace Go.Proofs.YthipdlhknbhiiaaGreat.Ev
open Go
theorem Po {a q r by_:Int} (h:q*by_ + r=a) (h0 : 0≤r) (h1:r<by_):q=a/by_∧r=a%by_:=by
 have:a=r + by_*q:=by rw[←h,Int.mul_comm]; omega
 subst this
 constructor
 ·rw[Int.add_mul_ediv_left _ _ (by omega),Int.ediv_eq_zero_of_lt h0 h1]; omega
 ·rw[Int.add_mul_emod_self_left,Int.emod_eq_of_lt h0 h1]
theorem Q0 {a:List Int} {d:Int} (ha:LB a) (hd : 1≤d∧d≤65536) (na:a.length≤10000000) :
  ∃ q r,loopM (fun (s:((List Int)×((List Int)×(Int×(Int×Int)))))=>C4 s.1 s.2.1 s.2.2.1 s.2.2.2.1 s.2.2.2.2) (List.replicate a.length 0,(a,(d,(0,(a.length:Int)-1))))=some (q,r)∧LB q∧q.length=a.length∧0≤r∧r<d∧val q*d + r=val a:=by
 obtain ⟨⟨q,r⟩,h1,h2⟩:=Ig (body:=fun (s:((List Int)×((List Int)×(Int×(Int×Int)))))=>C4 s.1 s.2.1 s.2.2.1 s.2.2.2.1 s.2.2.2.2)
  (st:=fun n (b:List Int×Int)=>(b.1,(a,(d,(b.2,(n:Int)-1))))) (fin:=fun b=>b)
  (I:=fun n b=>n≤a.length∧LB b.1∧b.1.length=a.length∧(∀ j,j<n→dg b.1 j=0)∧0≤b.2∧b.2<d∧val b.1*d + B n*b.2=B n*val (a.drop n))
  (by
   rintro n ⟨q,r⟩ ⟨h1,h2,h3,h4,h5,h6,h7⟩
   simp only at h2 h3 h4 h5 h6 h7
   have hn:n<a.length:=by omega
   have hg:=List.getElem?_eq_getElem hn
   have dx:=AJ ha n
   have hx:a[n]=dg a n:=(DP hg).symm
   have hq:q[n]? = some 0:=by rw[Ag (by omega),h4 n (by omega)]
   have ht0 : 0≤r*65536 + dg a n:=by omega
   have hdd:=Int.emod_add_mul_ediv (r*65536 + dg a n) d
   have m0:=Int.emod_nonneg (r*65536 + dg a n) (show d≠0 by omega)
   have m1:=Int.emod_lt_of_pos (r*65536 + dg a n) (show 0<d by omega)
   have q0:=Int.ediv_nonneg ht0 (show 0≤d by omega)
   have q1:(r*65536 + dg a n)/d<65536:=by
    refine Int.ediv_lt_of_lt_mul (by omega) ?_
    have:r*65536 + dg a n<d*65536:=by omega
    rw[Int.mul_comm 65536 d]
    exact this
   refine ⟨(q.set n ((r*65536 + dg a n)/d),(r*65536 + dg a n)%d),?_,by omega,h2.set ⟨q0,q1⟩,by simp[h3],fun j hj=>by simp only; rw[Bj (by omega)]; exact h4 j (by omega),m0,m1,?_⟩
   ·unfold C4 getN
    dsimp only
    have hz:(d==0)=false:=beq_eq_false_iff_ne.2 (by omega)
    have hs:((n + 1:Nat):Int)-1=(n:Int):=by omega
    have i1:idxI (n:Int) q.length=some n:=AQ (by omega)
    rw[hs,decide_eq_true (by omega),Ak,hg]
    simp only[cond_true,Option.bind_some,hz,cond_false,i1,hq,hx]
    rw[wrapI (n:=r*65536) (by omega) (by omega),wrapI (n:=r*65536 + dg a n) (by omega) (by omega),Int.tdiv_eq_ediv_of_nonneg ht0,Int.tmod_eq_emod_of_nonneg ht0,wrapI (n:=(r*65536 + dg a n)/d) (by omega) (by omega),wrapI (n:=(n:Int)-1) (by omega) (by omega)]
   ·simp only
    rw[DM hq,List.drop_eq_getElem_cons hn,hx]
    simp only[val,Int.sub_zero]
    have e1:B (n + 1)*r=B n*(r*65536):=by simp only[B]; grind
    have e2:B (n + 1)*val (a.drop (n + 1))=B n*(65536*val (a.drop (n + 1))):=by simp only[B]; grind
    rw[e1,e2] at h7
    have e3:B n*((r*65536 + dg a n)/d)*d + B n*((r*65536 + dg a n)%d)=B n*(r*65536) + B n*dg a n:=by
     rw[Int.mul_assoc,←Int.mul_add,←Int.mul_add]
     congr 1
     rw[Int.mul_comm _ d]
     omega
    rw[Int.add_mul,Int.mul_add]
    omega)
  (by
   rintro ⟨q,r⟩ _
   unfold C4
   rfl) a.length (List.replicate a.length 0,0) ⟨Nat.le_refl _,LB.zeros _,by simp,fun j _=>by
    unfold dg; rw[List.getD_eq_getElem?_getD,List.getElem?_replicate]; split <;> rfl,by omega,by simp only; omega,by simp[Dg,val]⟩
 obtain ⟨g1,g2,g3,g4,g5,g6,g7⟩:=h2
 simp only[B,Int.one_mul,List.drop_zero] at g7
 exact ⟨q,r,h1,g2,g3,g5,g6,g7⟩
theorem Tk {a:List Int} {d:Int} (ha:LB a) (hd : 1≤d∧d≤65536) (na:a.length≤10000000) :
  ∃ q r,loopM (fun (s:((List Int)×((List Int)×(Int×(Int×Int)))))=>DG s.1 s.2.1 s.2.2.1 s.2.2.2.1 s.2.2.2.2) (List.replicate a.length 0,(a,(d,(0,(a.length:Int)-1))))=some (q,r)∧LB q∧q.length=a.length∧0≤r∧r<d∧val q*d + r=val a:=by
 obtain ⟨⟨q,r⟩,h1,h2⟩:=Ig (body:=fun (s:((List Int)×((List Int)×(Int×(Int×Int)))))=>DG s.1 s.2.1 s.2.2.1 s.2.2.2.1 s.2.2.2.2)
  (st:=fun n (b:List Int×Int)=>(b.1,(a,(d,(b.2,(n:Int)-1))))) (fin:=fun b=>b)
  (I:=fun n b=>n≤a.length∧LB b.1∧b.1.length=a.length∧(∀ j,j<n→dg b.1 j=0)∧0≤b.2∧b.2<d∧val b.1*d + B n*b.2=B n*val (a.drop n))
  (by
   rintro n ⟨q,r⟩ ⟨h1,h2,h3,h4,h5,h6,h7⟩
   simp only at h2 h3 h4 h5 h6 h7
   have hn:n<a.length:=by omega
   have hg:=List.getElem?_eq_getElem hn
   have dx:=AJ ha n
   have hx:a[n]=dg a n:=(DP hg).symm
   have hq:q[n]? = some 0:=by rw[Ag (by omega),h4 n (by omega)]
   have ht0 : 0≤r*65536 + dg a n:=by omega
   have hdd:=Int.emod_add_mul_ediv (r*65536 + dg a n) d
   have m0:=Int.emod_nonneg (r*65536 + dg a n) (show d≠0 by omega)
   have m1:=Int.emod_lt_of_pos (r*65536 + dg a n) (show 0<d by omega)
   have q0:=Int.ediv_nonneg ht0 (show 0≤d by omega)
   have q1:(r*65536 + dg a n)/d<65536:=by
    refine Int.ediv_lt_of_lt_mul (by omega) ?_
    have:r*65536 + dg a n<d*65536:=by omega
    rw[Int.mul_comm 65536 d]
    exact this
   refine ⟨(q.set n ((r*65536 + dg a n)/d),(r*65536 + dg a n)%d),?_,by omega,h2.set ⟨q0,q1⟩,by simp[h3],fun j hj=>by simp only; rw[Bj (by omega)]; exact h4 j (by omega),m0,m1,?_⟩
   ·unfold DG getN
    dsimp only
    have hz:(d==0)=false:=beq_eq_false_iff_ne.2 (by omega)
    have hs:((n + 1:Nat):Int)-1=(n:Int):=by omega
    have i1:idxI (n:Int) q.length=some n:=AQ (by omega)
    rw[hs,decide_eq_true (by omega),Ak,hg]
    simp only[cond_true,Option.bind_some,hz,cond_false,i1,hq,hx]
    rw[wrapI (n:=r*65536) (by omega) (by omega),wrapI (n:=r*65536 + dg a n) (by omega) (by omega),Int.tdiv_eq_ediv_of_nonneg ht0,Int.tmod_eq_emod_of_nonneg ht0,wrapI (n:=(r*65536 + dg a n)/d) (by omega) (by omega),wrapI (n:=(n:Int)-1) (by omega) (by omega)]
   ·simp only
    rw[DM hq,List.drop_eq_getElem_cons hn,hx]
    simp only[val,Int.sub_zero]
    have e1:B (n + 1)*r=B n*(r*65536):=by simp only[B]; grind
    have e2:B (n + 1)*val (a.drop (n + 1))=B n*(65536*val (a.drop (n + 1))):=by simp only[B]; grind
    rw[e1,e2] at h7
    have e3:B n*((r*65536 + dg a n)/d)*d + B n*((r*65536 + dg a n)%d)=B n*(r*65536) + B n*dg a n:=by
     rw[Int.mul_assoc,←Int.mul_add,←Int.mul_add]
     congr 1
     rw[Int.mul_comm _ d]
     omega
    rw[Int.add_mul,Int.mul_add]
    omega)
  (by
   rintro ⟨q,r⟩ _
   unfold DG
   rfl) a.length (List.replicate a.length 0,0) ⟨Nat.le_refl _,LB.zeros _,by simp,fun j _=>by
    unfold dg; rw[List.getD_eq_getElem?_getD,List.getElem?_replicate]; split <;> rfl,by omega,by simp only; omega,by simp[Dg,val]⟩
 obtain ⟨g1,g2,g3,g4,g5,g6,g7⟩:=h2
 simp only[B,Int.one_mul,List.drop_zero] at g7
 exact ⟨q,r,h1,g2,g3,g5,g6,g7⟩
theorem Tu {n:Nat} {d:Int} (hd : 1≤d∧d≤65536) (hn:(lim n).length≤10000000):Dk (lim n) d=some (lim (n/d.toNat),((n%d.toNat:Nat):Int)):=by
 obtain ⟨q,r,h1,h2,h3,h4,h5,h6⟩:=Q0 (Ao n) hd hn
 rw[Aj] at h6
 unfold Dk
 rw[FD (by unfold maxBytes; omega) (by unfold maxBytes; omega),wrapI (by omega) (by omega)]
 simp only[Option.bind_some,h1]
 rw[Vd (by unfold Brief; omega)]
 simp only[Option.bind_some]
 rw[Bt h2]
 obtain ⟨e1,e2⟩:=Po h6 h4 h5
 have hdn:d=(d.toNat:Int):=by omega
 have hv:=Aw h2
 have q1:(val q).toNat=n/d.toNat:=by
  have:val q=((n/d.toNat:Nat):Int):=by rw[e1,hdn]; simp
  omega
 have q2:r=((n%d.toNat:Nat):Int):=by rw[e2,hdn]; simp
 rw[q1,q2]
theorem Az0 {n:Nat} {d:Int} (hd : 1≤d∧d≤65535) (hn:(lim n).length≤10000000):FC (lim n) d=some (lim (n/d.toNat),lim (n%d.toNat)):=by
 obtain ⟨q,r,h1,h2,h3,h4,h5,h6⟩:=Tk (Ao n) (show 1≤d∧d≤65536 by omega) hn
 rw[Aj] at h6
 unfold FC
 rw[FD (by unfold maxBytes; omega) (by unfold maxBytes; omega),wrapI (by omega) (by omega)]
 simp only[Option.bind_some,h1]
 rw[EE (by unfold Brief; omega)]
 simp only[Option.bind_some]
 rw[EE (by unfold Brief; simp)]
 simp only[Option.bind_some]
 rw[Bt h2,Bt (LB.cons (by omega) LB.nil)]
 obtain ⟨e1,e2⟩:=Po h6 h4 h5
 have hdn:d=(d.toNat:Int):=by omega
 have hv:=Aw h2
 have q1:(val q).toNat=n/d.toNat:=by
  have:val q=((n/d.toNat:Nat):Int):=by rw[e1,hdn]; simp
  omega
 have q2:(val [r]).toNat=n%d.toNat:=by
  have:r=((n%d.toNat:Nat):Int):=by rw[e2,hdn]; simp
  simp only[val]
  omega
 rw[q1,q2]
end Go.Proofs.YthipdlhknbhiiaaGreat.Ev

end
section
namespace Go.Proofs.YthipdlhknbhiiaaGreat.Ev
open Go
section
variable {P v1 v2 vr top u2 ur q r v U:Int} (hP : 0<P) (hv1 : 1≤v1) (hv1':v1<65536) (hv2 : 0≤v2∧v2<65536) (hvr : 0≤vr∧vr<P) (hu2 : 0≤u2∧u2<65536) (hur : 0≤ur∧ur<P)
 (hv:v=(v1*65536 + v2)*P + vr) (hU:U=(top*65536 + u2)*P + ur) (hq:q*v1 + r=top) (hq0 : 0≤q)
include hP hv1 hv2 hvr hu2 hur hv hU hq hq0
theorem SE (h:q*v2>r*65536 + u2):U<q*v:=by
 have h1:q*(v1*65536 + v2)=(q*v1)*65536 + q*v2:=by grind
 have h2:top*65536 + u2 + 1≤q*(v1*65536 + v2):=by omega
 have h3:=Int.mul_le_mul_of_nonneg_right h2 (Int.le_of_lt hP)
 have h4 : 0≤q*vr:=Int.mul_nonneg hq0 hvr.1
 have h5:q*v=q*(v1*65536 + v2)*P + q*vr:=by rw[hv]; grind
 rw[Int.add_mul] at h3
 omega
theorem Wz (hq1:q<65536) (h:q*v2≤r*65536 + u2):q*v<U + v:=by
 have h1:q*(v1*65536 + v2)=(q*v1)*65536 + q*v2:=by grind
 have h2:q*(v1*65536 + v2)≤top*65536 + u2:=by omega
 have h3:=Int.mul_le_mul_of_nonneg_right h2 (Int.le_of_lt hP)
 have h4:q*vr≤65535*P:=Int.le_trans (Int.mul_le_mul_of_nonneg_left (Int.le_of_lt hvr.2) hq0) (Int.mul_le_mul_of_nonneg_right (by omega) (Int.le_of_lt hP))
 have h5:q*v=q*(v1*65536 + v2)*P + q*vr:=by rw[hv]; grind
 have h6 : 65536*P≤(v1*65536 + v2)*P:=Int.mul_le_mul_of_nonneg_right (by omega) (Int.le_of_lt hP)
 omega
theorem Su (hq1:q<65536) (h : 65536≤r):q*v≤U:=by
 have h1:q*(v1*65536 + v2)=(q*v1)*65536 + q*v2:=by grind
 have h7:q*v2≤q*65535:=Int.mul_le_mul_of_nonneg_left (by omega) hq0
 have h2:q*(v1*65536 + v2) + 65536≤top*65536 + u2:=by omega
 have h3:=Int.mul_le_mul_of_nonneg_right h2 (Int.le_of_lt hP)
 have h4:q*vr≤65535*P:=Int.le_trans (Int.mul_le_mul_of_nonneg_left (Int.le_of_lt hvr.2) hq0) (Int.mul_le_mul_of_nonneg_right (by omega) (Int.le_of_lt hP))
 have h5:q*v=q*(v1*65536 + v2)*P + q*vr:=by rw[hv]; grind
 rw[Int.add_mul] at h3
 omega
end
theorem Yo {P' v1 vt top ut v U Q:Int} (hP : 0<P') (hv1 : 1≤v1) (hvt : 0≤vt) (hut:ut<P') (hv:v=v1*P' + vt) (hU:U=top*P' + ut) (hQ:Q*v≤U) (hQ0 : 0≤Q):Q≤top/v1:=by
 rw[Int.le_ediv_iff_mul_le (by omega)]
 by_cases h:Q*v1≤top
 ·exact h
 ·exfalso
  have h1:top + 1≤Q*v1:=by omega
  have h2:=Int.mul_le_mul_of_nonneg_right h1 (Int.le_of_lt hP)
  have h3 : 0≤Q*vt:=Int.mul_nonneg hQ0 hvt
  have h4:Q*v=Q*v1*P' + Q*vt:=by rw[hv]; grind
  rw[Int.add_mul] at h2
  omega
end Go.Proofs.YthipdlhknbhiiaaGreat.Ev

end
section
namespace Go.Proofs.YthipdlhknbhiiaaGreat.Ev
open Go
theorem At5 {x c:Int} (hx:x<65536) (hlo : -4294967296≤x) (hc:c=if x<0 then (-x + 65536-1)/65536 else 0) :
  0≤x + c*65536∧x + c*65536<65536∧0≤c∧c≤65536:=by
 subst hc
 split <;> omega
structure Off (u0 u:List Int) (j k:Nat) (c q:Int) (v:List Int):Prop where
 len:u.length=u0.length
 lb:LB u
 hi:∀ i,j + k≤i→dg u i=dg u0 i
 c0 : 0≤c
 c1:c≤65536
 v:val u-B (j + k)*c=val u0-B j*(q*val (v.take k))
theorem Off.start {u0:List Int} (h:LB u0) (j:Nat) (q:Int) (v:List Int):Off u0 u0 j 0 0 q v:=⟨rfl,h,fun _ _=>rfl,by omega,by omega,by simp[val]⟩
theorem Off.next {u0 u:List Int} {j k:Nat} {c q:Int} {v:List Int} (h:Off u0 u j k c q v) (hv:LB v) (hq : 0≤q∧q<65536) (hk:j + k<u.length) {c':Int} (hc:c'=if dg u (j + k)-q*dg v k-c<0 then (-(dg u (j + k)-q*dg v k-c) + 65536-1)/65536 else 0) :
  Off u0 (u.set (j + k) (dg u (j + k)-q*dg v k-c + c'*65536)) j (k + 1) c' q v:=by
 have du:=AJ h.lb (j + k)
 have dv:=AJ hv k
 have m0 : 0≤q*dg v k:=Int.mul_nonneg hq.1 dv.1
 have m1:q*dg v k≤65535*65535:=Int.le_trans (Int.mul_le_mul_of_nonneg_left (show dg v k≤65535 by omega) hq.1) (Int.mul_le_mul_of_nonneg_right (show q≤65535 by omega) (by omega))
 have hc0:=h.c0
 have hc1:=h.c1
 obtain ⟨s1,s2,s3,s4⟩:=At5 (x:=dg u (j + k)-q*dg v k-c) (by omega) (by omega) hc
 refine ⟨by rw[List.length_set]; exact h.len,h.lb.set ⟨s1,s2⟩,fun i hi=>by rw[Bj (by omega)]; exact h.hi i (by omega),s3,s4,?_⟩
 rw[DM (Ag hk),Av,show j + (k + 1)=j + k + 1 by omega]
 have hv2:=h.v
 have e1:B (j + k + 1)*c'=B (j + k)*(c'*65536):=by simp only[B]; grind
 have e2:B j*(q*(val (v.take k) + B k*dg v k))=B j*(q*val (v.take k)) + B (j + k)*(q*dg v k):=by rw[Nk]; grind
 have e3:B (j + k)*(dg u (j + k)-q*dg v k-c + c'*65536-dg u (j + k))=B (j + k)*(c'*65536)-B (j + k)*(q*dg v k)-B (j + k)*c:=by grind
 rw[e1,e2,e3]
 omega
theorem AS1 {u0 v out:List Int} {n by_ q:Int} {j:Nat} (hu:LB u0) (hv:LB v) (hq : 0≤q∧q<65536) (hn:n=(v.length:Int)) (hlen:j + v.length<u0.length) (hl:u0.length≤1000000) :
  ∃ u c,loopM (fun (s:((List Int)×((List Int)×((List Int)×(Int×(Int×(Int×(Int×(Int×(Int×Int))))))))))=>Dc s.1 s.2.1 s.2.2.1 s.2.2.2.1 s.2.2.2.2.1 s.2.2.2.2.2.1 s.2.2.2.2.2.2.1 s.2.2.2.2.2.2.2.1 s.2.2.2.2.2.2.2.2.1 s.2.2.2.2.2.2.2.2.2) (u0,(v,(out,(n,(by_,((j:Int),(q,(0,(n,0))))))))) =
   some (u,(v,(out,(n,(by_,((j:Int),(q,c)))))))∧Off u0 u j v.length c q v:=by
 subst hn
 obtain ⟨⟨u,c⟩,h1,h2⟩:=Gb (body:=fun (s:((List Int)×((List Int)×((List Int)×(Int×(Int×(Int×(Int×(Int×(Int×Int))))))))))=>Dc s.1 s.2.1 s.2.2.1 s.2.2.2.1 s.2.2.2.2.1 s.2.2.2.2.2.1 s.2.2.2.2.2.2.1 s.2.2.2.2.2.2.2.1 s.2.2.2.2.2.2.2.2.1 s.2.2.2.2.2.2.2.2.2)
  (st:=fun k (b:List Int×Int)=>(b.1,(v,(out,((v.length:Int),(by_,((j:Int),(q,(b.2,((v.length:Int),(k:Int))))))))))) (fin:=fun b=>(b.1,(v,(out,((v.length:Int),(by_,((j:Int),(q,b.2)))))))) (I:=fun k b=>Off u0 b.1 j k b.2 q v) (e:=v.length)
  (by
   rintro k ⟨u,c⟩ hk hI
   simp only at hI
   have hul:=hI.len
   have hp:j + k<u.length:=by omega
   have du:=AJ hI.lb (j + k)
   have dv:=AJ hv k
   have c0:=hI.c0
   have c1:=hI.c1
   have m0 : 0≤q*dg v k:=Int.mul_nonneg hq.1 dv.1
   have m1:q*dg v k≤65535*65535:=Int.le_trans (Int.mul_le_mul_of_nonneg_left (show dg v k≤65535 by omega) hq.1) (Int.mul_le_mul_of_nonneg_right (show q≤65535 by omega) (by omega))
   refine ⟨(u.set (j + k) (dg u (j + k)-q*dg v k-c + (if dg u (j + k)-q*dg v k-c<0 then (-(dg u (j + k)-q*dg v k-c) + 65536-1)/65536 else 0)*65536),if dg u (j + k)-q*dg v k-c<0 then (-(dg u (j + k)-q*dg v k-c) + 65536-1)/65536 else 0),?_,hI.next hv hq hp rfl⟩
   unfold Dc getN
   dsimp only
   have i1:idxI ((j:Int) + (k:Int)) u.length=some (j + k):=by rw[show (j:Int) + (k:Int)=((j + k:Nat):Int) by omega]; exact AQ hp
   have hw1:=wrap1 (show k<4611686018427387904 by omega)
   have hjk:=wrapI (n:=(j:Int) + (k:Int)) (by omega) (by omega)
   rw[decide_eq_true (by omega),hjk]
   simp only[cond_true,i1,AQ hk,Option.bind_some,Ag hp,Ag hk]
   rw[wrapI (n:=q*dg v k) (by omega) (by omega),wrapI (n:=dg u (j + k)-q*dg v k) (by omega) (by omega),wrapI (n:=dg u (j + k)-q*dg v k-c) (by omega) (by omega)]
   have hxb : -4294967296≤dg u (j + k)-q*dg v k-c∧dg u (j + k)-q*dg v k-c<65536:=by omega
   generalize dg u (j + k)-q*dg v k-c=x at *
   by_cases hx:x<0
   ·rw[decide_eq_true hx,if_pos hx,wrapI (n:=0-x) (by omega) (by omega),wrapI (n:=0-x + 65536) (by omega) (by omega),wrapI (n:=0-x + 65536-1) (by omega) (by omega),Int.tdiv_eq_ediv_of_nonneg (by omega),show 0-x + 65536-1 = -x + 65536-1 by omega]
    rw[wrapI (n:=(-x + 65536-1)/65536) (by omega) (by omega),wrapI (n:=(-x + 65536-1)/65536*65536) (by omega) (by omega),wrapI (n:=x + (-x + 65536-1)/65536*65536) (by omega) (by omega)]
    simp only[cond_true,Option.bind_some,Sum.elim_inr,hjk,i1,Ag hp,hw1]
   ·rw[decide_eq_false hx,if_neg hx]
    simp only[cond_false,Option.bind_some,Sum.elim_inr,hjk,i1,Ag hp,hw1,Int.zero_mul,Int.add_zero])
  (by
   rintro ⟨u,c⟩ _
   unfold Dc
   dsimp only
   rw[decide_eq_false (Int.lt_irrefl _)]
   rfl) 0 (u0,0) (by omega) (Off.start hu j q v)
 exact ⟨u,c,h1,h2⟩
structure Back (u0 u:List Int) (j k:Nat) (c:Int) (v:List Int):Prop where
 len:u.length=u0.length
 lb:∀ i,i<j + v.length→0≤dg u i∧dg u i<65536
 hi:∀ i,j + k≤i→dg u i=dg u0 i
 c0 : 0≤c
 c1:c<65536
 v:val u + B (j + k)*c=val u0 + B j*val (v.take k)
theorem Ai7 {l:List Int} {k j:Nat} {x:Int} (hk:k<l.length):dg (l.set k x) j=if j=k then x else dg l j:=by
 split
 ·rename_i h; subst h; exact DP (by rw[List.getElem?_set_self hk])
 ·rename_i h; exact Bj (fun hh=>h hh.symm)
theorem Back.next {u0 u:List Int} {j k:Nat} {c:Int} {v:List Int} (h:Back u0 u j k c v) (hv:LB v) (hkv:k<v.length) (hk:j + k<u.length) :
  Back u0 (u.set (j + k) ((dg u (j + k) + dg v k + c)%65536)) j (k + 1) ((dg u (j + k) + dg v k + c)/65536) v:=by
 have du:=h.lb (j + k) (by omega)
 have dv:=AJ hv k
 have c0:=h.c0
 have c1:=h.c1
 refine ⟨by rw[List.length_set]; exact h.len,fun i hi=>?_,fun i hi=>by rw[Bj (by omega)]; exact h.hi i (by omega),by omega,by omega,?_⟩
 ·rw[Ai7 hk]
  split
  ·omega
  ·exact h.lb i hi
 ·have:=ZJ (out:=u) (p:=j + k) (o:=dg u (j + k)) (d:=(dg u (j + k) + dg v k + c)%65536) (c:=c) (c':=(dg u (j + k) + dg v k + c)/65536) (t:=dg v k) (V:=val u0 + B j*val (v.take k)) (Ag hk) (by omega) h.v
  rw[show j + (k + 1)=j + k + 1 by omega,this,Av,Int.mul_add]
  have:B (j + k)*dg v k=B j*(B k*dg v k):=by rw[Nk]; grind
  omega
theorem AT7 {u0 v out:List Int} {n by_ q:Int} {j:Nat} (hu:∀ i,i<j + v.length→0≤dg u0 i∧dg u0 i<65536) (hv:LB v) (hn:n=(v.length:Int)) (hlen:j + v.length<u0.length) (hl:u0.length≤1000000) :
  ∃ u c,loopM (fun (s:((List Int)×((List Int)×((List Int)×(Int×(Int×(Int×(Int×(Int×(Int×Int))))))))))=>Db s.1 s.2.1 s.2.2.1 s.2.2.2.1 s.2.2.2.2.1 s.2.2.2.2.2.1 s.2.2.2.2.2.2.1 s.2.2.2.2.2.2.2.1 s.2.2.2.2.2.2.2.2.1 s.2.2.2.2.2.2.2.2.2) (u0,(v,(out,(n,(by_,((j:Int),(q,(0,(n,0))))))))) =
   some (u,(v,(out,(n,(by_,((j:Int),(q,c)))))))∧Back u0 u j v.length c v:=by
 subst hn
 obtain ⟨⟨u,c⟩,h1,h2⟩:=Gb (body:=fun (s:((List Int)×((List Int)×((List Int)×(Int×(Int×(Int×(Int×(Int×(Int×Int))))))))))=>Db s.1 s.2.1 s.2.2.1 s.2.2.2.1 s.2.2.2.2.1 s.2.2.2.2.2.1 s.2.2.2.2.2.2.1 s.2.2.2.2.2.2.2.1 s.2.2.2.2.2.2.2.2.1 s.2.2.2.2.2.2.2.2.2)
  (st:=fun k (b:List Int×Int)=>(b.1,(v,(out,((v.length:Int),(by_,((j:Int),(q,(b.2,((v.length:Int),(k:Int))))))))))) (fin:=fun b=>(b.1,(v,(out,((v.length:Int),(by_,((j:Int),(q,b.2)))))))) (I:=fun k b=>Back u0 b.1 j k b.2 v) (e:=v.length)
  (by
   rintro k ⟨u,c⟩ hk hI
   simp only at hI
   have hul:=hI.len
   have hp:j + k<u.length:=by omega
   have du:=hI.lb (j + k) (by omega)
   have dv:=AJ hv k
   have c0:=hI.c0
   have c1:=hI.c1
   refine ⟨(u.set (j + k) ((dg u (j + k) + dg v k + c)%65536),(dg u (j + k) + dg v k + c)/65536),?_,hI.next hv hk hp⟩
   unfold Db getN
   dsimp only
   have i1:idxI ((j:Int) + (k:Int)) u.length=some (j + k):=by rw[show (j:Int) + (k:Int)=((j + k:Nat):Int) by omega]; exact AQ hp
   have hw1:=wrap1 (show k<4611686018427387904 by omega)
   have hjk:=wrapI (n:=(j:Int) + (k:Int)) (by omega) (by omega)
   rw[decide_eq_true (by omega),hjk]
   simp only[cond_true,i1,AQ hk,Option.bind_some,Ag hp,Ag hk]
   rw[wrapI (n:=dg u (j + k) + dg v k) (by omega) (by omega),wrapI (n:=c + (dg u (j + k) + dg v k)) (by omega) (by omega),show c + (dg u (j + k) + dg v k)=dg u (j + k) + dg v k + c by omega,Int.tmod_eq_emod_of_nonneg (by omega),Int.tdiv_eq_ediv_of_nonneg (by omega),wrapI (n:=(dg u (j + k) + dg v k + c)/65536) (by omega) (by omega),hw1])
  (by
   rintro ⟨u,c⟩ _
   unfold Db
   dsimp only
   rw[decide_eq_false (Int.lt_irrefl _)]
   rfl) 0 (u0,0) (by omega) ⟨rfl,hu,fun _ _=>rfl,by simp only; omega,by simp only; omega,by simp[val]⟩
 exact ⟨u,c,h1,h2⟩
structure Guess (P v1 v2 vr top u2 ur V U Q:Int):Prop where
 hP : 0<P
 hv1 : 1≤v1
 hv1':v1<65536
 hv2 : 0≤v2∧v2<65536
 hvr : 0≤vr∧vr<P
 hu2 : 0≤u2∧u2<65536
 hur : 0≤ur∧ur<P
 hV:V=(v1*65536 + v2)*P + vr
 hU:U=(top*65536 + u2)*P + ur
 htop : 0≤top∧top<4294967296
 hQ:Q*V≤U
 hQ0 : 0≤Q
 hQ1:Q<65536
 hV0 : 0<V
theorem AP4 {u v out:List Int} {n by_:Int} {j m:Nat} {P v1 v2 vr top u2 ur V U Q:Int} (G:Guess P v1 v2 vr top u2 ur V U Q) (hn:n=((m + 2:Nat):Int)) (hm:m≤1000000) (hj:j≤1000000)
  (hv:v.length=m + 2) (e1:dg v (m + 1)=v1) (e2:dg v m=v2) (hu:j + m<u.length) (e3:dg u (j + m)=u2) {q0 r0:Int} (h0:q0*v1 + r0=top) (hr0 : 0≤r0) (hq0:Q≤q0) (hq4:q0<4294967296) :
  ∃ q,loopM (fun (s:((List Int)×((List Int)×((List Int)×(Int×(Int×(Int×(Int×Int))))))))=>BP s.1 s.2.1 s.2.2.1 s.2.2.2.1 s.2.2.2.2.1 s.2.2.2.2.2.1 s.2.2.2.2.2.2.1 s.2.2.2.2.2.2.2) (u,(v,(out,(n,(by_,((j:Int),(q0,r0)))))))=some (u,(v,(out,(n,(by_,((j:Int),q))))))∧Q≤q∧q<65536∧q*V<U + V:=by
 subst hn
 obtain ⟨r,h1,q,rfl,h2⟩:=EL (f:=fun (s:((List Int)×((List Int)×((List Int)×(Int×(Int×(Int×(Int×Int))))))))=>BP s.1 s.2.1 s.2.2.1 s.2.2.2.1 s.2.2.2.2.1 s.2.2.2.2.2.1 s.2.2.2.2.2.2.1 s.2.2.2.2.2.2.2)
  (I:=fun s=>∃ q r:Int,s=(u,(v,(out,(((m + 2:Nat):Int),(by_,((j:Int),(q,r)))))))∧q*v1 + r=top∧0≤r∧Q≤q∧q<4294967296)
  (R:=fun s=>∃ q:Int,s=(u,(v,(out,(((m + 2:Nat):Int),(by_,((j:Int),q))))))∧Q≤q∧q<65536∧q*V<U + V) (fun s=>s.2.2.2.2.2.2.1.toNat) (by
   rintro s ⟨q,r,rfl,g1,g2,g3,g4⟩
   simp only
   have hQ0:=G.hQ0
   have hQ1:=G.hQ1
   have hv1:=G.hv1
   have hv1':=G.hv1'
   have hv2:=G.hv2
   have hu2:=G.hu2
   have htop:=G.htop
   have hqv : 0≤q*v1:=Int.mul_nonneg (by omega) (by omega)
   have hqv2 : 0≤q*v2:=Int.mul_nonneg (by omega) hv2.1
   have hqv2':q*v2≤4294967296*65536:=Int.le_trans (Int.mul_le_mul_of_nonneg_left (show v2≤65536 by omega) (by omega)) (Int.mul_le_mul_of_nonneg_right (show q≤4294967296 by omega) (by omega))
   have iv1:idxI (((m + 2:Nat):Int)-1) v.length=some (m + 1):=by rw[show ((m + 2:Nat):Int)-1=((m + 1:Nat):Int) by omega]; exact AQ (by omega)
   have iv2:idxI (((m + 2:Nat):Int)-2) v.length=some m:=by rw[show ((m + 2:Nat):Int)-2=((m:Nat):Int) by omega]; exact AQ (by omega)
   have iu:idxI ((j:Int) + ((m + 2:Nat):Int)-2) u.length=some (j + m):=by rw[show (j:Int) + ((m + 2:Nat):Int)-2=((j + m:Nat):Int) by omega]; exact AQ (by omega)
   have w1:=wrapI (n:=((m + 2:Nat):Int)-1) (by omega) (by omega)
   have w2:=wrapI (n:=((m + 2:Nat):Int)-2) (by omega) (by omega)
   have w3:=wrapI (n:=(j:Int) + ((m + 2:Nat):Int)) (by omega) (by omega)
   have w4:=wrapI (n:=(j:Int) + ((m + 2:Nat):Int)-2) (by omega) (by omega)
   have w5:=wrapI (n:=q*v2) (by omega) (by omega)
   have w6:=wrapI (n:=r*65536) (by omega) (by omega)
   have w7:=wrapI (n:=r*65536 + u2) (by omega) (by omega)
   have w8:=wrapI (n:=q-1) (by omega) (by omega)
   have w9:=wrapI (n:=r + v1) (by omega) (by omega)
   have less:∀ (hgo:Q≤q-1),∃ q' r':Int,(u,(v,(out,(((m + 2:Nat):Int),(by_,((j:Int),(q-1,r + v1)))))))=(u,(v,(out,(((m + 2:Nat):Int),(by_,((j:Int),(q',r')))))))∧q'*v1 + r'=top∧0≤r'∧Q≤q'∧q'<4294967296:=by
    intro hgo
    exact ⟨q-1,r + v1,rfl,by rw[Int.sub_mul]; omega,by omega,hgo,by omega⟩
   by_cases c1:q≥65536
   ·refine .inl ⟨(u,(v,(out,(((m + 2:Nat):Int),(by_,((j:Int),(q-1,r + v1))))))),?_,less (by omega),by simp only; omega⟩
    unfold BP getN
    rw[decide_eq_true c1]
    simp only[cond_true,Option.bind_some,Sum.elim_inr,w1,iv1,Ag (show m + 1<v.length by omega),e1,w8,w9]
   ·by_cases c2:r<65536
    ·by_cases c3:q*v2>r*65536 + u2
     ·have hlt:=SE G.hP G.hv1 G.hv2 G.hvr G.hu2 G.hur G.hV G.hU g1 (by omega) c3
      have hne:Q≤q-1:=by
       rcases Int.lt_or_le (q-1) Q with h | h
       ·have:q=Q:=by omega
        subst this
        have:=G.hQ
        omega
       ·exact h
      refine .inl ⟨(u,(v,(out,(((m + 2:Nat):Int),(by_,((j:Int),(q-1,r + v1))))))),?_,less hne,by simp only; omega⟩
      unfold BP getN
      rw[decide_eq_false c1,decide_eq_true c2]
      simp only[cond_true,cond_false,Option.bind_some,w2,iv2,Ag (show m<v.length by omega),e2,w3,w4,iu,Ag hu,e3,w5,w6,w7,decide_eq_true c3,Sum.elim_inr,w1,iv1,Ag (show m + 1<v.length by omega),e1,w8,w9]
     ·refine .inr ⟨_,?_,q,rfl,g3,by omega,Wz G.hP G.hv1 G.hv2 G.hvr G.hu2 G.hur G.hV G.hU g1 (by omega) (by omega) (by omega)⟩
      unfold BP getN
      rw[decide_eq_false c1,decide_eq_true c2]
      simp only[cond_true,cond_false,Option.bind_some,w2,iv2,Ag (show m<v.length by omega),e2,w3,w4,iu,Ag hu,e3,w5,w6,w7,decide_eq_false c3,Sum.elim_inl]
    ·have hle:=Su G.hP G.hv1 G.hv2 G.hvr G.hu2 G.hur G.hV G.hU g1 (by omega) (by omega) (by omega)
     have hV0:=G.hV0
     refine .inr ⟨_,?_,q,rfl,g3,by omega,by omega⟩
     unfold BP getN
     rw[decide_eq_false c1,decide_eq_false c2]
     rfl) (u,(v,(out,(((m + 2:Nat):Int),(by_,((j:Int),(q0,r0))))))) ⟨q0,r0,rfl,h0,hr0,hq0,hq4⟩
 exact ⟨q,h1,h2⟩
end Go.Proofs.YthipdlhknbhiiaaGreat.Ev

end
section
namespace Go.Proofs.YthipdlhknbhiiaaGreat.Ev
open Go
theorem MN {j:Nat} {a b X Y:Int} (ha : 0≤a∧a<B j) (hb : 0≤b∧b<B j) (h:a + B j*X=b + B j*Y):X=Y:=by
 rcases Int.lt_trichotomy X Y with g | g | g
 ·exfalso
  have:=Int.mul_le_mul_of_nonneg_left (show X + 1≤Y by omega) (Int.le_of_lt (Ez j))
  rw[Int.mul_add] at this
  omega
 ·exact g
 ·exfalso
  have:=Int.mul_le_mul_of_nonneg_left (show Y + 1≤X by omega) (Int.le_of_lt (Ez j))
  rw[Int.mul_add] at this
  omega
theorem Ru (l:List Int) (n k:Nat):dg (l.drop n) k=dg l (n + k):=by unfold dg; simp[List.getD_eq_getElem?_getD,List.getElem?_drop]
theorem BQ (l:List Int) (k:Nat):val (l.drop k)=dg l k + 65536*val (l.drop (k + 1)):=by
 rcases Nat.lt_or_ge k l.length with h | h
 ·rw[List.drop_eq_getElem_cons h,DP (List.getElem?_eq_getElem h)]; rfl
 ·rw[List.drop_eq_nil_of_le h,List.drop_eq_nil_of_le (by omega),FU h]; simp[val]
theorem Sa {l:List Int} (h:∀ i,i<l.length→0≤dg l i∧dg l i<65536):LB l:=fun x hx=>by
 obtain ⟨i,hi,rfl⟩:=List.getElem_of_mem hx
 have:=h i hi
 rwa [DP (List.getElem?_eq_getElem hi)] at this
theorem AO1 {l:List Int} {k i:Nat} (h:i<k):dg (l.take k) i=dg l i:=by unfold dg; simp[List.getD_eq_getElem?_getD,List.getElem?_take,h]
theorem Am7 {l:List Int} {k:Nat} (h:∀ i,i<k→0≤dg l i∧dg l i<65536):LB (l.take k):=Sa fun i hi=>by
 rw[List.length_take] at hi
 rw[AO1 (by omega)]
 exact h i (by omega)
theorem K1:∀ {l:List Int},(∀ i,dg l i=0)→val l=0
 | [],_=>rfl
 | x::l,h=>by
  have h0:=h 0
  have h1:val l=0:=K1 fun i=>h (i + 1)
  simp only[val,h1]
  unfold dg at h0
  simp at h0
  omega
theorem BI {l:List Int} (h:LB l) (k:Nat) : 0≤val (l.take k)∧val (l.take k)<B k:=by
 refine ⟨Aw (h.take k),?_⟩
 have:=IV (h.take k)
 have:=G6 (show (l.take k).length≤k by rw[List.length_take]; omega)
 omega
theorem Am2 {l:List Int} (h:LB l) {n k:Nat} (hv:val l<B n) (hk:n≤k):dg l k=0∧val (l.drop k)=0:=by
 have h1:=Bu l k
 have h2:=Aw (h.take k)
 have h3:=Aw (h.drop k)
 have h4:=G6 hk
 have h5:val (l.drop k)=0:=by
  rcases Int.lt_or_le 0 (val (l.drop k)) with g | g
  ·have:=Int.mul_le_mul_of_nonneg_left (show 1≤val (l.drop k) by omega) (Int.le_of_lt (Ez k))
   omega
  ·omega
 have h6:=BQ l k
 have h7:=AJ h k
 have h8:=Aw (h.drop (k + 1))
 exact ⟨by omega,h5⟩
structure Place (u v:List Int) (j m:Nat):Prop where
 lu:LB u
 lv:LB v
 hv:v.length=m + 2
 top : 1≤dg v (m + 1)
 len:j + m + 2<u.length
 less:val (u.drop (j + 1))<val v
section
variable {u v:List Int} {j m:Nat} (H:Place u v j m)
include H
theorem Place.pos : 0<val v:=by
 have h1:=Bu v (m + 1)
 have h2:=Aw (H.lv.take (m + 1))
 have h3:=BQ v (m + 1)
 have h4:=Aw (H.lv.drop (m + 1 + 1))
 have h5:=H.top
 have h6:=Int.mul_le_mul_of_nonneg_left (show 1≤val (v.drop (m + 1)) by omega) (Int.le_of_lt (Ez (m + 1)))
 have h7:=Ez (m + 1)
 omega
theorem Place.lt:val v<B (m + 2):=by have:=IV H.lv; rwa [H.hv] at this
theorem Place.high {k:Nat} (hk:j + m + 3≤k):dg u k=0∧val (u.drop k)=0:=by
 have h1:=Am2 (H.lu.drop (j + 1)) (n:=m + 2) (k:=k-(j + 1)) (by have:=H.less; have:=H.lt; omega) (by omega)
 rw[Ru,List.drop_drop,show j + 1 + (k-(j + 1))=k by omega] at h1
 exact h1
theorem Place.rest : 0≤val (u.drop j)∧val (u.drop j)<65536*val v:=by
 refine ⟨Aw (H.lu.drop j),?_⟩
 have h1:=BQ u j
 have h2:=AJ H.lu j
 have h3:=H.less
 omega
theorem Place.quot : 0≤val (u.drop j)/val v∧val (u.drop j)/val v<65536:=by
 obtain ⟨h1,h2⟩:=H.rest
 have h3:=H.pos
 exact ⟨Int.ediv_nonneg h1 (by omega),Int.ediv_lt_of_lt_mul h3 h2⟩
theorem Place.mod : 0≤val (u.drop j)-val (u.drop j)/val v*val v∧val (u.drop j)-val (u.drop j)/val v*val v<val v:=by
 have h1:=Int.emod_add_mul_ediv (val (u.drop j)) (val v)
 have h2:=Int.emod_nonneg (val (u.drop j)) (show val v≠0 by have:=H.pos; omega)
 have h3:=Int.emod_lt_of_pos (val (u.drop j)) H.pos
 rw[Int.mul_comm] at h1
 omega
theorem Place.guess:Guess (B m) (dg v (m + 1)) (dg v m) (val (v.take m)) (dg u (j + m + 2)*65536 + dg u (j + m + 1)) (dg u (j + m)) (val ((u.drop j).take m)) (val v) (val (u.drop j)) (val (u.drop j)/val v):=by
 have d1:=AJ H.lu (j + m + 1)
 have d2:=AJ H.lu (j + m + 2)
 have hm:=H.mod
 have hq:=H.quot
 refine ⟨Ez m,H.top,(AJ H.lv _).2,AJ H.lv _,BI H.lv m,AJ H.lu _,BI (H.lu.drop j) m,?_,?_,by omega,by omega,hq.1,hq.2,H.pos⟩
 ·rw[Bu v m,BQ v m,BQ v (m + 1),List.drop_eq_nil_of_le (show v.length≤m + 1 + 1 by rw[H.hv]; omega)]
  simp only[val]
  grind
 ·rw[Bu (u.drop j) m,List.drop_drop,BQ u (j + m),BQ u (j + m + 1),BQ u (j + m + 1 + 1),(H.high (k:=j + m + 1 + 1 + 1) (by omega)).2,show j + m + 1 + 1=j + m + 2 by omega]
  grind
theorem Place.after {u4:List Int} (hl:u4.length=u.length) (hg:∀ i,i<j + m + 2→0≤dg u4 i∧dg u4 i<65536) (hh:∀ i,j + m + 2<i→dg u4 i=dg u i) {x:Int} (hv:val u4=val u-B j*(x*val v)) :
  val (u4.drop j)=val (u.drop j)-x*val v∧∃ X,0≤X∧X<B (m + 2)∧val (u.drop j)-x*val v=X + B (m + 2)*dg u4 (j + m + 2):=by
 have e1:val (u4.drop j)=val (u.drop j)-x*val v:=by
  have h1:=Bu u4 j
  have h2:=Bu u j
  have h3:=BI H.lu j
  have h4:LB (u4.take j):=Am7 fun i hi=>hg i (by omega)
  have h5:=BI h4 j
  rw[List.take_take,Nat.min_self] at h5
  refine MN (j:=j) h5 h3 ?_
  rw[Int.mul_sub]
  omega
 refine ⟨e1,val ((u4.drop j).take (m + 2)),?_⟩
 have h4:LB ((u4.drop j).take (m + 2)):=Am7 fun i hi=>by rw[Ru]; exact hg _ (by omega)
 have h5:=BI h4 (m + 2)
 rw[List.take_take,Nat.min_self] at h5
 refine ⟨h5.1,h5.2,?_⟩
 rw[←e1,Bu (u4.drop j) (m + 2),List.drop_drop,BQ u4 (j + (m + 2)),K1 (l:=u4.drop (j + (m + 2) + 1)) fun i=>by rw[Ru,hh _ (by omega)]; exact (H.high (by omega)).1]
 rw[show j + (m + 2)=j + m + 2 by omega,Int.mul_zero,Int.add_zero]
theorem Place.done {u4:List Int} (hl:u4.length=u.length) (hg:∀ i,i<j + m + 2→0≤dg u4 i∧dg u4 i<65536) (hh:∀ i,j + m + 2<i→dg u4 i=dg u i) {x:Int} (hv:val u4=val u-B j*(x*val v))
  (hx : 0≤val (u.drop j)-x*val v∧val (u.drop j)-x*val v<val v):dg u4 (j + m + 2)=0∧LB u4∧val (u4.drop j)<val v:=by
 obtain ⟨h1,X,h2,h3,h4⟩:=H.after hl hg hh hv
 have h0:dg u4 (j + m + 2)=0:=by
  have:=H.lt
  exact (MN (j:=m + 2) (a:=val (u.drop j)-x*val v) (b:=X) (X:=0) (by omega) (by omega) (by rw[h4]; simp)).symm
 refine ⟨h0,Sa fun i hi=>?_,by omega⟩
 rcases Nat.lt_trichotomy i (j + m + 2) with g | g | g
 ·exact hg i g
 ·rw[g,h0]; omega
 ·rw[hh i g]; exact AJ H.lu i
theorem Place.one {q:Int} (h1:val (u.drop j)/val v≤q) (h2:q*val v<val (u.drop j) + val v):q=val (u.drop j)/val v∨q=val (u.drop j)/val v + 1:=by
 have hm:=H.mod
 have hp:=H.pos
 rcases Int.lt_or_le (val (u.drop j)/val v + 1) q with g | g
 ·exfalso
  have:=Int.mul_le_mul_of_nonneg_right (show val (u.drop j)/val v + 2≤q by omega) (Int.le_of_lt hp)
  rw[Int.add_mul] at this
  omega
 ·omega
end
end Go.Proofs.YthipdlhknbhiiaaGreat.Ev

end
section
namespace Go.Proofs.YthipdlhknbhiiaaGreat.Ev
open Go
theorem Place.start {u v:List Int} {j m:Nat} (H:Place u v j m):val (u.drop j)/val v≤(dg u (j + m + 2)*65536 + dg u (j + m + 1))/dg v (m + 1):=by
 have G:=H.guess
 have hu2:=G.hu2
 have hur:=G.hur
 have hP:=G.hP
 have hv2:=G.hv2
 have hvr:=G.hvr
 have h1:dg u (j + m)*B m≤65535*B m:=Int.mul_le_mul_of_nonneg_right (by omega) (by omega)
 have h2 : 0≤dg v m*B m:=Int.mul_nonneg hv2.1 (by omega)
 exact Yo (P':=65536*B m) (vt:=dg v m*B m + val (v.take m)) (ut:=dg u (j + m)*B m + val ((u.drop j).take m)) (v:=val v) (U:=val (u.drop j)) (by omega) G.hv1 (by omega) (by omega) (by rw[G.hV]; grind) (by rw[G.hU]; grind) G.hQ G.hQ0
set_option maxHeartbeats 1000000 in
theorem AN9 {u v out:List Int} {by_:Int} {j m:Nat} (H:Place u v j m) (hl:u.length≤1000000) (hj:j<out.length) :
  ∃ u',BO u v out ((m + 2:Nat):Int) by_ (j:Int)=some (.inl (u',(v,(out.set j (val (u.drop j)/val v),(((m + 2:Nat):Int),(by_,(j:Int)-1)))))) ∧
   u'.length=u.length∧LB u'∧val u'=val u-B j*(val (u.drop j)/val v*val v)∧val (u'.drop j)<val v:=by
 have hlen:=H.len
 have hvl:=H.hv
 have d1:=AJ H.lu (j + m + 1)
 have d2:=AJ H.lu (j + m + 2)
 have dv:=AJ H.lv (m + 1)
 have htop:=H.top
 have G:=H.guess
 have hQ:=H.quot
 have hmod:=H.mod
 have hst:=H.start
 have hk:∀ l:List Int,l.length=u.length→idxI (IntKind.wrap .i64 ((j:Int) + ((m + 2:Nat):Int))) l.length=some (j + m + 2):=fun l h=>by
  rw[h,wrapI (by omega) (by omega),show (j:Int) + ((m + 2:Nat):Int)=((j + m + 2:Nat):Int) by omega]
  exact AQ (by omega)
 have hk1:idxI (IntKind.wrap .i64 (IntKind.wrap .i64 ((j:Int) + ((m + 2:Nat):Int))-1)) u.length=some (j + m + 1):=by
  rw[wrapI (n:=(j:Int) + ((m + 2:Nat):Int)) (by omega) (by omega),wrapI (by omega) (by omega),show (j:Int) + ((m + 2:Nat):Int)-1=((j + m + 1:Nat):Int) by omega]
  exact AQ (by omega)
 have hk2:idxI (IntKind.wrap .i64 (((m + 2:Nat):Int)-1)) v.length=some (m + 1):=by
  rw[wrapI (by omega) (by omega),show ((m + 2:Nat):Int)-1=((m + 1:Nat):Int) by omega]
  exact AQ (by omega)
 have hj0:∀ l:List Int,l.length=out.length→idxI (j:Int) l.length=some j:=fun l h=>by rw[h]; exact AQ hj
 have hge:decide ((j:Int)≥0)=true:=decide_eq_true (by omega)
 have hz:(dg v (m + 1)==0)=false:=beq_eq_false_iff_ne.2 (by omega)
 have w1:=wrapI (n:=dg u (j + m + 2)*65536) (by omega) (by omega)
 have w2:=wrapI (n:=dg u (j + m + 2)*65536 + dg u (j + m + 1)) (by omega) (by omega)
 have htop0 : 0≤dg u (j + m + 2)*65536 + dg u (j + m + 1):=by omega
 have e1:=Int.emod_add_mul_ediv (dg u (j + m + 2)*65536 + dg u (j + m + 1)) (dg v (m + 1))
 have e2:=Int.emod_nonneg (dg u (j + m + 2)*65536 + dg u (j + m + 1)) (show dg v (m + 1)≠0 by omega)
 have e3:(dg u (j + m + 2)*65536 + dg u (j + m + 1))/dg v (m + 1)≤dg u (j + m + 2)*65536 + dg u (j + m + 1):=Int.ediv_le_self _ htop0
 have w3:=wrapI (n:=(dg u (j + m + 2)*65536 + dg u (j + m + 1))/dg v (m + 1)) (by omega) (by omega)
 obtain ⟨q,hg1,hg2,hg3,hg4⟩:=AP4 (out:=out) (by_:=by_) (u:=u) (v:=v) (j:=j) (m:=m) G rfl (by omega) (by omega) hvl rfl rfl (by omega) rfl (q0:=(dg u (j + m + 2)*65536 + dg u (j + m + 1))/dg v (m + 1)) (r0:=(dg u (j + m + 2)*65536 + dg u (j + m + 1))%dg v (m + 1)) (by rw[Int.mul_comm]; omega) e2 hst (by omega)
 obtain ⟨u1,c,ht1,O⟩:=AS1 (out:=out) (by_:=by_) (n:=((m + 2:Nat):Int)) (j:=j) H.lu H.lv (q:=q) ⟨by omega,hg3⟩ (by rw[hvl]) (by omega) hl
 have ol:=O.len
 have oc0:=O.c0
 have oc1:=O.c1
 have ohi:dg u1 (j + m + 2)=dg u (j + m + 2):=O.hi _ (by omega)
 have ov:=O.v
 rw[List.take_of_length_le (Nat.le_refl _),hvl,show j + (m + 2)=j + m + 2 by omega] at ov
 have gu1:getN u1 (j + m + 2)=some (dg u (j + m + 2)):=by unfold getN; rw[Ag (by omega),ohi]
 have w4:=wrapI (n:=dg u (j + m + 2)-c) (by omega) (by omega)
 have w5:=wrapI (n:=(j:Int)-1) (by omega) (by omega)
 have hset:val (u1.set (j + m + 2) (dg u (j + m + 2)-c))=val u-B j*(q*val v):=by
  rw[DM (Ag (show j + m + 2<u1.length by omega)),ohi,show dg u (j + m + 2)-c-dg u (j + m + 2) = -c by omega,Int.mul_neg]
  omega
 have hsl:(u1.set (j + m + 2) (dg u (j + m + 2)-c)).length=u.length:=by rw[List.length_set]; exact ol
 have hsg:∀ i,i<j + m + 2→0≤dg (u1.set (j + m + 2) (dg u (j + m + 2)-c)) i∧dg (u1.set (j + m + 2) (dg u (j + m + 2)-c)) i<65536:=fun i hi=>by rw[Bj (by omega)]; exact AJ O.lb i
 have hsh:∀ i,j + m + 2<i→dg (u1.set (j + m + 2) (dg u (j + m + 2)-c)) i=dg u i:=fun i hi=>by rw[Bj (by omega)]; exact O.hi i (by omega)
 have hsd:dg (u1.set (j + m + 2) (dg u (j + m + 2)-c)) (j + m + 2)=dg u (j + m + 2)-c:=by rw[Ai7 (by omega),if_pos rfl]
 have gs:getN (u1.set (j + m + 2) (dg u (j + m + 2)-c)) (j + m + 2)=some (dg u (j + m + 2)-c):=by unfold getN; rw[Ag (by omega),hsd]
 have gout:getN out j=some (dg out j):=Ag hj
 have gu0:getN u (j + m + 2)=some (dg u (j + m + 2)):=Ag (by omega)
 have gu00:getN u (j + m + 1)=some (dg u (j + m + 1)):=Ag (by omega)
 have gv0:getN v (m + 1)=some (dg v (m + 1)):=Ag (by omega)
 rcases H.one hg2 hg4 with hq | hq
 ·obtain ⟨f1,f2,f3⟩:=H.done hsl hsg hsh hset (by rw[hq]; exact hmod)
  rw[hsd] at f1
  rw[f1] at hset hsl hsg hsh hsd gs w4 f2 f3
  refine ⟨_,?_,hsl,f2,by rw[hset,hq],f3⟩
  unfold BO
  rw[hge]
  simp only[cond_true,cond_false,Option.bind_some,hk u rfl,gu0,hk1,gu00,hk2,gv0,hz,w1,w2,Int.tdiv_eq_ediv_of_nonneg htop0,Int.tmod_eq_emod_of_nonneg htop0,w3]
  rw[hg1]
  simp only[Option.bind_some]
  rw[ht1]
  simp only[Option.bind_some,hk u1 ol,gu1,f1,w4,hk _ hsl,gs,show decide ((0:Int)<0)=false from rfl,cond_false,hj0 out rfl,gout,w5,hq]
 ·obtain ⟨f1,X,f2,f3,f4⟩:=H.after hsl hsg hsh hset
  rw[hsd] at f4
  have hneg:dg u (j + m + 2)-c = -1:=by
   have hlt:=H.lt
   have hqv:q*val v=val (u.drop j)/val v*val v + val v:=by rw[hq,Int.add_mul,Int.one_mul]
   have:=MN (j:=m + 2) (a:=val (u.drop j)-q*val v + B (m + 2)) (b:=X) (X:=-1) (Y:=dg u (j + m + 2)-c) (by omega) (by omega) (by rw[f4,Int.mul_neg,Int.mul_one]; omega)
   exact this.symm
  rw[hneg] at hset hsl hsg hsh hsd gs w4
  obtain ⟨u3,c3,hb1,K⟩:=AT7 (out:=out) (by_:=by_) (n:=((m + 2:Nat):Int)) (q:=val (u.drop j)/val v) (u0:=u1.set (j + m + 2) (-1)) (v:=v) (j:=j) (by rw[hvl]; exact hsg) H.lv (by rw[hvl]) (by omega) (by omega)
  have kl:u3.length=u.length:=K.len.trans hsl
  have kc0:=K.c0
  have kc1:=K.c1
  have khi:dg u3 (j + m + 2) = -1:=by rw[K.hi _ (by omega),hsd]
  have kv:=K.v
  rw[List.take_of_length_le (Nat.le_refl _),hvl,show j + (m + 2)=j + m + 2 by omega,hset] at kv
  have hset':val (u3.set (j + m + 2) (-1 + c3))=val u-B j*(val (u.drop j)/val v*val v):=by
   rw[DM (Ag (show j + m + 2<u3.length by omega)),khi,show -1 + c3 - -1=c3 by omega]
   have:B j*(q*val v)=B j*(val (u.drop j)/val v*val v) + B j*val v:=by rw[hq,Int.add_mul,Int.one_mul,Int.mul_add]
   omega
  obtain ⟨f1,f2,f3⟩:=H.done (u4:=u3.set (j + m + 2) (-1 + c3)) (by rw[List.length_set]; exact kl) (fun i hi=>by rw[Bj (by omega)]; exact K.lb i (by omega)) (fun i hi=>by rw[Bj (by omega),K.hi i (by omega)]; exact hsh i hi) hset' hmod
  refine ⟨_,?_,by rw[List.length_set]; exact kl,f2,hset',f3⟩
  have gu3:getN u3 (j + m + 2)=some (-1):=by unfold getN; rw[Ag (by omega),khi]
  have w6:=wrapI (n:=-1 + c3) (by omega) (by omega)
  have w7:IntKind.wrap .i64 (q-1)=val (u.drop j)/val v:=by rw[wrapI (by omega) (by omega)]; omega
  unfold BO
  rw[hge]
  simp only[cond_true,cond_false,Option.bind_some,hk u rfl,gu0,hk1,gu00,hk2,gv0,hz,w1,w2,Int.tdiv_eq_ediv_of_nonneg htop0,Int.tmod_eq_emod_of_nonneg htop0,w3]
  rw[hg1]
  simp only[Option.bind_some]
  rw[ht1]
  simp only[Option.bind_some,hk u1 ol,gu1,hneg,w4,hk _ hsl,gs,show decide ((-1:Int)<0)=true from rfl,cond_true,w7]
  rw[hb1]
  simp only[Option.bind_some,hk u3 kl,gu3,hj0 out rfl,gout,w5,w6]
end Go.Proofs.YthipdlhknbhiiaaGreat.Ev

end
section
namespace Go.Proofs.YthipdlhknbhiiaaGreat.Ev
open Go
structure Places (u0 v:List Int) (m n:Nat) (u out:List Int):Prop where
 len:u.length=u0.length
 lu:LB u
 le:n + (m + 2)≤u0.length
 less:val (u.drop n)<val v
 lo:LB out
 olen:out.length + (m + 2)=u0.length
 zero:∀ i,i<n→dg out i=0
 v:val u + val v*val out=val u0
theorem Places.place {u0 v u out:List Int} {m n:Nat} (h:Places u0 v m (n + 1) u out) (hv:LB v) (hvl:v.length=m + 2) (ht : 1≤dg v (m + 1)):Place u v n m :=
 ⟨h.lu,hv,hvl,ht,by have:=h.le; have:=h.len; omega,h.less⟩
theorem Places.next {u0 v u out u':List Int} {m n:Nat} (h:Places u0 v m (n + 1) u out) (H:Place u v n m) (h1:u'.length=u.length) (h2:LB u') (h3:val u'=val u-B n*(val (u.drop n)/val v*val v)) (h4:val (u'.drop n)<val v) :
  Places u0 v m n u' (out.set n (val (u.drop n)/val v)):=by
 have hle:=h.le
 have hol:=h.olen
 refine ⟨h1.trans h.len,h2,by omega,h4,h.lo.set H.quot,by rw[List.length_set]; exact hol,fun i hi=>by rw[Bj (by omega)]; exact h.zero i (by omega),?_⟩
 have hz:=h.zero n (by omega)
 rw[DM (Ag (show n<out.length by omega)),hz,h3,Int.sub_zero,Int.mul_add]
 have:=h.v
 have e:val v*(B n*(val (u.drop n)/val v))=B n*(val (u.drop n)/val v*val v):=by grind
 omega
theorem AD5 {u0 v:List Int} {m:Nat} {by_:Int} (hv:LB v) (hvl:v.length=m + 2) (ht : 1≤dg v (m + 1)) (hl:u0.length≤1000000) {n:Nat} {out:List Int} (h:Places u0 v m n u0 out) :
  ∃ u out',loopM (fun (s:((List Int)×((List Int)×((List Int)×(Int×(Int×Int))))))=>BO s.1 s.2.1 s.2.2.1 s.2.2.2.1 s.2.2.2.2.1 s.2.2.2.2.2) (u0,(v,(out,(((m + 2:Nat):Int),(by_,(n:Int)-1)))))=some (u,(out',(((m + 2:Nat):Int),by_)))∧Places u0 v m 0 u out':=by
 obtain ⟨⟨u,out'⟩,h1,h2⟩:=Ig (body:=fun (s:((List Int)×((List Int)×((List Int)×(Int×(Int×Int))))))=>BO s.1 s.2.1 s.2.2.1 s.2.2.2.1 s.2.2.2.2.1 s.2.2.2.2.2)
  (st:=fun n (b:List Int×List Int)=>(b.1,(v,(b.2,(((m + 2:Nat):Int),(by_,(n:Int)-1)))))) (fin:=fun b=>(b.1,(b.2,(((m + 2:Nat):Int),by_)))) (I:=fun n b=>Places u0 v m n b.1 b.2)
  (by
   rintro n ⟨u,out⟩ hI
   simp only at hI
   have H:=hI.place hv hvl ht
   have hle:=hI.le
   have hol:=hI.olen
   have hul:=hI.len
   obtain ⟨u',g1,g2,g3,g4,g5⟩:=AN9 (out:=out) (by_:=by_) H (by omega) (by omega)
   refine ⟨(u',out.set n (val (u.drop n)/val v)),?_,hI.next H g2 g3 g4 g5⟩
   simp only
   rw[show ((n + 1:Nat):Int)-1=(n:Int) by omega,g1])
  (by
   rintro ⟨u,out⟩ _
   unfold BO
   dsimp only
   rw[decide_eq_false (by omega)]
   rfl) n (u0,out) h
 exact ⟨u,out',h1,h2⟩
theorem Places.start {u0 v:List Int} {m n:Nat} (hu:LB u0) (hv:LB v) (hvl:v.length=m + 2) (ht : 1≤dg v (m + 1)) (hn:u0.length=n + (m + 2)) (h0:dg u0 (n + (m + 1))=0):Places u0 v m n u0 (List.replicate n 0):=by
 refine ⟨rfl,hu,by omega,?_,LB.zeros n,by simp; omega,fun i hi=>by unfold dg; rw[List.getD_eq_getElem?_getD,List.getElem?_replicate]; split <;> rfl,by rw[Dg]; omega⟩
 have h1:=Bu (u0.drop n) (m + 1)
 have h2:=BI (hu.drop n) (m + 1)
 rw[List.drop_drop,BQ u0 (n + (m + 1)),h0,List.drop_eq_nil_of_le (show u0.length≤n + (m + 1) + 1 by omega)] at h1
 simp only[val] at h1
 have h3:=Bu v (m + 1)
 have h4:=Aw (hv.take (m + 1))
 have h5:=BQ v (m + 1)
 have h6:=Aw (hv.drop (m + 1 + 1))
 have h7:=Int.mul_le_mul_of_nonneg_left (show 1≤val (v.drop (m + 1)) by omega) (Int.le_of_lt (Ez (m + 1)))
 omega
theorem Places.end {u0 v u out:List Int} {m:Nat} (h:Places u0 v m 0 u out) (hv:LB v):val out=val u0/val v∧val u=val u0%val v:=by
 have h1:=h.less
 rw[List.drop_zero] at h1
 exact Po (by rw[Int.mul_comm]; have:=h.v; omega) (Aw h.lu) h1
theorem Rg {n:Nat} (h:n≠0) : 1≤dg (lim n) ((lim n).length-1)∧dg (lim n) ((lim n).length-1)<65536∧B ((lim n).length-1)*dg (lim n) ((lim n).length-1)≤n∧(n:Int)<B ((lim n).length-1)*(dg (lim n) ((lim n).length-1) + 1):=by
 have hne:(lim n).length≠0:=fun hh=>h (F8.1 (List.eq_nil_of_length_eq_zero hh))
 have h1:=Bu (lim n) ((lim n).length-1)
 have h2:=BI (Ao n) ((lim n).length-1)
 rw[BQ,List.drop_eq_nil_of_le (show (lim n).length≤(lim n).length-1 + 1 by omega),Aj] at h1
 simp only[val,Int.mul_zero,Int.add_zero] at h1
 have h3:=AJ (Ao n) ((lim n).length-1)
 refine ⟨?_,h3.2,by omega,by rw[Int.mul_add]; omega⟩
 rcases Int.lt_or_le 0 (dg (lim n) ((lim n).length-1)) with g | g
 ·omega
 ·exfalso
  have g0:dg (lim n) ((lim n).length-1)=0:=by omega
  refine Oh n _ (List.getLast?_eq_getElem? .. ▸ Ag (show (lim n).length-1<(lim n).length by omega)) g0
end Go.Proofs.YthipdlhknbhiiaaGreat.Ev

end
section
namespace Go.Proofs.YthipdlhknbhiiaaGreat.Ev
open Go
theorem IQ {l:List Int} {n:Int} {i:Nat} (hn:n=(i:Int)) (h:i<l.length):getI l n=some (dg l i):=by rw[hn,Ak]; exact Ag h
theorem Ay5 {n m:Int} {a b k:Nat} (hn:n=(a:Int)) (hm:m=(b:Int)) (h1:a≤b) (h2:b≤k):subI n m k=some (a,b):=by
 subst hn hm; unfold subI; simp[h1,h2]
theorem Ao3 {b:Nat} (h:(lim b).length=1):(lim b) = [(b:Int)]∧b<65536∧b≠0:=by
 match hl:lim b with
 | []=>rw[hl] at h; simp at h
 | [x] =>
  have hv:=Aj b
  have hb:=Ao b
  rw[hl] at hv hb
  have h0:=hb.head
  simp only[val] at hv
  have:b≠0:=fun h0=>by rw[h0,Bi] at hl; simp at hl
  exact ⟨by congr 1; omega,by omega,this⟩
 | x::y::l=>rw[hl] at h; simp at h
theorem Sr {a b c:Nat} (hc : 0<c):a*c/(b*c)=a/b∧a*c%(b*c)=a%b*c:=⟨Nat.mul_div_mul_right _ _ hc,Nat.mul_mod_mul_right _ _ _⟩
theorem scale {t by_:Int} (h1 : 1≤t) (h2:t<65536) (hb:by_=65536/(t + 1)) : 1≤by_∧by_≤32768∧by_*(t + 1)≤65536:=by
 have e1:=Int.emod_add_mul_ediv 65536 (t + 1)
 have e2:=Int.emod_nonneg 65536 (show t + 1≠0 by omega)
 have e3:=Int.emod_lt_of_pos 65536 (show 0<t + 1 by omega)
 rw[←hb] at e1
 have e4 : 1≤by_:=by
  rw[hb]
  exact (Int.le_ediv_iff_mul_le (by omega)).2 (by omega)
 have e5:by_*2≤by_*(t + 1):=Int.mul_le_mul_of_nonneg_left (by omega) (by omega)
 rw[Int.mul_comm] at e1
 exact ⟨e4,by omega,by omega⟩
set_option maxHeartbeats 1000000 in
theorem S6 {a b:Nat} (hb0:b≠0) (ha:(lim a).length≤90000) (hb:(lim b).length≤90000):Dj (lim a) (lim b)=some (lim (a/b),lim (a%b)):=by
 unfold Dj
 rw[GF (by unfold Brief; omega) (by unfold Brief; omega)]
 simp only[Option.bind_some]
 by_cases hab:a<b
 ·rw[Cz (by omega)]
  simp only[show decide ((-1:Int)<0)=true from rfl,cond_true]
  rw[Nat.div_eq_of_lt hab,Nat.mod_eq_of_lt hab,Bi]
 have hc:decide (cmpZ (a:Int) b<0)=false:=by
  rcases BF (a:Int) b with ⟨h,g⟩ | ⟨h,_⟩ | ⟨h,_⟩
  ·omega
  ·rw[h]; rfl
  ·rw[h]; rfl
 simp only[hc,cond_false]
 have hbl:(lim b).length≠0:=fun h=>hb0 (F8.1 (List.eq_nil_of_length_eq_zero h))
 by_cases h1:(lim b).length=1
 ·obtain ⟨e1,e2,e3⟩:=Ao3 h1
  rw[e1]
  simp only[List.length_singleton,show (((1:Nat):Int)==1)=true from rfl,cond_true]
  rw[show getI [(b:Int)] 0=some (b:Int) from rfl]
  simp only[Option.bind_some]
  rw[Tu (by omega) (by omega)]
  simp only[Option.bind_some,Int.toNat_natCast]
  rw[Vd (by unfold Brief; simp)]
  have hm:=Nat.mod_lt a (show b>0 by omega)
  simp only[Option.bind_some,Bt (LB.cons (show (0:Int)≤((a%b:Nat):Int)∧((a%b:Nat):Int)<65536 by omega) LB.nil),val]
  congr 3
 have hn1:((((lim b).length:Nat):Int)==1)=false:=beq_eq_false_iff_ne.2 (by omega)
 obtain ⟨m,hm⟩:∃ m,(lim b).length=m + 2:=⟨(lim b).length-2,by omega⟩
 obtain ⟨t1,t2,t3,t4⟩:=Rg hb0
 rw[hm,show m + 2-1=m + 1 by omega] at t1 t2 t3 t4
 have hg:=IQ (l:=lim b) (n:=IntKind.wrap .i64 (((lim b).length:Int)-1)) (i:=m + 1) (by rw[wrapI (by omega) (by omega)]; omega) (by omega)
 generalize ht:dg (lim b) (m + 1)=t at *
 have wt:IntKind.wrap .i64 (t + 1)=t + 1:=wrapI (by omega) (by omega)
 have hz:(t + 1==0)=false:=beq_eq_false_iff_ne.2 (by omega)
 obtain ⟨s1,s2,s3⟩:=scale t1 t2 rfl
 have hby:IntKind.wrap .i64 (Int.tdiv 65536 (t + 1))=65536/(t + 1):=by rw[Int.tdiv_eq_ediv_of_nonneg (by omega)]; exact wrapI (by omega) (by omega)
 generalize hby2 : 65536/(t + 1)=by_ at *
 obtain ⟨c,rfl⟩:∃ c:Nat,by_=(c:Int):=⟨by_.toNat,by omega⟩
 have hb40:(lim a).length≤90000:=ha
 have hBa:(a:Int)<B (lim a).length:=Ah.1 (Nat.le_refl _)
 have hBb:(b:Int)<B (lim b).length:=Ah.1 (Nat.le_refl _)
 have hB1:B 1=65536:=rfl
 have fitc:∀ k,1≤k→(((c:Int)).natAbs:Int)<B k:=fun k hk=>by
  have:=G6 hk
  omega
 have hk1 : 1≤(lim a).length:=by
  rcases Nat.eq_zero_or_pos (lim a).length with h | h
  ·have:=F8.1 (List.eq_nil_of_length_eq_zero h); omega
  ·exact h
 obtain ⟨ra,hra,era⟩:=Ck (x:=(a:Int)) (y:=(c:Int)) (k:=(lim a).length) (by omega) (by rw[Int.natAbs_natCast]; exact hBa) (fitc _ hk1)
 obtain ⟨rb,hrb,erb⟩:=Ck (x:=(b:Int)) (y:=(c:Int)) (k:=(lim b).length) (by omega) (by rw[Int.natAbs_natCast]; exact hBb) (fitc _ (by omega))
 have bn:∀ n:Nat,big (n:Int)=(false,lim n):=fun n=>by unfold big; rw[decide_eq_false (by omega),Int.natAbs_natCast]
 have ra1:ra.1=lim (a*c):=by rw[show (a:Int)*c=((a*c:Nat):Int) by simp,bn] at era; exact (Prod.ext_iff.1 era).2
 have rb1:rb.1=lim (b*c):=by rw[show (b:Int)*c=((b*c:Nat):Int) by simp,bn] at erb; exact (Prod.ext_iff.1 erb).2
 rw[bn,bn] at hra hrb
 have mkb:∀ n:Nat,(lim n).length≤90000→AL false (lim n)=some (lim n,false):=fun n hn=>by
  rw[Fn (Ao n) (by unfold Brief; omega),Aj]; simp
 simp only[hn1,cond_false,hg,Option.bind_some,wt,hz,hby,mkb a ha,mkb b hb,Na (n:=(c:Int)) (by omega) (by omega),bn,hra,hrb,ra1,rb1]
 have hc0 : 0<c:=by omega
 have la:(lim a).length≤(lim (a*c)).length:=by
  rw[Ah]
  have h1:((a*c:Nat):Int)<B (lim (a*c)).length:=Ah.1 (Nat.le_refl _)
  have:a*1≤a*c:=Nat.mul_le_mul_left _ (by omega)
  omega
 have la2:(lim (a*c)).length≤(lim a).length + 1:=by
  rw[Ah]
  rw[show ((a*c:Nat):Int)=(a:Int)*c by simp]
  have e1:(a:Int)*c≤a*65536:=Int.mul_le_mul_of_nonneg_left (by omega) (by omega)
  simp only[B]
  omega
 have lb:(lim (b*c)).length=m + 2:=by
  apply Nat.le_antisymm
  ·rw[Ah]
   rw[show ((b*c:Nat):Int)=(b:Int)*c by simp]
   have e1:(b:Int)*c<B (m + 1)*(t + 1)*c:=Int.mul_lt_mul_of_pos_right t4 (by omega)
   have e2:B (m + 1)*((c:Int)*(t + 1))≤B (m + 1)*65536:=Int.mul_le_mul_of_nonneg_left s3 (Int.le_of_lt (Ez _))
   have e3:B (m + 1)*(t + 1)*c=B (m + 1)*((c:Int)*(t + 1)):=by rw[Int.mul_assoc,Int.mul_comm (t + 1)]
   have e4:B (m + 2)=B (m + 1)*65536:=by simp only[B]; omega
   omega
  ·rw[←hm,Ah]
   have h1:((b*c:Nat):Int)<B (lim (b*c)).length:=Ah.1 (Nat.le_refl _)
   have:b*1≤b*c:=Nat.mul_le_mul_left _ (by omega)
   omega
 have happ:appL 8 1 (lim (a*c)) [0]=some (lim (a*c) ++ [0]):=app1 (by omega)
 have hle:(lim b).length≤(lim a).length:=by
  rw[Ah]; omega
 simp only[happ,Option.bind_some]
 rw[Ap (r:=(lim (a*c) ++ [0],(lim (b*c),(((lim b).length:Int),(c:Int))))) (by
  unfold Kx
  dsimp only
  rw[wrapI (by omega) (by omega),decide_eq_false (by simp; omega)]
  rfl)]
 simp only[Option.bind_some]
 have hlu:(lim (a*c) ++ [(0:Int)]).length=((lim (a*c)).length-(m + 1)) + (m + 2):=by simp; omega
 have wl:IntKind.wrap .i64 (((lim (a*c) ++ [(0:Int)]).length:Int)-((lim b).length:Int))=(((lim (a*c)).length-(m + 1):Nat):Int):=by
  rw[wrapI (by omega) (by omega)]; omega
 generalize hn:(lim (a*c)).length-(m + 1)=n at *
 rw[wl,FD (by unfold maxBytes; omega) (by unfold maxBytes; omega)]
 simp only[Option.bind_some]
 have hval0:val (lim (a*c) ++ [(0:Int)])=((a*c:Nat):Int):=by rw[Iu,Aj]; omega
 have hlb0:LB (lim (a*c) ++ [(0:Int)]):=(Ao _).append (LB.cons (by omega) LB.nil)
 have hbc0:b*c≠0:=Nat.mul_ne_zero hb0 (by omega)
 have htop:=(Rg hbc0).1
 rw[lb,show m + 2-1=m + 1 by omega] at htop
 obtain ⟨u,out,hp,P⟩:=AD5 (by_:=(c:Int)) (Ao (b*c)) lb htop (by omega) (Places.start hlb0 (Ao _) lb htop hlu (by
  unfold dg
  rw[List.getD_eq_getElem?_getD,List.getElem?_append_right (by omega),show n + (m + 1)-(lim (a*c)).length=0 by omega]
  rfl))
 rw[show ((lim b).length:Int)=((m + 2:Nat):Int) by omega,wrapI (by omega) (by omega),hp]
 simp only[Option.bind_some]
 obtain ⟨p1,p2⟩:=P.end (Ao _)
 rw[hval0,Aj] at p1 p2
 obtain ⟨q1,q2⟩:=Sr (a:=a) (b:=b) hc0
 have p1':val out=((a/b:Nat):Int):=by rw[p1,←q1]; simp
 have p2':val u=((a%b*c:Nat):Int):=by rw[p2,←q2]; simp
 have hul:=P.len
 have hol:=P.olen
 rw[Ay5 (a:=0) (b:=m + 2) (by rfl) rfl (by omega) (by omega)]
 simp only[Option.bind_some,List.drop_zero,Nat.sub_zero,Nat.zero_add]
 have hless:=P.less
 rw[List.drop_zero,Aj] at hless
 have hbc:((b*c:Nat):Int)<B (m + 2):=by rw[←lb]; exact Ah.1 (Nat.le_refl _)
 have hvt:val (u.take (m + 2))=val u:=by
  have h1:=Bu u (m + 2)
  have h2:=(Am2 P.lu (n:=m + 2) (k:=m + 2) (by omega) (Nat.le_refl _)).2
  rw[h2] at h1
  omega
 rw[Vd (by unfold Brief; rw[List.length_take]; omega)]
 simp only[Option.bind_some]
 rw[Bt (P.lu.take _),hvt,p2',Int.toNat_natCast,Tu (by omega) (by
  have:(lim (a%b*c)).length≤m + 2:=by
   rw[Ah]
   have:=Nat.mul_lt_mul_of_pos_right (Nat.mod_lt a (show b>0 by omega)) hc0
   omega
  omega)]
 simp only[Option.bind_some]
 rw[Vd (by unfold Brief; omega)]
 simp only[Option.bind_some]
 rw[Bt P.lo,p1',Int.toNat_natCast,Int.toNat_natCast,Nat.mul_div_cancel _ hc0]
end Go.Proofs.YthipdlhknbhiiaaGreat.Ev

end
section
namespace Go.Proofs.YthipdlhknbhiiaaGreat.Ev
open Go
theorem ZD (v:List Int) (k:Nat):dg (v ++ [0]) k=dg v k:=by
 unfold dg
 simp only[List.getD_eq_getElem?_getD]
 rcases Nat.lt_or_ge k v.length with h | h
 ·rw[List.getElem?_append_left h]
 ·rw[List.getElem?_append_right h,List.getElem?_eq_none h]
  rcases Nat.eq_zero_or_pos (k-v.length) with g | g
  ·rw[g]; rfl
  ·rw[List.getElem?_eq_none (by simp; omega)]
theorem V8 (v:List Int):val (v ++ [0])=val v:=by rw[Iu]; omega
theorem XX {v:List Int} (h:LB v):LB (v ++ [0]):=h.append (LB.cons (by omega) LB.nil)
theorem AT6 {u0 v:List Int} {q:Int} {j:Nat} (hu:LB u0) (hv:LB v) (hq : 0≤q∧q<65536) (hlen:j + v.length<u0.length) (hl:u0.length≤1000000) :
  ∃ u c,GO u0 v (j:Int) q=some (u,c)∧Off u0 u j (v.length + 1) c q (v ++ [0]):=by
 obtain ⟨⟨u,c⟩,h1,h2⟩:=Gb (body:=fun (s:((List Int)×((List Int)×(Int×(Int×(Int×Int))))))=>F9 s.1 s.2.1 s.2.2.1 s.2.2.2.1 s.2.2.2.2.1 s.2.2.2.2.2)
  (st:=fun k (b:List Int×Int)=>(b.1,(v,((j:Int),(q,(b.2,(k:Int))))))) (fin:=fun b=>(b.1,b.2)) (I:=fun k b=>Off u0 b.1 j k b.2 q (v ++ [0])) (e:=v.length + 1)
  (by
   rintro k ⟨u,c⟩ hk hI
   simp only at hI
   have hul:=hI.len
   have hp:j + k<u.length:=by omega
   have du:=AJ hI.lb (j + k)
   have dv:=AJ hv k
   have c0:=hI.c0
   have c1:=hI.c1
   have m0 : 0≤q*dg v k:=Int.mul_nonneg hq.1 dv.1
   have m1:q*dg v k≤65535*65535:=Int.le_trans (Int.mul_le_mul_of_nonneg_left (show dg v k≤65535 by omega) hq.1) (Int.mul_le_mul_of_nonneg_right (show q≤65535 by omega) (by omega))
   have hnx:=hI.next (XX hv) hq hp rfl
   rw[ZD] at hnx
   refine ⟨(u.set (j + k) (dg u (j + k)-q*dg v k-c + (if dg u (j + k)-q*dg v k-c<0 then (-(dg u (j + k)-q*dg v k-c) + 65536-1)/65536 else 0)*65536),if dg u (j + k)-q*dg v k-c<0 then (-(dg u (j + k)-q*dg v k-c) + 65536-1)/65536 else 0),?_,hnx⟩
   unfold F9 getN
   dsimp only
   have i1:idxI ((j:Int) + (k:Int)) u.length=some (j + k):=by rw[show (j:Int) + (k:Int)=((j + k:Nat):Int) by omega]; exact AQ hp
   have hw1:=wrap1 (show k<4611686018427387904 by omega)
   have hjk:=wrapI (n:=(j:Int) + (k:Int)) (by omega) (by omega)
   rw[decide_eq_true (by omega),hjk]
   simp only[cond_true,i1,Option.bind_some,Ag hp,Im]
   rw[wrapI (n:=q*dg v k) (by omega) (by omega),wrapI (n:=dg u (j + k)-q*dg v k) (by omega) (by omega),wrapI (n:=dg u (j + k)-q*dg v k-c) (by omega) (by omega)]
   have hxb : -4294967296≤dg u (j + k)-q*dg v k-c∧dg u (j + k)-q*dg v k-c<65536:=by omega
   generalize dg u (j + k)-q*dg v k-c=x at *
   by_cases hx:x<0
   ·rw[decide_eq_true hx,if_pos hx,wrapI (n:=0-x) (by omega) (by omega),wrapI (n:=0-x + 65536) (by omega) (by omega),wrapI (n:=0-x + 65536-1) (by omega) (by omega),Int.tdiv_eq_ediv_of_nonneg (by omega),show 0-x + 65536-1 = -x + 65536-1 by omega]
    rw[wrapI (n:=(-x + 65536-1)/65536) (by omega) (by omega),wrapI (n:=(-x + 65536-1)/65536*65536) (by omega) (by omega),wrapI (n:=x + (-x + 65536-1)/65536*65536) (by omega) (by omega)]
    simp only[cond_true,Option.bind_some,Sum.elim_inr,hjk,i1,Ag hp,hw1]
   ·rw[decide_eq_false hx,if_neg hx]
    simp only[cond_false,Option.bind_some,Sum.elim_inr,hjk,i1,Ag hp,hw1,Int.zero_mul,Int.add_zero])
  (by
   rintro ⟨u,c⟩ _
   unfold F9
   dsimp only
   rw[decide_eq_false (by omega)]
   rfl) 0 (u0,0) (by omega) (Off.start hu j q (v ++ [0]))
 refine ⟨u,c,?_,h2⟩
 unfold GO
 dsimp only at h1
 rw[show ((0:Nat):Int)=0 from rfl] at h1
 rw[h1]
 rfl
theorem AR2 {u0 v:List Int} {j:Nat} (hu:LB u0) (hv:LB v) (hlen:j + v.length<u0.length) (hl:u0.length≤1000000) :
  ∃ u c,GD u0 v (j:Int)=some u∧Back u0 u j (v.length + 1) c (v ++ [0]):=by
 obtain ⟨⟨u,c⟩,h1,h2⟩:=Gb (body:=fun (s:((List Int)×((List Int)×(Int×(Int×Int)))))=>F6 s.1 s.2.1 s.2.2.1 s.2.2.2.1 s.2.2.2.2)
  (st:=fun k (b:List Int×Int)=>(b.1,(v,((j:Int),(b.2,(k:Int)))))) (fin:=fun b=>b.1) (I:=fun k b=>Back u0 b.1 j k b.2 (v ++ [0])) (e:=v.length + 1)
  (by
   rintro k ⟨u,c⟩ hk hI
   simp only at hI
   have hul:=hI.len
   have hp:j + k<u.length:=by omega
   have du:=hI.lb (j + k) (by simp; omega)
   have dv:=AJ hv k
   have c0:=hI.c0
   have c1:=hI.c1
   have hnx:=hI.next (XX hv) (by simp; omega) hp
   rw[ZD] at hnx
   refine ⟨⟨_,_⟩,?_,hnx⟩
   unfold F6 getN
   dsimp only
   have i1:idxI ((j:Int) + (k:Int)) u.length=some (j + k):=by rw[show (j:Int) + (k:Int)=((j + k:Nat):Int) by omega]; exact AQ hp
   have hw1:=wrap1 (show k<4611686018427387904 by omega)
   have hjk:=wrapI (n:=(j:Int) + (k:Int)) (by omega) (by omega)
   rw[decide_eq_true (by omega),hjk]
   simp only[cond_true,i1,Option.bind_some,Ag hp,Im]
   rw[wrapI (n:=dg u (j + k) + dg v k) (by omega) (by omega),wrapI (n:=dg u (j + k) + dg v k + c) (by omega) (by omega),Int.tmod_eq_emod_of_nonneg (by omega),Int.tdiv_eq_ediv_of_nonneg (by omega),wrapI (n:=(dg u (j + k) + dg v k + c)/65536) (by omega) (by omega),hw1])
  (by
   rintro ⟨u,c⟩ _
   unfold F6
   dsimp only
   rw[decide_eq_false (by omega)]
   rfl) 0 (u0,0) (by omega) ⟨rfl,fun i _=>AJ hu i,fun _ _=>rfl,by simp only; omega,by simp only; omega,by simp[val]⟩
 refine ⟨u,c,?_,h2⟩
 unfold GD
 dsimp only at h1
 rw[show ((0:Nat):Int)=0 from rfl] at h1
 rw[h1]
 rfl
theorem AN5 {u v:List Int} {j m:Nat} (H:Place u v j m) (hl:u.length≤1000000) :
  ∃ q,FA u v (j:Int)=some q∧val (u.drop j)/val v≤q∧q<65536∧q*val v<val (u.drop j) + val v:=by
 have G:=H.guess
 have hv:=H.hv
 have hlen:=H.len
 have hrest:=H.rest
 have hst:=H.start
 have d1:=AJ H.lu (j + m + 1)
 have d2:=AJ H.lu (j + m + 2)
 have hu:j + m<u.length:=by omega
 have htop65:dg u (j + m + 2)*65536 + dg u (j + m + 1)<65536*(dg v (m + 1) + 1):=by
  have hP:=G.hP
  have hU:=G.hU
  have hV:=G.hV
  have hv2:=G.hv2
  have hvr:=G.hvr
  have hu2:=G.hu2
  have hur:=G.hur
  rcases Int.lt_or_le (dg u (j + m + 2)*65536 + dg u (j + m + 1)) (65536*(dg v (m + 1) + 1)) with h | h
  ·exact h
  ·exfalso
   generalize dg u (j + m + 2)*65536 + dg u (j + m + 1)=top at *
   generalize dg v (m + 1)=v1 at *
   generalize dg v m=v2 at *
   generalize dg u (j + m)=u2 at *
   generalize val (v.take m)=vr at *
   generalize val ((u.drop j).take m)=ur at *
   have e1:=Int.mul_le_mul_of_nonneg_right (show 65536*(v1 + 1)*65536≤top*65536 + u2 by omega) (Int.le_of_lt hP)
   have e2:=Int.mul_le_mul_of_nonneg_right (show v1*65536 + v2 + 1≤(v1 + 1)*65536 by omega) (Int.le_of_lt hP)
   rw[Int.add_mul,Int.one_mul] at e2
   have e3 : 65536*(v1 + 1)*65536*B m=65536*((v1 + 1)*65536*B m):=by grind
   omega
 have hv1:=G.hv1
 have hv1':=G.hv1'
 have htop0 : 0≤dg u (j + m + 2)*65536 + dg u (j + m + 1):=by omega
 have e1:=Int.emod_add_mul_ediv (dg u (j + m + 2)*65536 + dg u (j + m + 1)) (dg v (m + 1))
 have e2:=Int.emod_nonneg (dg u (j + m + 2)*65536 + dg u (j + m + 1)) (show dg v (m + 1)≠0 by omega)
 have e3:(dg u (j + m + 2)*65536 + dg u (j + m + 1))/dg v (m + 1)≤dg u (j + m + 2)*65536 + dg u (j + m + 1):=Int.ediv_le_self _ htop0
 have e4:=Int.ediv_nonneg htop0 (show 0≤dg v (m + 1) by omega)
 have w1:=wrapI (n:=dg u (j + m + 2)*65536) (by omega) (by omega)
 have w2:=wrapI (n:=dg u (j + m + 2)*65536 + dg u (j + m + 1)) (by omega) (by omega)
 have w3:=wrapI (n:=(dg u (j + m + 2)*65536 + dg u (j + m + 1))/dg v (m + 1)) (by omega) (by omega)
 have g1:getI u (IntKind.wrap .i64 ((j:Int) + (v.length:Int)))=some (dg u (j + m + 2)):=IQ (by rw[wrapI (by omega) (by omega)]; omega) (by omega)
 have g2:getI u (IntKind.wrap .i64 (IntKind.wrap .i64 ((j:Int) + (v.length:Int))-1))=some (dg u (j + m + 1)):=IQ (by rw[wrapI (n:=(j:Int) + (v.length:Int)) (by omega) (by omega),wrapI (by omega) (by omega)]; omega) (by omega)
 have g3:getI v (IntKind.wrap .i64 ((v.length:Int)-1))=some (dg v (m + 1)):=IQ (by rw[wrapI (by omega) (by omega)]; omega) (by omega)
 have g4:getI v (IntKind.wrap .i64 ((v.length:Int)-2))=some (dg v m):=IQ (by rw[wrapI (by omega) (by omega)]; omega) (by omega)
 have g5:getI u (IntKind.wrap .i64 (IntKind.wrap .i64 ((j:Int) + (v.length:Int))-2))=some (dg u (j + m)):=IQ (by rw[wrapI (n:=(j:Int) + (v.length:Int)) (by omega) (by omega),wrapI (by omega) (by omega)]; omega) (by omega)
 have hz:(dg v (m + 1)==0)=false:=beq_eq_false_iff_ne.2 (by omega)
 obtain ⟨r,h1,h2⟩:=EL (f:=fun (s:((List Int)×((List Int)×(Int×(Int×(Int×Int))))))=>CK s.1 s.2.1 s.2.2.1 s.2.2.2.1 s.2.2.2.2.1 s.2.2.2.2.2)
  (I:=fun s=>∃ q r:Int,s=(u,(v,((j:Int),((v.length:Int),(q,r)))))∧q*dg v (m + 1) + r=dg u (j + m + 2)*65536 + dg u (j + m + 1)∧0≤r∧val (u.drop j)/val v≤q∧q<4294967296)
  (R:=fun q=>val (u.drop j)/val v≤q∧q<65536∧q*val v<val (u.drop j) + val v) (fun s=>s.2.2.2.2.1.toNat) (by
   rintro s ⟨q,r,rfl,f1,f2,f3,f4⟩
   simp only
   have hQ0:=G.hQ0
   have hQ1:=G.hQ1
   have hv2:=G.hv2
   have hu2:=G.hu2
   have htop:=G.htop
   have hqv : 0≤q*dg v (m + 1):=Int.mul_nonneg (by omega) (by omega)
   have hqv2 : 0≤q*dg v m:=Int.mul_nonneg (by omega) hv2.1
   have hqv2':q*dg v m≤4294967296*65536:=Int.le_trans (Int.mul_le_mul_of_nonneg_left (show dg v m≤65536 by omega) (by omega)) (Int.mul_le_mul_of_nonneg_right (show q≤4294967296 by omega) (by omega))
   have w5:=wrapI (n:=q*dg v m) (by omega) (by omega)
   have w6:=wrapI (n:=r*65536) (by omega) (by omega)
   have w7:=wrapI (n:=r*65536 + dg u (j + m)) (by omega) (by omega)
   have w8:=wrapI (n:=q-1) (by omega) (by omega)
   have w9:=wrapI (n:=r + dg v (m + 1)) (by omega) (by omega)
   have less:∀ (hgo:val (u.drop j)/val v≤q-1),∃ q' r':Int,(u,(v,((j:Int),((v.length:Int),(q-1,r + dg v (m + 1))))))=(u,(v,((j:Int),((v.length:Int),(q',r')))))∧q'*dg v (m + 1) + r'=dg u (j + m + 2)*65536 + dg u (j + m + 1)∧0≤r'∧val (u.drop j)/val v≤q'∧q'<4294967296:=by
    intro hgo
    exact ⟨q-1,r + dg v (m + 1),rfl,by rw[Int.sub_mul]; omega,by omega,hgo,by omega⟩
   by_cases c2:r<65536
   ·by_cases c1:q≥65536
    ·refine .inl ⟨(u,(v,((j:Int),((v.length:Int),(q-1,r + dg v (m + 1)))))),?_,less (by omega),by simp only; omega⟩
     unfold CK
     rw[decide_eq_true c2,decide_eq_true c1]
     simp only[cond_true,Option.bind_some,Sum.elim_inl,Sum.elim_inr,g3,w8,w9]
    ·by_cases c3:q*dg v m>r*65536 + dg u (j + m)
     ·have hlt:=SE G.hP G.hv1 G.hv2 G.hvr G.hu2 G.hur G.hV G.hU f1 (by omega) c3
      have hne:val (u.drop j)/val v≤q-1:=by
       rcases Int.lt_or_le (q-1) (val (u.drop j)/val v) with h | h
       ·have:q=val (u.drop j)/val v:=by omega
        have:=G.hQ
        subst q
        omega
       ·exact h
      refine .inl ⟨(u,(v,((j:Int),((v.length:Int),(q-1,r + dg v (m + 1)))))),?_,less hne,by simp only; omega⟩
      unfold CK
      rw[decide_eq_true c2,decide_eq_false c1]
      simp only[cond_true,cond_false,Option.bind_some,g4,g5,w5,w6,w7,decide_eq_true c3,Sum.elim_inr,g3,w8,w9]
     ·refine .inr ⟨q,?_,f3,by omega,Wz G.hP G.hv1 G.hv2 G.hvr G.hu2 G.hur G.hV G.hU f1 (by omega) (by omega) (by omega)⟩
      unfold CK
      rw[decide_eq_true c2,decide_eq_false c1]
      simp only[cond_true,cond_false,Option.bind_some,g4,g5,w5,w6,w7,decide_eq_false c3,Sum.elim_inl]
   ·have hq65:q<65536:=by
     rcases Int.lt_or_le q 65536 with h | h
     ·exact h
     ·exfalso
      have:=Int.mul_le_mul_of_nonneg_right h (show 0≤dg v (m + 1) by omega)
      omega
    have hle:=Su G.hP G.hv1 G.hv2 G.hvr G.hu2 G.hur G.hV G.hU f1 (by omega) hq65 (by omega)
    have hV0:=G.hV0
    refine .inr ⟨q,?_,f3,hq65,by omega⟩
    unfold CK
    rw[decide_eq_false c2]
    rfl) (u,(v,((j:Int),((v.length:Int),((dg u (j + m + 2)*65536 + dg u (j + m + 1))/dg v (m + 1),(dg u (j + m + 2)*65536 + dg u (j + m + 1))%dg v (m + 1)))))) ⟨_,_,rfl,by rw[Int.mul_comm]; omega,e2,hst,by omega⟩
 refine ⟨r,?_,h2⟩
 unfold FA
 simp only[g1,g2,g3,Option.bind_some,hz,cond_false,w1,w2,Int.tdiv_eq_ediv_of_nonneg htop0,Int.tmod_eq_emod_of_nonneg htop0,w3]
 rw[h1]
 rfl
theorem Place.part {u v u':List Int} {j m:Nat} (H:Place u v j m) (h1:u'.length=u.length) (h2:LB u') (h3:∀ i,j + m + 3≤i→dg u' i=dg u i) {W e:Int} (h4:val u'=val u-B j*W + B (j + m + 3)*e) :
  val (u'.drop j)=val (u.drop j)-W + B (m + 3)*e∧0≤val (u'.drop j)∧val (u'.drop j)<B (m + 3):=by
 have hz:val (u'.drop (j + (m + 3)))=0:=K1 fun i=>by rw[Ru,h3 _ (by omega)]; exact (H.high (by omega)).1
 have p1:=Bu (u'.drop j) (m + 3)
 rw[List.drop_drop,hz] at p1
 have p2:=BI (h2.drop j) (m + 3)
 have p3:=Bu u' j
 have p4:=Bu u j
 have p5:=BI h2 j
 have p6:=BI H.lu j
 refine ⟨?_,by omega,by omega⟩
 refine MN p5 p6 ?_
 have e1:B (j + m + 3)*e=B j*(B (m + 3)*e):=by rw[show j + m + 3=j + (m + 3) by omega,Nk]; grind
 rw[Int.mul_add,Int.mul_sub]
 omega
set_option maxHeartbeats 1000000 in
theorem AK6 {u v out:List Int} {bits:Int} {j m:Nat} (H:Place u v j m) (hl:u.length≤1000000) (hj:j<out.length) :
  ∃ u',Bs u v out bits (j:Int)=some (.inl (u',(v,(out.set j (val (u.drop j)/val v),(bits,(j:Int)-1))))) ∧
   u'.length=u.length∧LB u'∧val u'=val u-B j*(val (u.drop j)/val v*val v)∧val (u'.drop j)<val v:=by
 have hlen:=H.len
 have hvl:=H.hv
 have hQ:=H.quot
 have hmod:=H.mod
 have hlt:=H.lt
 have hpos:=H.pos
 have hB3:B (m + 3)=65536*B (m + 2):=rfl
 obtain ⟨q,hg1,hg2,hg3,hg4⟩:=AN5 H hl
 obtain ⟨u1,c,ht1,O⟩:=AT6 (j:=j) (q:=q) H.lu H.lv ⟨by omega,hg3⟩ (by omega) hl
 have ov:=O.v
 have ol:=O.len
 have oc0:=O.c0
 rw[List.take_of_length_le (by simp),V8,hvl,show j + (m + 2 + 1)=j + m + 3 by omega] at ov
 have oh:=O.hi
 rw[hvl,show j + (m + 2 + 1)=j + m + 3 by omega] at oh
 obtain ⟨p1,p2,p3⟩:=H.part ol O.lb oh (W:=q*val v) (e:=c) (by omega)
 have hge:decide ((j:Int)≥0)=true:=decide_eq_true (by omega)
 have w5:=wrapI (n:=(j:Int)-1) (by omega) (by omega)
 have hj0:idxI (j:Int) out.length=some j:=AQ hj
 have gout:getN out j=some (dg out j):=Ag hj
 have hBp:=Ez (m + 3)
 rcases H.one hg2 hg4 with hq | hq
 ·have hc:c=0:=by
   rw[hq] at p1
   have:=MN (j:=m + 3) (a:=val (u1.drop j)) (b:=val (u.drop j)-val (u.drop j)/val v*val v) (X:=0) (Y:=c) ⟨p2,p3⟩ (by omega) (by omega)
   exact this.symm
  subst hc
  refine ⟨u1,?_,ol,O.lb,by rw[hq] at ov; omega,by rw[hq] at p1; omega⟩
  unfold Bs
  simp only[hge,cond_true,hg1,ht1,Option.bind_some,ol,decide_true,show decide ((0:Int)>0)=false from rfl,cond_false,hj0,gout,w5]
  rw[hq]
 ·have hqv:q*val v=val (u.drop j)/val v*val v + val v:=by rw[hq,Int.add_mul,Int.one_mul]
  have hc:c=1:=by
   have:=MN (j:=m + 3) (a:=val (u1.drop j)) (b:=val (u.drop j)-q*val v + B (m + 3)) (X:=1) (Y:=c) ⟨p2,p3⟩ (by omega) (by omega)
   exact this.symm
  subst hc
  obtain ⟨u2,c2,hb1,K⟩:=AR2 (u0:=u1) (v:=v) (j:=j) O.lb H.lv (by omega) (by omega)
  have kl:=K.len
  have kh:=K.hi
  have kv:=K.v
  rw[List.take_of_length_le (by simp),V8,hvl,show j + (m + 2 + 1)=j + m + 3 by omega] at kv
  rw[hvl,show j + (m + 2 + 1)=j + m + 3 by omega] at kh
  have klb:LB u2:=Sa fun i hi=>by
   rcases Nat.lt_or_ge i (j + m + 3) with g | g
   ·exact K.lb i (by simp; omega)
   ·rw[kh i g]; exact AJ O.lb i
  have e1:B j*(q*val v)=B j*(val (u.drop j)/val v*val v) + B j*val v:=by rw[hqv,Int.mul_add]
  have hall:val u2=val u-B j*(val (u.drop j)/val v*val v) + B (j + m + 3)*(1-c2):=by
   rw[Int.mul_sub]; omega
  obtain ⟨k1,k2,k3⟩:=H.part (kl.trans ol) klb (fun i hi=>(kh i hi).trans (oh i hi)) hall
  have hc2:c2=1:=by
   have:=MN (j:=m + 3) (a:=val (u2.drop j)) (b:=val (u.drop j)-val (u.drop j)/val v*val v) (X:=0) (Y:=1-c2) ⟨k2,k3⟩ (by omega) (by omega)
   omega
  subst hc2
  refine ⟨u2,?_,kl.trans ol,klb,by omega,by omega⟩
  have w7:IntKind.wrap .i64 (q-1)=val (u.drop j)/val v:=by rw[wrapI (by omega) (by omega)]; omega
  unfold Bs
  simp only[hge,cond_true,hg1,ht1,Option.bind_some,ol,decide_true,show decide ((1:Int)>0)=true from rfl,hb1,kl,hj0,gout,w5,w7]
end Go.Proofs.YthipdlhknbhiiaaGreat.Ev

end
section
namespace Go.Proofs.YthipdlhknbhiiaaGreat.Ev
open Go
theorem Al1 {s o t:Nat} (ho:o<2 ^ s) (h : 2 ^ s*t + o<4611686018427387904):orI .i64 (o:Int) ((2 ^ s*t:Nat):Int)=((o + 2 ^ s*t:Nat):Int):=by
 unfold orI
 rw[BitVec.ofInt_natCast,BitVec.ofInt_natCast,BitVec.toNat_or,BitVec.toNat_ofNat,BitVec.toNat_ofNat]
 have h64:IntKind.bits .i64=64:=rfl
 rw[h64,Nat.mod_eq_of_lt (by omega),Nat.mod_eq_of_lt (by omega),Nat.or_comm,←Nat.two_pow_add_eq_or_of_lt ho,wrapI (by omega) (by omega)]
 omega
theorem TQ {x:Int} {s:Nat} (hs:s≤63) (h0 : -9223372036854775808≤x*2 ^ s) (h1:x*2 ^ s≤9223372036854775807):shlI .i64 x (IntKind.wrap .u64 (s:Int))=x*2 ^ s:=by
 unfold shlI
 rw[wrapU (by omega) (by omega),show min ((s:Int).toNat) (IntKind.bits .i64)=s by simp[IntKind.bits]; omega,wrapI h0 h1]
theorem AH2 {x:Int} {s:Nat} (hs:s≤63):shrI .i64 x (IntKind.wrap .u64 (s:Int))=x/2 ^ s:=by
 unfold shrI
 rw[wrapU (by omega) (by omega),show min ((s:Int).toNat) (IntKind.bits .i64)=s by simp[IntKind.bits]; omega]
 exact Int.fdiv_eq_ediv_of_nonneg _ (Int.le_of_lt (Int.pow_pos (by decide)))
theorem Lf {s:Nat} (hs:s≤16):∃ S T:Nat,S=2 ^ s∧T=2 ^ (16-s)∧S*T=65536∧1≤S∧1≤T∧S≤65536:=by
 refine ⟨2 ^ s,2 ^ (16-s),rfl,rfl,?_,Nat.one_le_two_pow,Nat.one_le_two_pow,?_⟩
 ·rw[←Nat.pow_add,show s + (16-s)=16 by omega]
 ·exact Nat.pow_le_pow_right (by decide) hs
theorem TF {S T x:Int} (hST:S*T=65536) (hS : 1≤S) (hT : 1≤T) (hx : 0≤x∧x<65536) :
  x*S%65536=S*(x%T)∧x*S/65536=x/T∧0≤x/T∧x/T<S∧0≤x%T∧x%T<T∧S*(x%T) + 65536*(x/T)=x*S∧S*(x%T) + S≤65536:=by
 have e1:=Int.emod_add_mul_ediv x T
 have e2:=Int.emod_nonneg x (show T≠0 by omega)
 have e3:=Int.emod_lt_of_pos x (show 0<T by omega)
 have e4:=Int.ediv_nonneg hx.1 (show 0≤T by omega)
 have e5:x/T<S:=Int.ediv_lt_of_lt_mul (by omega) (by rw[hST]; exact hx.2)
 have e6:x*S=S*(x%T) + 65536*(x/T):=by
  have h2:S*(x%T + T*(x/T))=S*(x%T) + (S*T)*(x/T):=by rw[Int.mul_add,Int.mul_assoc]
  rw[e1,hST] at h2
  rw[←h2,Int.mul_comm]
 have e7:S*(x%T) + S≤65536:=by
  have h2:=Int.mul_le_mul_of_nonneg_left (show x%T + 1≤T by omega) (show 0≤S by omega)
  rw[Int.mul_add,hST] at h2
  omega
 have e8 : 0≤S*(x%T):=Int.mul_nonneg (by omega) e2
 rw[e6]
 refine ⟨?_,?_,e4,e5,e2,e3,rfl,e7⟩ <;> omega
theorem Ag1 {S T x y R:Int} (hST:S*T=65536) (hS : 1≤S) (hT : 1≤T) (hx : 0≤x∧x<65536):(x + 65536*(y + 65536*R))/S=(x + 65536*y)/S%65536 + 65536*((y + 65536*R)/S):=by
 have e1:x + 65536*(y + 65536*R)=(x + 65536*y) + S*(T*65536*R):=by
  have:S*(T*65536*R)=(S*T)*(65536*R):=by grind
  rw[this,hST]; omega
 have e2:(x + 65536*(y + 65536*R))/S=(x + 65536*y)/S + T*65536*R:=by rw[e1,Int.add_mul_ediv_left _ _ (by omega)]
 have e3:(x + 65536*(y + 65536*R))/S%65536=(x + 65536*y)/S%65536:=by
  rw[e2,show T*65536*R=65536*(T*R) by grind,Int.add_mul_emod_self_left]
 have e4:(x + 65536*(y + 65536*R))/S/65536=(y + 65536*R)/S:=by
  rw[Int.ediv_ediv_of_nonneg (by omega),Int.mul_comm S,←Int.ediv_ediv_of_nonneg (by decide)]
  congr 1
  omega
 have e5:=Int.emod_add_mul_ediv ((x + 65536*(y + 65536*R))/S) 65536
 rw[e3,e4] at e5
 omega
structure Up (l out:List Int) (s i:Nat):Prop where
 lb:LB out
 len:out.length=l.length + 1
 c:dg out i<2 ^ s
 z:∀ k,i<k→dg out k=0
 v:val out=val (l.take i)*2 ^ s
theorem Up.next {l out:List Int} {s i:Nat} (h:Up l out s i) (hl:LB l) (hs:s≤15) (hi:i<l.length) :
  Up l ((out.set i (dg out i + dg l i*2 ^ s%65536)).set (i + 1) (dg l i*2 ^ s/65536)) s (i + 1):=by
 obtain ⟨S,T,eS,eT,hST,hS,hT,hS2⟩:=Lf (show s≤16 by omega)
 have hSi:((S:Nat):Int)=2 ^ s:=by rw[eS]; simp
 have hc:=h.c
 rw[←hSi] at hc ⊢
 have hx:=AJ hl i
 obtain ⟨d1,d2,d3,d4,d5,d6,d7,d8⟩:=TF (S:=(S:Int)) (T:=(T:Int)) (by rw[←Int.natCast_mul,hST]; rfl) (by omega) (by omega) hx
 have ho:=AJ h.lb i
 have hol:=h.len
 have hv:=h.v
 rw[←hSi] at hv
 have m0 : 0≤(S:Int)*(dg l i%T):=Int.mul_nonneg (by omega) d5
 rw[d1,d2]
 have hz:=h.z (i + 1) (by omega)
 refine ⟨?_,by simp[hol],?_,fun k hk=>?_,?_⟩
 ·refine (h.lb.set ⟨by omega,by omega⟩).set ⟨d3,by omega⟩
 ·rw[Ai7 (by simp; omega),if_pos rfl,←hSi]; exact d4
 ·rw[Bj (by omega),Bj (by omega)]; exact h.z k (by omega)
 ·rw[DM (Ag (by simp; omega)),Bj (by omega),hz,DM (Ag (show i<out.length by omega)),hv,Av,←hSi]
  have e1:B (i + 1)*(dg l i/T-0)=B i*(65536*(dg l i/T)):=by simp only[B]; grind
  have e2:(val (l.take i) + B i*dg l i)*S=val (l.take i)*S + B i*(dg l i*S):=by grind
  rw[e1,e2,←d7,Int.mul_add]
  have e3:B i*(dg out i + S*(dg l i%T)-dg out i)=B i*(S*(dg l i%T)):=by congr 1; omega
  omega
theorem AA9 {l:List Int} {s:Nat} (hl:LB l) (hs:s≤15) (hn:l.length≤1000000):∃ out,Ih l (s:Int)=some out∧LB out∧out.length=l.length + 1∧val out=val l*2 ^ s:=by
 obtain ⟨out,h1,h2⟩:=Gb (body:=fun (s:((List Int)×(Int×((List Int)×(Int×Int)))))=>IY s.1 s.2.1 s.2.2.1 s.2.2.2.1 s.2.2.2.2)
  (st:=fun k (b:List Int)=>(b,((s:Int),(l,((l.length:Int),(k:Int)))))) (fin:=fun b=>b) (I:=fun k b=>Up l b s k) (e:=l.length)
  (by
   rintro k out hk hI
   refine ⟨_,?_,hI.next hl hs hk⟩
   obtain ⟨S,T,eS,eT,hST,hS,hT,hS2⟩:=Lf (show s≤16 by omega)
   have hSi:((S:Nat):Int)=2 ^ s:=by rw[eS]; simp
   have hx:=AJ hl k
   have ho:=AJ hI.lb k
   have hol:=hI.len
   have hc:=hI.c
   rw[←hSi] at hc ⊢
   obtain ⟨d1,d2,d3,d4,d5,d6,d7,d8⟩:=TF (S:=(S:Int)) (T:=(T:Int)) (by rw[←Int.natCast_mul,hST]; rfl) (by omega) (by omega) hx
   have hxS : 0≤dg l k*(S:Int)∧dg l k*(S:Int)≤65536*65536:=⟨Int.mul_nonneg hx.1 (by omega),Int.le_trans (Int.mul_le_mul_of_nonneg_left (show (S:Int)≤65536 by omega) hx.1) (Int.mul_le_mul_of_nonneg_right (by omega) (by decide))⟩
   have hsh:shlI .i64 (dg l k) (IntKind.wrap .u64 (s:Int))=dg l k*S:=by rw[hSi]; exact TQ (by omega) (by rw[←hSi]; omega) (by rw[←hSi]; omega)
   have hor:orI .i64 (dg out k) (dg l k*S%65536)=dg out k + dg l k*S%65536:=by
    obtain ⟨o,eo⟩:∃ o:Nat,dg out k=(o:Int):=⟨(dg out k).toNat,by omega⟩
    obtain ⟨t,et⟩:∃ t:Nat,dg l k%T=(t:Int):=⟨(dg l k%T).toNat,by omega⟩
    rw[d1,et,eo,←Int.natCast_mul,eS,Al1 (by rw[←eS]; omega) (by
     rw[←eS]
     have:((S*t:Nat):Int)≤65536:=by rw[Int.natCast_mul,←et]; omega
     omega)]
    simp
   have hu:IntKind.wrap .u64 (s:Int)=(s:Int):=wrapU (by omega) (by omega)
   unfold IY getN
   dsimp only
   rw[decide_eq_true (by omega),wrap1 (by omega)]
   have i1:idxI (k:Int) out.length=some k:=AQ (by omega)
   have hd:decide (IntKind.wrap .u64 (s:Int)<0)=false:=by rw[hu]; exact decide_eq_false (by omega)
   simp only[cond_true,Ak,Ag hk,Option.bind_some,hd,cond_false,i1,Ag (show k<out.length by omega),hsh,Int.tmod_eq_emod_of_nonneg hxS.1,Int.tdiv_eq_ediv_of_nonneg hxS.1,hor,List.length_set]
   rw[AQ (by omega)]
   simp only[Option.bind_some]
   rw[Ag (by simp; omega)]
   simp only[Option.bind_some]
   rw[wrapI (n:=dg l k*S/65536) (by omega) (by omega)])
  (by
   rintro out _
   unfold IY
   dsimp only
   rw[decide_eq_false (Int.lt_irrefl _)]
   rfl) 0 (List.replicate (l.length + 1) 0) (by omega) ⟨LB.zeros _,by simp,by
    rw[show dg (List.replicate (l.length + 1) (0:Int)) 0=0 from rfl]
    exact Int.pow_pos (by decide),fun k _=>by unfold dg; rw[List.getD_eq_getElem?_getD,List.getElem?_replicate]; split <;> rfl,by simp[Dg,val]⟩
 have hv:=h2.v
 rw[List.take_length] at hv
 refine ⟨out,?_,h2.lb,h2.len,hv⟩
 unfold Ih
 rw[wrap1 (by omega),FD (by unfold maxBytes; omega) (by unfold maxBytes; omega)]
 simp only[Option.bind_some]
 rw[show ((0:Nat):Int)=0 from rfl] at h1
 rw[h1]
 rfl
theorem AF3 {l:List Int} {s:Nat} (hl:LB l) (hs:s≤15) (hn:l.length≤1000000):G9 l (s:Int)=some (lim (val l/2 ^ s).toNat):=by
 obtain ⟨S,T,eS,eT,hST,hS,hT,hS2⟩:=Lf (show s≤16 by omega)
 have hSi:((S:Nat):Int)=2 ^ s:=by rw[eS]; simp
 have hSTi:(S:Int)*T=65536:=by rw[←Int.natCast_mul,hST]; rfl
 obtain ⟨out,h1,h2⟩:=Gb (body:=fun (s:((List Int)×((List Int)×(Int×(Int×Int)))))=>Gc s.1 s.2.1 s.2.2.1 s.2.2.2.1 s.2.2.2.2)
  (st:=fun k (b:List Int)=>(b,(l,((s:Int),((l.length:Int),(k:Int)))))) (fin:=fun b=>b)
  (I:=fun k b=>LB b∧b.length=l.length∧(∀ i,k≤i→dg b i=0)∧val b + B k*(val (l.drop k)/S)=val l/S) (e:=l.length)
  (by
   rintro k out hk ⟨g1,g2,g3,g4⟩
   have hx:=AJ hl k
   have hy:=AJ hl (k + 1)
   have hm0 : 0≤(dg l k + 65536*dg l (k + 1))/(S:Int)%65536∧(dg l k + 65536*dg l (k + 1))/(S:Int)%65536<65536:=by omega
   refine ⟨out.set k ((dg l k + 65536*dg l (k + 1))/(S:Int)%65536),?_,g1.set hm0,by simp[g2],fun i hi=>by rw[Bj (by omega)]; exact g3 i (by omega),?_⟩
   ·have hor:orI .i64 (dg l k) (shlI .i64 (dg l (k + 1)) 16)=dg l k + 65536*dg l (k + 1):=by
     obtain ⟨o,eo⟩:∃ o:Nat,dg l k=(o:Int):=⟨(dg l k).toNat,by omega⟩
     obtain ⟨t,et⟩:∃ t:Nat,dg l (k + 1)=(t:Int):=⟨(dg l (k + 1)).toNat,by omega⟩
     have h16:shlI .i64 (dg l (k + 1)) 16=((2 ^ 16*t:Nat):Int):=by
      have:=TQ (x:=dg l (k + 1)) (s:=16) (by omega) (by omega) (by omega)
      rw[show IntKind.wrap .u64 ((16:Nat):Int)=16 by decide] at this
      rw[this,et]; omega
     rw[h16,eo,Al1 (by omega) (by omega),et]
     omega
    have hu:IntKind.wrap .u64 (s:Int)=(s:Int):=wrapU (by omega) (by omega)
    unfold Gc getN
    dsimp only
    rw[decide_eq_true (by omega),wrap1 (by omega)]
    have i1:idxI (k:Int) out.length=some k:=AQ (by omega)
    have hd:decide (IntKind.wrap .u64 (s:Int)<0)=false:=by rw[hu]; exact decide_eq_false (by omega)
    have hsr:shrI .i64 (dg l k + 65536*dg l (k + 1)) (IntKind.wrap .u64 (s:Int))=(dg l k + 65536*dg l (k + 1))/(S:Int):=by rw[AH2 (by omega),hSi]
    have hq0 : 0≤(dg l k + 65536*dg l (k + 1))/(S:Int):=Int.ediv_nonneg (by omega) (by omega)
    simp only[cond_true,Ak,Ag hk,Option.bind_some,Im,hd,cond_false,i1,Ag (show k<out.length by omega),hor,hsr,Int.tmod_eq_emod_of_nonneg hq0]
   ·rw[DM (Ag (show k<out.length by omega)),g3 k (Nat.le_refl _),Int.sub_zero]
    rw[BQ l k,BQ l (k + 1),Ag1 hSTi (by omega) (by omega) hx,←BQ l (k + 1),Int.mul_add] at g4
    have e:B (k + 1)*(val (l.drop (k + 1))/S)=B k*(65536*(val (l.drop (k + 1))/S)):=by simp only[B]; grind
    omega)
  (by
   rintro out _
   unfold Gc
   dsimp only
   rw[decide_eq_false (Int.lt_irrefl _)]
   rfl) 0 (List.replicate l.length 0) (by omega) ⟨LB.zeros _,by simp,fun i _=>by unfold dg; rw[List.getD_eq_getElem?_getD,List.getElem?_replicate]; split <;> rfl,by rw[Dg,List.drop_zero]; simp[B]⟩
 obtain ⟨g1,g2,g3,g4⟩:=h2
 rw[List.drop_length,show val []=0 from rfl,Int.zero_ediv,Int.mul_zero,Int.add_zero] at g4
 unfold G9
 rw[FD (by unfold maxBytes; omega) (by unfold maxBytes; omega)]
 simp only[Option.bind_some]
 rw[show ((0:Nat):Int)=0 from rfl] at h1
 rw[h1]
 simp only[Option.bind_some]
 rw[EE (by unfold Brief; omega)]
 simp only[Option.bind_some]
 rw[Bt g1,g4,hSi]
theorem AT5 {a b:List Int} {t:Int} {m:Nat} (hm:b.length=m + 1) (hml:m≤1000000) (ht:dg b m=t) (h1 : 1≤t) (h2:t<65536) :
  ∃ s:Nat,s≤15∧t*2 ^ s<65536∧loopM (fun (s:((List Int)×((List Int)×Int)))=>Ch s.1 s.2.1 s.2.2) (a,(b,0))=some (a,(b,(s:Int))):=by
 have bound:∀ s:Nat,t*2 ^ s<65536→s≤15:=fun s h=>by
  have h3:(2:Int) ^ s<2 ^ 16:=by
   have h4:(1:Int)*2 ^ s≤t*2 ^ s:=Int.mul_le_mul_of_nonneg_right h1 (Int.le_of_lt (Int.pow_pos (by decide)))
   have h5:(2:Int) ^ 16=65536:=by decide
   omega
  have h5:((2 ^ s:Nat):Int)<((2 ^ 16:Nat):Int):=by simpa using h3
  have h6 : 2 ^ s<2 ^ 16:=by omega
  have:=(Nat.pow_lt_pow_iff_right (show 1<2 by decide)).1 h6
  omega
 obtain ⟨r,g1,s,rfl,g2⟩:=EL (f:=fun (s:((List Int)×((List Int)×Int)))=>Ch s.1 s.2.1 s.2.2)
  (I:=fun x=>∃ s:Nat,x=(a,(b,(s:Int)))∧t*2 ^ s<65536) (R:=fun x=>∃ s:Nat,x=(a,(b,(s:Int)))∧t*2 ^ s<65536) (fun x=>100-x.2.2.toNat) (by
   rintro x ⟨s,rfl,hs⟩
   have hb:=bound s hs
   have p0:(0:Int)<2 ^ s:=Int.pow_pos (by decide)
   have p1 : 0≤t*2 ^ s:=Int.mul_nonneg (by omega) (by omega)
   have hsh:shlI .i64 t (IntKind.wrap .u64 (s:Int))=t*2 ^ s:=TQ (by omega) (by omega) (by omega)
   have hu:IntKind.wrap .u64 (s:Int)=(s:Int):=wrapU (by omega) (by omega)
   have hd:decide (IntKind.wrap .u64 (s:Int)<0)=false:=by rw[hu]; exact decide_eq_false (by omega)
   have hg:getI b (IntKind.wrap .i64 ((b.length:Int)-1))=some t:=by rw[←ht]; exact IQ (by rw[wrapI (by omega) (by omega)]; omega) (by omega)
   simp only
   by_cases hc:t*2 ^ s<32768
   ·refine .inl ⟨(a,(b,((s + 1:Nat):Int))),?_,⟨s + 1,rfl,by rw[Int.pow_succ,←Int.mul_assoc]; omega⟩,by simp only; omega⟩
    unfold Ch
    simp only[hg,Option.bind_some,hd,cond_false,hsh,decide_eq_true hc,cond_true]
    rw[wrap1 (by omega)]
   ·refine .inr ⟨(a,(b,(s:Int))),?_,s,rfl,hs⟩
    unfold Ch
    simp only[hg,Option.bind_some,hd,cond_false,hsh,decide_eq_false hc]) (a,(b,0)) ⟨0,rfl,by simp; omega⟩
 exact ⟨s,bound s g2,g2,g1⟩
theorem AC4 {u0 v:List Int} {m:Nat} {bits:Int} (hv:LB v) (hvl:v.length=m + 2) (ht : 1≤dg v (m + 1)) (hl:u0.length≤1000000) {n:Nat} {out:List Int} (h:Places u0 v m n u0 out) :
  ∃ u out',loopM (fun (s:((List Int)×((List Int)×((List Int)×(Int×Int)))))=>Bs s.1 s.2.1 s.2.2.1 s.2.2.2.1 s.2.2.2.2) (u0,(v,(out,(bits,(n:Int)-1))))=some (u,(out',bits))∧Places u0 v m 0 u out':=by
 obtain ⟨⟨u,out'⟩,h1,h2⟩:=Ig (body:=fun (s:((List Int)×((List Int)×((List Int)×(Int×Int)))))=>Bs s.1 s.2.1 s.2.2.1 s.2.2.2.1 s.2.2.2.2)
  (st:=fun n (b:List Int×List Int)=>(b.1,(v,(b.2,(bits,(n:Int)-1))))) (fin:=fun b=>(b.1,(b.2,bits))) (I:=fun n b=>Places u0 v m n b.1 b.2)
  (by
   rintro n ⟨u,out⟩ hI
   simp only at hI
   have H:=hI.place hv hvl ht
   have hle:=hI.le
   have hol:=hI.olen
   have hul:=hI.len
   obtain ⟨u',g1,g2,g3,g4,g5⟩:=AK6 (out:=out) (bits:=bits) H (by omega) (by omega)
   refine ⟨(u',out.set n (val (u.drop n)/val v)),?_,hI.next H g2 g3 g4 g5⟩
   simp only
   rw[show ((n + 1:Nat):Int)-1=(n:Int) by omega,g1])
  (by
   rintro ⟨u,out⟩ _
   unfold Bs
   dsimp only
   rw[decide_eq_false (by omega)]
   rfl) n (u0,out) h
 exact ⟨u,out',h1,h2⟩
theorem Places.start2 {u0 v:List Int} {m n:Nat} (hu:LB u0) (hn:u0.length=n + (m + 2)) (h0:val (u0.drop n)<val v):Places u0 v m n u0 (List.replicate n 0) :=
 ⟨rfl,hu,by omega,h0,LB.zeros n,by simp; omega,fun i hi=>by unfold dg; rw[List.getD_eq_getElem?_getD,List.getElem?_replicate]; split <;> rfl,by rw[Dg]; omega⟩
set_option maxHeartbeats 1000000 in
theorem MT {a b:Nat} (hb0:b≠0) (ha:(lim a).length≤90000) (hb:(lim b).length≤90000):Cf (lim a) (lim b)=some (lim (a/b),lim (a%b)):=by
 unfold Cf
 rw[EE (by unfold Brief; omega)]
 simp only[Option.bind_some]
 rw[KD (Oh a),M6 (by unfold Brief; omega) (by unfold Brief; omega)]
 simp only[Option.bind_some]
 by_cases hab:a<b
 ·rw[Cz (by omega)]
  simp only[show decide ((-1:Int)<0)=true from rfl,cond_true]
  rw[Nat.div_eq_of_lt hab,Nat.mod_eq_of_lt hab,Bi]
 have hc:decide (cmpZ (a:Int) b<0)=false:=by
  rcases BF (a:Int) b with ⟨h,g⟩ | ⟨h,_⟩ | ⟨h,_⟩
  ·omega
  ·rw[h]; rfl
  ·rw[h]; rfl
 simp only[hc,cond_false]
 have hbl:(lim b).length≠0:=fun h=>hb0 (F8.1 (List.eq_nil_of_length_eq_zero h))
 by_cases h1:(lim b).length=1
 ·obtain ⟨e1,e2,e3⟩:=Ao3 h1
  rw[e1]
  simp only[List.length_singleton,show (((1:Nat):Int)==1)=true from rfl,cond_true]
  rw[show getI [(b:Int)] 0=some (b:Int) from rfl]
  simp only[Option.bind_some]
  rw[Az0 (by omega) (by omega)]
  simp only[Option.bind_some,Int.toNat_natCast]
 have hn1:((((lim b).length:Nat):Int)==1)=false:=beq_eq_false_iff_ne.2 (by omega)
 obtain ⟨m,hm⟩:∃ m,(lim b).length=m + 2:=⟨(lim b).length-2,by omega⟩
 obtain ⟨t1,t2,t3,t4⟩:=Rg hb0
 rw[hm,show m + 2-1=m + 1 by omega] at t1 t2 t3 t4
 generalize ht:dg (lim b) (m + 1)=t at *
 obtain ⟨s,hs1,hs2,hs3⟩:=AT5 (a:=lim a) (b:=lim b) (m:=m + 1) (by omega) (by omega) ht t1 t2
 obtain ⟨S,T,eS,eT,hST,hS,hT,hS2⟩:=Lf (show s≤16 by omega)
 have hSi:((S:Nat):Int)=2 ^ s:=by rw[eS]; simp
 obtain ⟨u,hu1,hu2,hu3,hu4⟩:=AA9 (Ao a) hs1 (by omega)
 obtain ⟨v,hv1,hv2,hv3,hv4⟩:=AA9 (Ao b) hs1 (by omega)
 rw[Aj,←hSi,←Int.natCast_mul] at hu4 hv4
 simp only[hn1,cond_false,hs3,Option.bind_some,hu1,hv1]
 rw[EE (by unfold Brief; omega)]
 simp only[Option.bind_some]
 rw[Bt hv2,hv4,Int.toNat_natCast]
 have hBa:(a:Int)<B (lim a).length:=Ah.1 (Nat.le_refl _)
 have lb:(lim (b*S)).length=m + 2:=by
  apply Nat.le_antisymm
  ·rw[Ah]
   rw[show ((b*S:Nat):Int)=(b:Int)*S by simp]
   rw[←hSi] at hs2
   have e1:(b:Int)*S<B (m + 1)*(t + 1)*S:=Int.mul_lt_mul_of_pos_right t4 (by omega)
   have hts:(t + 1)*(S:Int)≤65536:=by
    obtain ⟨d1,d2,d3,d4,d5,d6,d7,d8⟩:=TF (S:=(S:Int)) (T:=(T:Int)) (by rw[←Int.natCast_mul,hST]; rfl) (by omega) (by omega) (show 0≤t∧t<65536 by omega)
    have d9:t*S%65536=t*S:=Int.emod_eq_of_lt (Int.mul_nonneg (by omega) (by omega)) hs2
    rw[Int.add_mul,Int.one_mul,←d9,d1]
    exact d8
   have e2:B (m + 1)*((t + 1)*(S:Int))≤B (m + 1)*65536:=Int.mul_le_mul_of_nonneg_left hts (Int.le_of_lt (Ez _))
   have e3:B (m + 1)*(t + 1)*S=B (m + 1)*((t + 1)*(S:Int)):=Int.mul_assoc ..
   have e4:B (m + 2)=B (m + 1)*65536:=by simp only[B]; omega
   omega
  ·rw[←hm,Ah]
   have h1:((b*S:Nat):Int)<B (lim (b*S)).length:=Ah.1 (Nat.le_refl _)
   have:b*1≤b*S:=Nat.mul_le_mul_left _ (by omega)
   omega
 have hle:(lim b).length≤(lim a).length:=by rw[Ah]; omega
 have hbS0:b*S≠0:=Nat.mul_ne_zero hb0 (by omega)
 have htop:=(Rg hbS0).1
 rw[lb,show m + 2-1=m + 1 by omega] at htop
 generalize hn:(lim a).length-(lim b).length + 1=n at *
 have w0:IntKind.wrap .i64 (((lim a).length:Int)-((lim b).length:Int))=(n:Int)-1:=by rw[wrapI (by omega) (by omega)]; omega
 rw[w0,wrapI (n:=(n:Int)-1 + 1) (by omega) (by omega),show (n:Int)-1 + 1=(n:Int) by omega,FD (by unfold maxBytes; omega) (by unfold maxBytes; omega)]
 simp only[Option.bind_some]
 have hless:val (u.drop n)<val (lim (b*S)):=by
  rw[Aj]
  have h1:=Bu u n
  have h2:=Aw (hu2.take n)
  rw[hu4] at h1
  have h3:B n*val (u.drop n)≤((a*S:Nat):Int):=by omega
  have h4:((a*S:Nat):Int)<B (lim a).length*S:=by rw[Int.natCast_mul]; exact Int.mul_lt_mul_of_pos_right hBa (by omega)
  have h5:(lim a).length=n + (m + 1):=by omega
  rw[h5,Nk] at h4
  have h6:B (m + 1)*S≤((b*S:Nat):Int):=by
   rw[Int.natCast_mul]
   have:B (m + 1)*1≤B (m + 1)*t:=Int.mul_le_mul_of_nonneg_left t1 (Int.le_of_lt (Ez _))
   exact Int.mul_le_mul_of_nonneg_right (by omega) (by omega)
  have h7:B n*(val (u.drop n))<B n*(B (m + 1)*S):=by rw[←Int.mul_assoc]; omega
  have h8:=Int.lt_of_mul_lt_mul_left h7 (Int.le_of_lt (Ez n))
  omega
 obtain ⟨u',out,hp,P⟩:=AC4 (bits:=(s:Int)) (Ao (b*S)) lb htop (by omega) (Places.start2 (n:=n) hu2 (by omega) hless)
 rw[hp]
 simp only[Option.bind_some]
 obtain ⟨p1,p2⟩:=P.end (Ao _)
 rw[hu4,Aj] at p1 p2
 obtain ⟨q1,q2⟩:=Sr (a:=a) (b:=b) (c:=S) (by omega)
 have p1':val out=((a/b:Nat):Int):=by rw[p1,←q1]; simp
 have p2':val u'=((a%b*S:Nat):Int):=by rw[p2,←q2]; simp
 have hul:=P.len
 have hol:=P.olen
 rw[EE (by unfold Brief; omega)]
 simp only[Option.bind_some]
 rw[EE (by unfold Brief; omega)]
 simp only[Option.bind_some]
 rw[Bt P.lo,Bt P.lu,p1',p2',Int.toNat_natCast,Int.toNat_natCast,AF3 (Ao _) hs1 (by
  have:(lim (a%b*S)).length≤m + 2:=by
   rw[←lb,Ah]
   have h1:((b*S:Nat):Int)<B (lim (b*S)).length:=Ah.1 (Nat.le_refl _)
   have:=Nat.mul_lt_mul_of_pos_right (Nat.mod_lt a (show b>0 by omega)) (show S>0 by omega)
   omega
  omega),Aj]
 simp only[Option.bind_some]
 rw[←hSi,Int.natCast_mul,Int.mul_ediv_cancel _ (by omega),Int.toNat_natCast]
end Go.Proofs.YthipdlhknbhiiaaGreat.Ev

end
section
namespace Go.Proofs.YthipdlhknbhiiaaGreat.Ev
open Go
theorem Fl (n:Nat):big (n:Int)=(false,lim n):=by unfold big; rw[decide_eq_false (by omega),Int.natAbs_natCast]
theorem XL (n:Nat):big (-(n:Int))=(decide (n≠0),lim n):=by unfold big; congr 1; exact decide_eq_decide.2 (by omega); congr 1; omega
theorem Ym (x y:Int):((!(decide (x<0)==decide (y<0)))&&decide (x.natAbs/y.natAbs≠0),lim (x.natAbs/y.natAbs))=big (x.tdiv y):=by
 rcases Int.lt_or_le x 0 with hx | hx
 ·obtain ⟨a,rfl⟩:∃ a:Nat,x = -(a:Int):=⟨x.natAbs,by omega⟩
  rcases Int.lt_or_le y 0 with hy | hy
  ·obtain ⟨b,rfl⟩:∃ b:Nat,y = -(b:Int):=⟨y.natAbs,by omega⟩
   rw[Int.neg_tdiv,Int.tdiv_neg,Int.neg_neg,←Int.ofNat_tdiv,Fl,decide_eq_true hx,decide_eq_true hy,Int.natAbs_neg,Int.natAbs_neg]; rfl
  ·obtain ⟨b,rfl⟩:∃ b:Nat,y=(b:Int):=⟨y.natAbs,by omega⟩
   rw[Int.neg_tdiv,←Int.ofNat_tdiv,XL,decide_eq_true hx,decide_eq_false (show ¬(b:Int)<0 by omega),Int.natAbs_neg]; rfl
 ·obtain ⟨a,rfl⟩:∃ a:Nat,x=(a:Int):=⟨x.natAbs,by omega⟩
  rcases Int.lt_or_le y 0 with hy | hy
  ·obtain ⟨b,rfl⟩:∃ b:Nat,y = -(b:Int):=⟨y.natAbs,by omega⟩
   rw[Int.tdiv_neg,←Int.ofNat_tdiv,XL,decide_eq_false (show ¬(a:Int)<0 by omega),decide_eq_true hy,Int.natAbs_neg]; rfl
  ·obtain ⟨b,rfl⟩:∃ b:Nat,y=(b:Int):=⟨y.natAbs,by omega⟩
   rw[←Int.ofNat_tdiv,Fl,decide_eq_false (show ¬(a:Int)<0 by omega),decide_eq_false (show ¬(b:Int)<0 by omega)]; rfl
theorem ZB (x y:Int):(decide (x<0)&&decide (x.natAbs%y.natAbs≠0),lim (x.natAbs%y.natAbs))=big (x.tmod y):=by
 have hy:x.tmod y=x.tmod (y.natAbs:Int):=by
  rcases Int.natAbs_eq y with h | h
  ·rw[←h]
  ·rw[h,Int.tmod_neg,Int.natAbs_neg,Int.natAbs_natCast]
 rw[hy]
 rcases Int.lt_or_le x 0 with hx | hx
 ·obtain ⟨a,rfl⟩:∃ a:Nat,x = -(a:Int):=⟨x.natAbs,by omega⟩
  rw[Int.neg_tmod,←Int.ofNat_tmod,XL,decide_eq_true hx,Int.natAbs_neg]; rfl
 ·obtain ⟨a,rfl⟩:∃ a:Nat,x=(a:Int):=⟨x.natAbs,by omega⟩
  rw[←Int.ofNat_tmod,Fl,decide_eq_false (show ¬(a:Int)<0 by omega)]; rfl
theorem GN {a b:Nat} (h:a≤b):(lim a).length≤(lim b).length:=Ah.2 (Int.lt_of_le_of_lt (by omega) (Ah.1 (Nat.le_refl (lim b).length)))
section
variable {x y:Int} {k:Nat}
theorem Ij (hk:k≤90000) (hx:(x.natAbs:Int)<B k) (hy:(y.natAbs:Int)<B k) (h0:y≠0):CY (big x) (big y)=some (big (x.tdiv y),big (x.tmod y)):=by
 have lx:=Nat.le_trans (Ah.2 hx) hk
 have ly:=Nat.le_trans (Ah.2 hy) hk
 have l1:=GN (Nat.div_le_self x.natAbs y.natAbs)
 have l2:=GN (Nat.mod_le x.natAbs y.natAbs)
 unfold CY
 rw[show (big x).2=lim x.natAbs from rfl,show (big y).2=lim y.natAbs from rfl,S6 (by omega) lx ly]
 simp only[Option.bind_some]
 rw[Fn (Ao _) (by unfold Brief; omega),Fn (Ao _) (by unfold Brief; omega),Aj,Aj,Int.toNat_natCast,Int.toNat_natCast]
 simp only[Option.bind_some]
 rw[show (big x).1=decide (x<0) from rfl,show (big y).1=decide (y<0) from rfl,Ym,ZB]
theorem An9 (hk:k≤90000) (hx:(x.natAbs:Int)<B k) (hy:(y.natAbs:Int)<B k) (h0:y≠0):Gm (big x) (big y)=some (big (x.tdiv y),big (x.tmod y)):=by
 have lx:=Nat.le_trans (Ah.2 hx) hk
 have ly:=Nat.le_trans (Ah.2 hy) hk
 have l1:=GN (Nat.div_le_self x.natAbs y.natAbs)
 have l2:=GN (Nat.mod_le x.natAbs y.natAbs)
 unfold Gm
 rw[show (big x).2=lim x.natAbs from rfl,show (big y).2=lim y.natAbs from rfl,MT (by omega) lx ly]
 simp only[Option.bind_some]
 rw[CX (Ao _) (by unfold Brief; omega),CX (Ao _) (by unfold Brief; omega),Aj,Aj,Int.toNat_natCast,Int.toNat_natCast]
 simp only[Option.bind_some]
 rw[show (big x).1=decide (x<0) from rfl,show (big y).1=decide (y<0) from rfl,Ym,ZB]
end
theorem Qt {b:Nat} (h:b≠0):decide ((((lim b).length:Nat):Int)>0)=true:=by rw[JH,H1]; simp[h]
theorem Ae7 (s:Bool×List Int):∀ (n a b:Nat),b<n→(lim a).length≤90000→(lim b).length≤90000 →
  loopM (fun (s:((Bool×(List Int))×((List Int)×(List Int))))=>Fp s.1 s.2.1 s.2.2) (s,(lim a,lim b))=some (s,lim (Nat.gcd a b)):=by
 intro n
 induction n with
 | zero=>intro a b h; omega
 | succ n ih =>
  intro a b h ha hb
  by_cases h0:b=0
  ·subst h0
   rw[Nat.gcd_zero_right]
   refine Ap ?_
   unfold Fp
   rw[Bi]
   rfl
  ·have hm:=Nat.mod_lt a (show b>0 by omega)
   rw[AX (s':=(s,(lim b,lim (a%b))))]
   ·rw[ih b (a%b) (by omega) hb (Nat.le_trans (GN (Nat.mod_le _ _)) ha),Nat.gcd_comm b,←Nat.gcd_rec,Nat.gcd_comm b]
   ·unfold Fp
    dsimp only
    rw[Qt h0,S6 h0 ha hb]
    rfl
theorem Ad9:∀ (n a b:Nat),b<n→(lim a).length≤90000→(lim b).length≤90000 →
  loopM (fun (s:((List Int)×(List Int)))=>Hz s.1 s.2) (lim a,lim b)=some (lim (Nat.gcd a b)):=by
 intro n
 induction n with
 | zero=>intro a b h; omega
 | succ n ih =>
  intro a b h ha hb
  by_cases h0:b=0
  ·subst h0
   rw[Nat.gcd_zero_right]
   refine Ap ?_
   unfold Hz
   rw[Bi]
   rfl
  ·have hm:=Nat.mod_lt a (show b>0 by omega)
   rw[AX (s':=(lim b,lim (a%b)))]
   ·rw[ih b (a%b) (by omega) hb (Nat.le_trans (GN (Nat.mod_le _ _)) ha),Nat.gcd_comm b,←Nat.gcd_rec,Nat.gcd_comm b]
   ·unfold Hz
    dsimp only
    rw[Qt h0,MT h0 ha hb]
    rfl
theorem Ap2 {a b:Nat} (ha:(lim a).length≤90000) (hb:(lim b).length≤90000):(lim (Nat.gcd a b)).length≤90000:=by
 by_cases h:a=0
 ·subst h; rw[Nat.gcd_zero_left]; exact hb
 ·exact Nat.le_trans (GN (Nat.gcd_le_left b (by omega))) ha
section
variable {x y:Int} {k:Nat}
theorem VV (hk:k≤90000) (hx:(x.natAbs:Int)<B k) (hy:(y.natAbs:Int)<B k):Eb (big x) (big y)=some (big (Int.gcd x y:Nat)):=by
 have lx:=Nat.le_trans (Ah.2 hx) hk
 have ly:=Nat.le_trans (Ah.2 hy) hk
 have lg:=Ap2 lx ly
 unfold Eb
 rw[show (big x).2=lim x.natAbs from rfl,show (big y).2=lim y.natAbs from rfl,Ae7 _ _ _ _ (Nat.lt_succ_self _) lx ly]
 simp only[Option.bind_some]
 rw[Fn (Ao _) (by unfold Brief; omega),Aj,Int.toNat_natCast,Fl]
 rfl
theorem Am9 (hk:k≤90000) (hx:(x.natAbs:Int)<B k) (hy:(y.natAbs:Int)<B k):Gx (big x).2 (big y).2=some (lim (Int.gcd x y)):=by
 have lx:=Nat.le_trans (Ah.2 hx) hk
 have ly:=Nat.le_trans (Ah.2 hy) hk
 have lg:=Ap2 lx ly
 unfold Gx
 rw[show (big x).2=lim x.natAbs from rfl,show (big y).2=lim y.natAbs from rfl,Ad9 _ _ _ (Nat.lt_succ_self _) lx ly]
 simp only[Option.bind_some]
 rw[EE (by unfold Brief; omega)]
 simp only[Option.bind_some]
 rw[KD (Oh _)]
 rfl
end
end Go.Proofs.YthipdlhknbhiiaaGreat.Ev

end
section
namespace Go.Proofs.YthipdlhknbhiiaaGreat.Ev
open Go
theorem peta {α β:Type} (p : α×β):(p.1,p.2)=p:=by cases p; rfl
theorem V5 {a:Bool×List Int} (h:a.2.length≤1000000):Em a a=some true:=by
 have hb:EB a.2 a.2=some true:=by
  unfold EB
  rw[bne_self_eq_false]
  simp only[cond_false]
  obtain ⟨h1,h2⟩:=H7 (l:=a.2) (body:=fun (s:((List Int)×((List Int)×(Int×Int))))=>EO s.1 s.2.1 s.2.2.1 s.2.2.2)
   (st:=fun k (b:Unit)=>(a.2,(a.2,((a.2.length:Int),(k:Int))))) (step:=fun b p=>()) (fin:=fun b=>.inl ()) (I:=fun k b=>True)
   (by
    rintro k b p hk _
    have hkl:=getL hk
    unfold EO
    simp only[Ew hk,cond_true,Ak,hk,Option.bind_some,bne_self_eq_false,cond_false,wrap1 (show k<4611686018427387904 by omega)]
    exact ⟨trivial,trivial⟩)
   (by
    rintro b _
    unfold EO
    simp only[Lc,cond_false]) () trivial
  rw[show ((0:Nat):Int)=0 from rfl] at h1
  rw[h1]
  rfl
 unfold Em
 rw[beq_self_eq_true,hb]
 rfl
section
variable {x y:Int} (hx:(x.natAbs:Int)<B 40) (hy:(y.natAbs:Int)<B 40)
include hx hy
end
section
variable {a b:Bool×List Int} (ha:Brief a.2) (hb:Brief b.2) (h:(goodB a&&goodB b)=false)
include ha hb h
end
end Go.Proofs.YthipdlhknbhiiaaGreat.Ev

end
section
namespace Go.Proofs.YthipdlhknbhiiaaGreat.Ev
open Go
def Few (n:Nat) (l:List Int):Prop:=LB l∧l.length≤n
theorem AC5 {s1:Bool×List Int} {c:List Int×Int×Int}:∀ (n:Nat) (k B':Nat) (c:List Int×Int×Int) (l:List Int),Cur B' c→B' + 6*n≤100000000000→n≤1000→Few k l→k + n≤1000 →
  ∃ c' l',loopM (fun (s:(((List Int)×(Int×Int))×((Bool×(List Int))×((List Int)×Int))))=>CH s.1 s.2.1 s.2.2.1 s.2.2.2) (c,(s1,(l,(n:Int))))=some (c',(s1,l'))∧Cur (B' + 6*n) c'∧Few (k + n) l':=by
 intro n
 induction n with
 | zero =>
  intro k B' c l hc hB hn hl hk
  exact ⟨c,l,Ap (by unfold CH; rfl),hc.mono (by omega),hl⟩
 | succ n ih =>
  intro k B' c l hc hB hn hl hk
  obtain ⟨c1,v1,e1,q1,a1,b1⟩:=AD hc (by omega) 256
  obtain ⟨c2,v2,e2,q2,a2,b2⟩:=AD q1 (by omega) 256
  have b1:=b1 (by omega)
  have b2:=b2 (by omega)
  obtain ⟨c3,v3,e3,q3,m3⟩:=Nr q2 (by omega) [0,1,65535,32768,256*v1 + v2,7] (by simp) (by simp)
  have hv : 0≤v3∧v3<65536:=by simp at m3; omega
  obtain ⟨c',l',h1,h2,h3⟩:=ih (k + 1) (B' + 6) c3 (l ++ [v3]) (q3.mono (by omega)) (by omega) (by omega) ⟨hl.1.append (LB.cons hv LB.nil),by simp; exact hl.2⟩ (by omega)
  refine ⟨c',l',?_,h2.mono (by omega),by rw[show k + (n + 1)=k + 1 + n by omega]; exact h3⟩
  rw[AX (s':=(c3,(s1,(l ++ [v3],(n:Int)))))]
  ·exact h1
  ·unfold CH
   have hd:decide (((n + 1:Nat):Int)>0)=true:=decide_eq_true (by omega)
   have hl2:=hl.2
   simp only[hd,cond_true,e1,e2,Option.bind_some,wrapI (n:=256*v1) (by omega) (by omega),wrapI (n:=256*v1 + v2) (by omega) (by omega),e3,app1 (show l.length≤100000000 from by omega)]
   rw[wrapI (by omega) (by omega),show ((n + 1:Nat):Int)-1=(n:Int) by omega]
theorem AA0 {B':Nat} {c:List Int×Int×Int} (h:Cur B' c) (hB:B'≤1000000000):∃ c' b,CR c=some (c',b)∧Cur (B' + 300) c'∧b.2.length≤100:=by
 unfold CR
 obtain ⟨c0,v0,e0,q0,a0,b0⟩:=AD h (by omega) 6
 have b0:=b0 (by omega)
 obtain ⟨c1,v1,e1,q1⟩:=Je q0 (by omega) 12
 simp only[e0,e1,Option.bind_some]
 have fin:∀ (c2:List Int×Int×Int) (n:Nat),Cur (B' + 6) c2→n≤41→∃ c' b,((loopM (fun (s:(((List Int)×(Int×Int))×((Bool×(List Int))×((List Int)×Int))))=>CH s.1 s.2.1 s.2.2.1 s.2.2.2) (c2,((false,[]),([],(n:Int))))).bind fun x6 =>
  ((Au (x6.1.1,(x6.1.2.1,x6.1.2.2)) (3:Int))).bind fun x7 =>
  ((AH x7.2 x6.2.2)).bind fun x8 =>
  ((Au (x7.1.1,(x7.1.2.1,x7.1.2.2)) (40:Int))).bind fun x9 =>
  bif x9.2 then
   ((A2 (x9.1.1,(x9.1.2.1,x9.1.2.2)) (List.cons (0:Int) (List.cons (-(1:Int)) (List.cons (65536:Int) List.nil))))).bind fun x10 =>
   ((appL 8 1 x8.1 (List.cons x10.2 List.nil))).bind fun x11 =>
   some ((x10.1.1,(x10.1.2.1,x10.1.2.2)),(x8.2,x11))
  else
  some ((x9.1.1,(x9.1.2.1,x9.1.2.2)),(x8.2,x8.1)))=some (c',b)∧Cur (B' + 300) c'∧b.2.length≤100:=by
  intro c2 n q2 hn
  obtain ⟨c3,l,e3,q3,hl⟩:=AC5 (s1:=(false,[])) (c:=c2) n 0 (B' + 6) c2 [] q2 (by omega) (by omega) ⟨LB.nil,by simp⟩ (by omega)
  obtain ⟨c4,v4,e4,q4⟩:=Je q3 (by omega) 3
  obtain ⟨c5,v5,e5,q5⟩:=Je q4 (by omega) 40
  have hll:=hl.2
  have hmk:=CX hl.1 (by unfold Brief; omega) v4
  have hlen:(lim (val l).toNat).length≤0 + n:=AH9 hl.1 _ 0 hl.2
  simp only[e3,e4,e5,hmk,Option.bind_some]
  cases v5
  ·exact ⟨_,_,rfl,q5.mono (by omega),by simp only; omega⟩
  ·obtain ⟨c6,v6,e6,q6,m6⟩:=Nr q5 (by omega) [0,-(1:Int),65536] (by simp) (by simp)
   simp only[cond_true,e6,Option.bind_some]
   rw[app1 (by omega)]
   exact ⟨_,_,rfl,q6.mono (by omega),by simp; omega⟩
 cases v1
 ·simp only[cond_false,Option.bind_some,Sum.elim_inr]
  have hv:v0=((v0.toNat:Nat):Int):=by omega
  rw[hv]
  exact fin c1 v0.toNat (q1.mono (by omega)) (by omega)
 ·obtain ⟨c2,v2,e2,q2,m2⟩:=Nr q1 (by omega) [20,39,40,41] (by simp) (by simp)
  simp only[cond_true,e2,Option.bind_some,Sum.elim_inr]
  have hm : 0≤v2∧v2≤41:=by simp at m2; omega
  have hv:v2=((v2.toNat:Nat):Int):=by omega
  rw[hv]
  exact fin c2 v2.toNat (q2.mono (by omega)) (by omega)
end Go.Proofs.YthipdlhknbhiiaaGreat.Ev

end
section
namespace Go.Proofs.YthipdlhknbhiiaaGreat.Ev
open Go
def rq (q:Rat):(Bool×List Int)×(Bool×List Int):=(big q.num,big (q.den:Int))
theorem AJ2 {p q:Rat} (h:rq p=rq q):p=q:=by
 have h1:=Am4 (congrArg Prod.fst h)
 have h2:=Am4 (congrArg Prod.snd h)
 exact Rat.ext h1 (by exact_mod_cast h2)
theorem Ge {x y:Int} (hy:y≠0):x.tdiv (if y<0 then -((Int.gcd x y:Nat):Int) else (Int.gcd x y:Nat))=(Rat.divInt x y).num∧y.tdiv (if y<0 then -((Int.gcd x y:Nat):Int) else (Int.gcd x y:Nat))=((Rat.divInt x y).den:Int):=by
 have d1:((Int.gcd x y:Nat):Int)∣x:=Int.gcd_dvd_left ..
 have d2:((Int.gcd x y:Nat):Int)∣y:=Int.gcd_dvd_right ..
 rw[Rat.num_divInt,Rat.den_divInt,if_neg hy,Int.gcd_comm y x]
 generalize Int.gcd x y=n at *
 obtain ⟨a,rfl⟩:=d1
 obtain ⟨b,rfl⟩:=d2
 have hn:n≠0:=by rintro rfl; simp at hy
 have hn':(n:Int)≠0:=by omega
 have hb:b≠0:=by rintro rfl; simp at hy
 have hsg:((n:Int)*b<0)↔b<0:=by
  constructor
  ·intro h
   rcases Int.lt_or_le b 0 with g | g
   ·exact g
   ·exact absurd (Int.mul_nonneg (show (0:Int)≤(n:Int) by omega) g) (by omega)
  ·intro h; exact Int.mul_neg_of_pos_of_neg (by omega) h
 rw[Int.natAbs_mul,Int.natAbs_natCast,Nat.mul_div_cancel_left _ (by omega)]
 by_cases h:b<0
 ·rw[if_pos (hsg.2 h),Int.sign_eq_neg_one_of_neg (hsg.2 h),Int.tdiv_neg,Int.tdiv_neg,Int.mul_tdiv_cancel_left _ hn',Int.mul_tdiv_cancel_left _ hn',
   show (-1:Int)*((n:Int)*a)=(n:Int)*(-a) by rw[Int.mul_neg,Int.neg_mul,Int.one_mul],Int.mul_ediv_cancel_left _ hn']
  exact ⟨rfl,by omega⟩
 ·have h':¬(n:Int)*b<0:=fun g=>h (hsg.1 g)
  have hp : 0<(n:Int)*b:=by omega
  rw[if_neg h',Int.sign_eq_one_of_pos hp,Int.mul_tdiv_cancel_left _ hn',Int.mul_tdiv_cancel_left _ hn',Int.one_mul,Int.mul_ediv_cancel_left _ hn']
  exact ⟨rfl,by omega⟩
def Sz (k:Nat) (q:Rat):Prop:=(q.num.natAbs:Int)<B k∧(q.den:Int)<B k
instance (k:Nat) (q:Rat):Decidable (Sz k q):=by unfold Sz; infer_instance
theorem Sz.mono {k m:Nat} {q:Rat} (h:Sz k q) (hkm:k≤m):Sz m q:=by
 have:=G6 hkm
 unfold Sz at *
 omega
theorem M4 (x g:Int):(x.tdiv g).natAbs≤x.natAbs:=by rw[Int.natAbs_tdiv]; exact Nat.div_le_self _ _
theorem Ip {x y:Int} {k:Nat} (hx:(x.natAbs:Int)<B k) (hy:(y.natAbs:Int)<B k) (h0:y≠0):Sz k (Rat.divInt x y):=by
 obtain ⟨h1,h2⟩:=Ge (x:=x) h0
 have a1:=M4 x (if y<0 then -((Int.gcd x y:Nat):Int) else (Int.gcd x y:Nat))
 have a2:=M4 y (if y<0 then -((Int.gcd x y:Nat):Int) else (Int.gcd x y:Nat))
 rw[h1] at a1
 rw[h2] at a2
 unfold Sz
 omega
theorem AB8 (p q:Rat):p + q=Rat.divInt (p.num*q.den + q.num*p.den) ((p.den:Int)*(q.den:Int)):=by
 rw[Rat.add_def',←Rat.divInt_ofNat,Int.natCast_mul]
theorem AH1 (p q:Rat):p*q=Rat.divInt (p.num*q.num) ((p.den:Int)*(q.den:Int)):=by
 rw[Rat.mul_def',←Rat.divInt_ofNat,Int.natCast_mul]
theorem AG8 (p q:Rat):p/q=Rat.divInt (p.num*q.den) ((p.den:Int)*q.num):=by
 rw[Rat.div_def,Rat.inv_def]
 conv=>lhs; lhs; rw[←Rat.num_divInt_den p]
 rw[Rat.divInt_mul_divInt]
theorem mulB {x y:Int} {k m:Nat} (hx:(x.natAbs:Int)<B k) (hy:(y.natAbs:Int)<B m):((x*y).natAbs:Int)<B (k + m):=by
 rw[Int.natAbs_mul]; exact fit2 hx hy
theorem addB {x y:Int} {k:Nat} (hx:(x.natAbs:Int)<B k) (hy:(y.natAbs:Int)<B k):((x + y).natAbs:Int)<B (k + 1):=by
 have h1:B (k + 1)=65536*B k:=by rw[Nk,Int.mul_comm]; rfl
 have:=Ez k
 omega
theorem natB {n:Nat} {k:Nat} (h:(n:Int)<B k):(((n:Int)).natAbs:Int)<B k:=by rw[Int.natAbs_natCast]; exact h
theorem negB {x:Int} {k:Nat} (h:(x.natAbs:Int)<B k):((-x).natAbs:Int)<B k:=by rw[Int.natAbs_neg]; exact h
theorem upB {x:Int} {k m:Nat} (h:(x.natAbs:Int)<B k) (hkm:k≤m):(x.natAbs:Int)<B m:=Int.lt_of_lt_of_le h (G6 hkm)
section
variable {p q:Rat} {k m:Nat} (hp:Sz k p) (hq:Sz m q)
include hp hq
theorem J7:Sz (k + m) (p*q):=by
 rw[AH1]
 exact Ip (mulB hp.1 hq.1) (mulB (natB hp.2) (natB hq.2)) (by have:=p.den_nz; have:=q.den_nz; intro h; rcases Int.mul_eq_zero.1 h with h | h <;> omega)
theorem Pm:((p.num*(q.den:Int) + q.num*(p.den:Int)).natAbs:Int)<B (k + m + 1) :=
 addB (mulB hp.1 (natB hq.2)) (by rw[Nat.add_comm]; exact mulB hq.1 (natB hp.2))
theorem Py:Sz (k + m + 1) (p + q):=by
 rw[AB8]
 exact Ip (Pm hp hq) (upB (mulB (natB hp.2) (natB hq.2)) (by omega)) (by have:=p.den_nz; have:=q.den_nz; intro h; rcases Int.mul_eq_zero.1 h with h | h <;> omega)
theorem AF7 (h0:q≠0):Sz (k + m) (p/q):=by
 rw[AG8]
 exact Ip (mulB hp.1 (natB hq.2)) (mulB (natB hp.2) hq.1) (by
  have:=p.den_nz
  have hn:q.num≠0:=fun h=>h0 (Rat.num_eq_zero.1 h)
  intro h; rcases Int.mul_eq_zero.1 h with h | h <;> omega)
end
theorem Af2 {p:Rat} {k:Nat} (hp:Sz k p):Sz k (-p):=⟨negB hp.1,hp.2⟩
theorem Hi {p q:Rat} {k m:Nat} (hp:Sz k p) (hq:Sz m q):Sz (k + m + 1) (p-q):=by rw[Rat.sub_eq_add_neg]; exact Py hp (Af2 hq)
theorem B1:B 1=65536:=rfl
theorem K0 {z:Int} {k:Nat} (h:(z.natAbs:Int)<B k) (hk : 1≤k):Sz k (z:Rat):=⟨h,by
 rw[Rat.den_intCast]
 have:=G6 hk
 rw[B1] at this
 omega⟩
def cmpQ (p q:Rat):Int:=if p<q then -1 else if q<p then 1 else 0
theorem Am0 (p q:Rat):cmpZ (p.num*(q.den:Int)) (q.num*(p.den:Int))=cmpQ p q:=by
 unfold cmpZ cmpQ
 simp only[Rat.lt_iff]
theorem Am8 {p q:Rat}:cmpQ p q<0↔p<q:=by
 unfold cmpQ; split
 ·simp[*]
 ·split <;> simp[*]
theorem Ls {p q:Rat} : 0<cmpQ p q↔q<p:=by
 unfold cmpQ; split
 ·rename_i h; simp; exact Rat.not_lt.2 (Rat.le_of_lt h)
 ·split <;> simp[*]
theorem PS {x d:Int} (hd : 0<d):(if x.tmod d<0 then x.tdiv d-1 else x.tdiv d)=x/d:=by
 have h1:=Int.mul_tdiv_add_tmod x d
 have h2:=Int.natAbs_tmod x d
 have h3:(x.tmod d).natAbs<d.natAbs:=by rw[h2]; exact Nat.mod_lt _ (by omega)
 have h4:x=(if x.tmod d<0 then x.tmod d + d else x.tmod d) + d*(if x.tmod d<0 then x.tdiv d-1 else x.tdiv d):=by
  split
  ·rw[Int.mul_sub]; omega
  ·omega
 conv=>rhs; rw[h4]
 rw[Int.add_mul_ediv_left _ _ (by omega),Int.ediv_eq_zero_of_lt (by split <;> omega) (by split <;> omega),Int.zero_add]
def goodQ (a:(Bool×List Int)×(Bool×List Int)):Bool:=goodB a.1&&goodB a.2&&((!a.2.1 && !a.2.2.isEmpty)&&decide (Nat.gcd (val a.1.2).toNat (val a.2.2).toNat=1))
theorem Ie {a:(Bool×List Int)×(Bool×List Int)}:goodQ a=true↔∃ q:Rat,Sz 40 q∧a=rq q:=by
 unfold goodQ
 constructor
 ·intro h
  simp only[Bool.and_eq_true,decide_eq_true_eq] at h
  obtain ⟨⟨h1,h2⟩,⟨h3,h4⟩,h5⟩:=h
  obtain ⟨x,hx,e1⟩:=Dq.1 h1
  obtain ⟨y,hy,e2⟩:=Dq.1 h2
  rw[e2] at h3 h4 h5
  rw[e1] at h5
  unfold big at h3 h4 h5
  simp only[Aj,Int.toNat_natCast] at h5
  simp only[Bool.not_eq_true',decide_eq_false_iff_not] at h3
  simp only[Bool.not_eq_true'] at h4
  have h6:y≠0:=by
   rintro rfl
   rw[show (0:Int).natAbs=0 from rfl,Bi] at h4
   simp at h4
  refine ⟨⟨x,y.natAbs,by omega,h5⟩,⟨hx,by show ((y.natAbs:Nat):Int)<B 40; exact hy⟩,?_⟩
  unfold rq
  rw[←e1]
  refine Prod.ext rfl ?_
  rw[e2]
  show big y=big ((y.natAbs:Nat):Int)
  congr 1
  omega
 ·rintro ⟨q,h,rfl⟩
  unfold rq
  have hd:=q.den_nz
  have hb:=LF h.1
  have hb2:=LF (natB h.2)
  simp only[hb,hb2,Bool.true_and]
  unfold big
  simp only[Aj,Int.toNat_natCast,Int.natAbs_natCast,Bool.and_eq_true,decide_eq_true_eq,Bool.not_eq_true',decide_eq_false_iff_not]
  refine ⟨⟨by omega,?_⟩,q.reduced⟩
  have:=H1 q.den
  rw[decide_eq_true hd] at this
  simpa using this
theorem Ka {q:Rat} (h:Sz 40 q):goodQ (rq q)=true:=Ie.2 ⟨q,h,rfl⟩
end Go.Proofs.YthipdlhknbhiiaaGreat.Ev

end
