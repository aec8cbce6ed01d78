/- What the theorem of this claim leans on, part 5. -/
import Derived.Test.YthipdlhknbhiiaaGreatKD
import Derived.Test.YthipdlhknbhiiaaGreatProg
import Derived.KernelRfl
set_option linter.unusedVariables false
set_option linter.unusedSimpArgs false
set_option linter.unusedSectionVars false
section
namespace Go.Proofs.YthipdlhknbhiiaaGreat.Ev
open Go
set_option maxRecDepth 100000
noncomputable def Hx:Ent:=⟨K3,fun x=>Da x⟩
noncomputable def Rj:TX:=⟨tyTab,codTab,[],[4],[Kg,OZ,Ix],K3⟩
set_option maxHeartbeats 2000000 in
theorem Aa0 (a0:(Bool×List (Int)×Bool×List (Int))):wtF Rj Tryz.f143 (a0)=Da a0:=by kernel_rfl
theorem Jd:EntOK RR Hx:=Ab (X:=Rj) ⟨tyOK,boolOK,eqOK⟩ (Ad (by exact ⟨⟨N3,rfl⟩,⟨⟨Uo,rfl⟩,⟨⟨ID,rfl⟩,trivial⟩⟩⟩)) (Af (by kernel_rfl)) ⟨Tryz.func143,rfl,by kernel_rfl,rfl⟩ (fun x=>by exact Aa0 x)
noncomputable def Eo (a0:(Bool×((List Int)×(Bool×(List Int))))):Option (Bool) :=
 bif decide ((((List.length a0.2.1):Nat):Int)≤(8:Int)) then
  bif decide ((((List.length a0.2.2.2):Nat):Int)≤(8:Int)) then
   ((Da (a0.1,(a0.2.1,(a0.2.2.1,a0.2.2.2))))).bind fun x0 =>
   some x0
  else
  some false
 else
 some false
noncomputable def QP:Ent:=⟨Kc,fun x=>Eo x⟩
noncomputable def Ri:TX:=⟨tyTab,codTab,[],[4],[Hx],Kc⟩
set_option maxHeartbeats 2000000 in
theorem YO (a0:(Bool×List (Int)×Bool×List (Int))):wtF Ri Tryz.f173 (a0)=Eo a0:=by kernel_rfl
theorem Ye:EntOK RR QP:=Ab (X:=Ri) ⟨tyOK,boolOK,eqOK⟩ (Ad (by exact ⟨⟨Jd,rfl⟩,trivial⟩)) (Af (by kernel_rfl)) ⟨Tryz.func173,rfl,by kernel_rfl,rfl⟩ (fun x=>by exact YO x)
noncomputable def BC (s0:(List (((Bool×(List Int))×(Bool×(List Int)))×((Bool×(List Int))×(Bool×(List Int)))))) (s1:(List (((Bool×(List Int))×(Bool×(List Int)))×((Bool×(List Int))×(Bool×(List Int)))))) (s2:Int) (s3:Int):Option (((List (((Bool×(List Int))×(Bool×(List Int)))×((Bool×(List Int))×(Bool×(List Int)))))×((List (((Bool×(List Int))×(Bool×(List Int)))×((Bool×(List Int))×(Bool×(List Int)))))×(Int×Int))) ⊕ ((List (((Bool×(List Int))×(Bool×(List Int)))×((Bool×(List Int))×(Bool×(List Int))))) ⊕ Bool)) :=
 bif decide (s3<s2) then
  ((getI s1 s3)).bind fun x0 =>
  ((Eo (x0.1.1.1,(x0.1.1.2,(x0.1.2.1,x0.1.2.2))))).bind fun x1 =>
  bif (!x1) then
   some (Sum.inr (Sum.inr false))
  else
  ((Eo (x0.2.1.1,(x0.2.1.2,(x0.2.2.1,x0.2.2.2))))).bind fun x2 =>
  bif (!x2) then
   some (Sum.inr (Sum.inr false))
  else
  some (Sum.inl (s0,(s1,(s2,(Go.IntKind.wrap Go.IntKind.i64 (s3 + (1:Int)))))))
 else
 some (Sum.inr (Sum.inl s0))
noncomputable def DA (a0:(List (((Bool×(List Int))×(Bool×(List Int)))×((Bool×(List Int))×(Bool×(List Int)))))):Option (Bool) :=
 (loopM (fun (s:((List (((Bool×(List Int))×(Bool×(List Int)))×((Bool×(List Int))×(Bool×(List Int)))))×((List (((Bool×(List Int))×(Bool×(List Int)))×((Bool×(List Int))×(Bool×(List Int)))))×(Int×Int))))=>BC s.1 s.2.1 s.2.2.1 s.2.2.2) (a0,(a0,((((List.length a0):Nat):Int),(0:Int))))).bind fun x0 =>
 Sum.elim
  (fun x1 =>
  some (decide ((((List.length x1):Nat):Int)≤(40:Int))))
  (fun x2 =>
  some x2)
  x0
noncomputable def IQ:Ent:=⟨I6,fun x=>DA x⟩
noncomputable def Nr:TX:=⟨tyTab,codTab,[],[4],[QP],I6⟩
set_option maxHeartbeats 2000000 in
theorem X6 (a0:List ((((Bool×List (Int))×(Bool×List (Int)))×((Bool×List (Int))×(Bool×List (Int)))))):wtF Nr Tryz.f83 (a0)=DA a0:=by kernel_rfl
theorem Ma:EntOK RR IQ:=Ab (X:=Nr) ⟨tyOK,boolOK,eqOK⟩ (Ad (by exact ⟨⟨Ye,rfl⟩,trivial⟩)) (Af (by kernel_rfl)) ⟨Tryz.func83,rfl,by kernel_rfl,rfl⟩ (fun x=>by exact X6 x)
noncomputable def DG (a0:(Bool×((List Int)×(Bool×(List Int))))):Option (Bool) :=
 bif decide ((((List.length a0.2.1):Nat):Int)≤(2:Int)) then
  bif decide ((((List.length a0.2.2.2):Nat):Int)≤(2:Int)) then
   ((Da (a0.1,(a0.2.1,(a0.2.2.1,a0.2.2.2))))).bind fun x0 =>
   some x0
  else
  some false
 else
 some false
noncomputable def OD:Ent:=⟨I5,fun x=>DG x⟩
noncomputable def Ok:TX:=⟨tyTab,codTab,[],[4],[Hx],I5⟩
set_option maxHeartbeats 2000000 in
theorem XL (a0:(Bool×List (Int)×Bool×List (Int))):wtF Ok Tryz.f110 (a0)=DG a0:=by kernel_rfl
theorem UR:EntOK RR OD:=Ab (X:=Ok) ⟨tyOK,boolOK,eqOK⟩ (Ad (by exact ⟨⟨Jd,rfl⟩,trivial⟩)) (Af (by kernel_rfl)) ⟨Tryz.func110,rfl,by kernel_rfl,rfl⟩ (fun x=>by exact XL x)
noncomputable def Gr (a0:(Bool×((List Int)×(Bool×((List Int)×(Bool×((List Int)×(Bool×(List Int))))))))):Option (Bool) :=
 ((DG (a0.1,(a0.2.1,(a0.2.2.1,a0.2.2.2.1))))).bind fun x0 =>
 bif x0 then
  ((DG (a0.2.2.2.2.1,(a0.2.2.2.2.2.1,(a0.2.2.2.2.2.2.1,a0.2.2.2.2.2.2.2))))).bind fun x1 =>
  some x1
 else
 some false
noncomputable def Wr:Ent:=⟨OR,fun x=>Gr x⟩
noncomputable def VZ:TX:=⟨tyTab,codTab,[],[4],[OD],OR⟩
set_option maxHeartbeats 2000000 in
theorem As9 (a0:(Bool×List (Int)×Bool×List (Int)×Bool×List (Int)×Bool×List (Int))):wtF VZ Tryz.f84 (a0)=Gr a0:=by kernel_rfl
theorem Af0:EntOK RR Wr:=Ab (X:=VZ) ⟨tyOK,boolOK,eqOK⟩ (Ad (by exact ⟨⟨UR,rfl⟩,trivial⟩)) (Af (by kernel_rfl)) ⟨Tryz.func84,rfl,by kernel_rfl,rfl⟩ (fun x=>by exact As9 x)
noncomputable def Cv (s0:(List Int)) (s1:(List Int)) (s2:Int) (s3:Int) (s4:Int) (s5:Int) (s6:(List Int)) (s7:Int) (s8:Int):Option (((List Int)×((List Int)×(Int×(Int×(Int×(Int×((List Int)×(Int×Int)))))))) ⊕ ((List Int)×((List Int)×((List Int)×(Int×Int))))) :=
 (bif decide (s5<(((List.length s1):Nat):Int)) then
   some (Sum.inr (s0,(s1,(s2,(s3,(s4,(s5,(s6,(s7,s8)))))))))
  else
  bif decide (s4>(0:Int)) then
   some (Sum.inr (s0,(s1,(s2,(s3,(s4,(s5,(s6,(s7,s8)))))))))
  else
  some (Sum.inl (Sum.inr (s0,(s1,(s6,(s7,s8))))))).bind fun x0 =>
 Sum.elim
  (fun x1 =>
  some x1)
  (fun x2 =>
  ((idxI (Go.IntKind.wrap Go.IntKind.i64 (x2.2.2.1 + x2.2.2.2.2.2.1)) (List.length x2.1))).bind fun x3 =>
  ((getN x2.1 x3)).bind fun x4 =>
  ((BQ x2.2.1 x2.2.2.2.2.2.1)).bind fun x5 =>
  ((idxI (Go.IntKind.wrap Go.IntKind.i64 (x2.2.2.1 + x2.2.2.2.2.2.1)) (List.length x2.1))).bind fun x6 =>
  ((getN x2.1 x6)).bind fun x7 =>
  some (Sum.inl ((List.set x2.1 x6 (Int.tmod (Go.IntKind.wrap Go.IntKind.i64 ((Go.IntKind.wrap Go.IntKind.i64 (x4 + (Go.IntKind.wrap Go.IntKind.i64 (x2.2.2.2.1*x5)))) + x2.2.2.2.2.1)) (65536:Int))),(x2.2.1,(x2.2.2.1,(x2.2.2.2.1,((Go.IntKind.wrap Go.IntKind.i64 (Int.tdiv (Go.IntKind.wrap Go.IntKind.i64 ((Go.IntKind.wrap Go.IntKind.i64 (x4 + (Go.IntKind.wrap Go.IntKind.i64 (x2.2.2.2.1*x5)))) + x2.2.2.2.2.1)) (65536:Int))),((Go.IntKind.wrap Go.IntKind.i64 (x2.2.2.2.2.2.1 + (1:Int))),(x2.2.2.2.2.2.2.1,(x2.2.2.2.2.2.2.2.1,x2.2.2.2.2.2.2.2.2))))))))))
  x0
noncomputable def Dv (s0:(List Int)) (s1:(List Int)) (s2:(List Int)) (s3:Int) (s4:Int):Option (((List Int)×((List Int)×((List Int)×(Int×Int)))) ⊕ (List Int)) :=
 bif decide (s4<s3) then
  ((getI s2 s4)).bind fun x0 =>
  (loopM (fun (s:((List Int)×((List Int)×(Int×(Int×(Int×(Int×((List Int)×(Int×Int)))))))))=>Cv s.1 s.2.1 s.2.2.1 s.2.2.2.1 s.2.2.2.2.1 s.2.2.2.2.2.1 s.2.2.2.2.2.2.1 s.2.2.2.2.2.2.2.1 s.2.2.2.2.2.2.2.2) (s0,(s1,(s4,(x0,((0:Int),((0:Int),(s2,(s3,s4))))))))).bind fun x1 =>
  some (Sum.inl (x1.1,(x1.2.1,(x1.2.2.1,(x1.2.2.2.1,(Go.IntKind.wrap Go.IntKind.i64 (x1.2.2.2.2 + (1:Int))))))))
 else
 some (Sum.inr s0)
noncomputable def Dj (a0:(List Int)) (a1:(List Int)):Option (List (Int)) :=
 ((lenI (Go.IntKind.wrap Go.IntKind.i64 ((Go.IntKind.wrap Go.IntKind.i64 ((((List.length a0):Nat):Int) + (((List.length a1):Nat):Int))) + (1:Int))) 8 1)).bind fun x0 =>
 (loopM (fun (s:((List Int)×((List Int)×((List Int)×(Int×Int)))))=>Dv s.1 s.2.1 s.2.2.1 s.2.2.2.1 s.2.2.2.2) ((List.replicate x0 (0:Int)),(a1,(a0,((((List.length a0):Nat):Int),(0:Int)))))).bind fun x1 =>
 ((Bw x1)).bind fun x2 =>
 some x2
noncomputable def La:Ent:=⟨GX,fun x=>Dj x.1 x.2⟩
noncomputable def JS:TX:=⟨tyTab,codTab,[],[4],[Ea,EA],GX⟩
set_option maxHeartbeats 2000000 in
theorem UL (a0:List (Int)) (a1:List (Int)):wtF JS Tryz.f235 (a0,a1)=Dj a0 a1:=by kernel_rfl
theorem RM:EntOK RR La:=Ab (X:=JS) ⟨tyOK,boolOK,eqOK⟩ (Ad (by exact ⟨⟨Ez,rfl⟩,⟨⟨D8,rfl⟩,trivial⟩⟩)) (Af (by kernel_rfl)) ⟨Tryz.func235,rfl,by kernel_rfl,rfl⟩ (fun x=>by exact UL x.1 x.2)
noncomputable def BM (a0:(Bool×(List Int))) (a1:(Bool×(List Int))):Option ((Bool×List (Int))) :=
 ((Dj a0.2 a1.2)).bind fun x0 =>
 ((AE (!(a0.1==a1.1)) x0)).bind fun x1 =>
 some (x1.2,x1.1)
noncomputable def Il:Ent:=⟨O0,fun x=>BM x.1 x.2⟩
noncomputable def VR:TX:=⟨tyTab,codTab,[],[4],[La,CM],O0⟩
set_option maxHeartbeats 2000000 in
theorem Aw9 (a0:(Bool×List (Int))) (a1:(Bool×List (Int))):wtF VR Tryz.f166 (a0,a1)=BM a0 a1:=by kernel_rfl
theorem I9:EntOK RR Il:=Ab (X:=VR) ⟨tyOK,boolOK,eqOK⟩ (Ad (by exact ⟨⟨RM,rfl⟩,⟨⟨CC,rfl⟩,trivial⟩⟩)) (Af (by kernel_rfl)) ⟨Tryz.func166,rfl,by kernel_rfl,rfl⟩ (fun x=>by exact Aw9 x.1 x.2)
noncomputable def EZ (a0:(Bool×(List Int))) (a1:(Bool×(List Int))):Option (Int) :=
 bif a0.1 then
  bif (!a1.1) then
   some (-(1:Int))
  else
  bif (!a0.1) then
   bif a1.1 then
    some (1:Int)
   else
   bif a0.1 then
    ((BA a1.2 a0.2)).bind fun x0 =>
    some x0
   else
   ((BA a0.2 a1.2)).bind fun x1 =>
   some x1
  else
  bif a0.1 then
   ((BA a1.2 a0.2)).bind fun x2 =>
   some x2
  else
  ((BA a0.2 a1.2)).bind fun x3 =>
  some x3
 else
 bif (!a0.1) then
  bif a1.1 then
   some (1:Int)
  else
  bif a0.1 then
   ((BA a1.2 a0.2)).bind fun x4 =>
   some x4
  else
  ((BA a0.2 a1.2)).bind fun x5 =>
  some x5
 else
 bif a0.1 then
  ((BA a1.2 a0.2)).bind fun x6 =>
  some x6
 else
 ((BA a0.2 a1.2)).bind fun x7 =>
 some x7
noncomputable def N6:Ent:=⟨IZ,fun x=>EZ x.1 x.2⟩
noncomputable def NE:TX:=⟨tyTab,codTab,[],[4],[Ix],IZ⟩
set_option maxHeartbeats 2000000 in
theorem XN (a0:(Bool×List (Int))) (a1:(Bool×List (Int))):wtF NE Tryz.f174 (a0,a1)=EZ a0 a1:=by kernel_rfl
theorem US:EntOK RR N6:=Ab (X:=NE) ⟨tyOK,boolOK,eqOK⟩ (Ad (by exact ⟨⟨ID,rfl⟩,trivial⟩)) (Af (by kernel_rfl)) ⟨Tryz.func174,rfl,by kernel_rfl,rfl⟩ (fun x=>by exact XN x.1 x.2)
noncomputable def Fl (a0:(Bool×((List Int)×(Bool×(List Int))))) (a1:(Bool×((List Int)×(Bool×(List Int))))):Option (Int) :=
 ((BM (a0.1,a0.2.1) (a1.2.2.1,a1.2.2.2))).bind fun x0 =>
 ((BM (a1.1,a1.2.1) (a0.2.2.1,a0.2.2.2))).bind fun x1 =>
 ((EZ (x0.1,x0.2) (x1.1,x1.2))).bind fun x2 =>
 some x2
noncomputable def PH:Ent:=⟨PT,fun x=>Fl x.1 x.2⟩
noncomputable def Wt:TX:=⟨tyTab,codTab,[],[4],[Il,N6],PT⟩
set_option maxHeartbeats 2000000 in
theorem Av7 (a0:(Bool×List (Int)×Bool×List (Int))) (a1:(Bool×List (Int)×Bool×List (Int))):wtF Wt Tryz.f85 (a0,a1)=Fl a0 a1:=by kernel_rfl
theorem UK:EntOK RR PH:=Ab (X:=Wt) ⟨tyOK,boolOK,eqOK⟩ (Ad (by exact ⟨⟨I9,rfl⟩,⟨⟨US,rfl⟩,trivial⟩⟩)) (Af (by kernel_rfl)) ⟨Tryz.func85,rfl,by kernel_rfl,rfl⟩ (fun x=>by exact Av7 x.1 x.2)
noncomputable def Dy (a0:(Bool×((List Int)×(Bool×((List Int)×(Bool×((List Int)×(Bool×(List Int))))))))) (a1:Bool):Option ((Bool×List (Int)×Bool×List (Int))) :=
 bif a1 then
  some (a0.2.2.2.2.1,(a0.2.2.2.2.2.1,(a0.2.2.2.2.2.2.1,a0.2.2.2.2.2.2.2)))
 else
 some (a0.1,(a0.2.1,(a0.2.2.1,a0.2.2.2.1)))
noncomputable def IV:Ent:=⟨I8,fun x=>Dy x.1 x.2⟩
noncomputable def Ou:TX:=⟨tyTab,codTab,[],[4],[],I8⟩
set_option maxHeartbeats 2000000 in
theorem Xb (a0:(Bool×List (Int)×Bool×List (Int)×Bool×List (Int)×Bool×List (Int))) (a1:Bool):wtF Ou Tryz.f260 (a0,a1)=Dy a0 a1:=by kernel_rfl
theorem Mg:EntOK RR IV:=Ab (X:=Ou) ⟨tyOK,boolOK,eqOK⟩ (Ad (by exact trivial)) (Af (by kernel_rfl)) ⟨Tryz.func260,rfl,by kernel_rfl,rfl⟩ (fun x=>by exact Xb x.1 x.2)
noncomputable def El (a0:(Bool×((List Int)×(Bool×((List Int)×(Bool×((List Int)×(Bool×(List Int))))))))) (a1:Bool) (a2:(Bool×((List Int)×(Bool×(List Int))))) (a3:Bool):Option (Int) :=
 ((Dy (a0.1,(a0.2.1,(a0.2.2.1,(a0.2.2.2.1,(a0.2.2.2.2.1,(a0.2.2.2.2.2.1,(a0.2.2.2.2.2.2.1,a0.2.2.2.2.2.2.2))))))) a1)).bind fun x0 =>
 ((Fl (x0.1,(x0.2.1,(x0.2.2.1,x0.2.2.2))) (a2.1,(a2.2.1,(a2.2.2.1,a2.2.2.2))))).bind fun x1 =>
 bif a3 then
  some (Go.IntKind.wrap Go.IntKind.i64 ((0:Int)-x1))
 else
 some x1
noncomputable def QD:Ent:=⟨KL,fun x=>El x.1 x.2.1 x.2.2.1 x.2.2.2⟩
noncomputable def Q7:TX:=⟨tyTab,codTab,[],[4],[IV,PH],KL⟩
set_option maxHeartbeats 2000000 in
theorem Y6 (a0:(Bool×List (Int)×Bool×List (Int)×Bool×List (Int)×Bool×List (Int))) (a1:Bool) (a2:(Bool×List (Int)×Bool×List (Int))) (a3:Bool):wtF Q7 Tryz.f239 (a0,a1,a2,a3)=El a0 a1 a2 a3:=by kernel_rfl
theorem XV:EntOK RR QD:=Ab (X:=Q7) ⟨tyOK,boolOK,eqOK⟩ (Ad (by exact ⟨⟨Mg,rfl⟩,⟨⟨UK,rfl⟩,trivial⟩⟩)) (Af (by kernel_rfl)) ⟨Tryz.func239,rfl,by kernel_rfl,rfl⟩ (fun x=>by exact Y6 x.1 x.2.1 x.2.2.1 x.2.2.2)
noncomputable def Ih (a0:(Bool×((List Int)×(Bool×(List Int))))):Option ((Bool×List (Int)×Bool×List (Int))) :=
 ((Fn (a0.1,a0.2.1))).bind fun x0 =>
 some (x0.1,(x0.2,(a0.2.2.1,a0.2.2.2)))
noncomputable def Wo:Ent:=⟨Pu,fun x=>Ih x⟩
noncomputable def V5:TX:=⟨tyTab,codTab,[],[4],[PA],Pu⟩
set_option maxHeartbeats 2000000 in
theorem Aq9 (a0:(Bool×List (Int)×Bool×List (Int))):wtF V5 Tryz.f249 (a0)=Ih a0:=by kernel_rfl
theorem Ad8:EntOK RR Wo:=Ab (X:=V5) ⟨tyOK,boolOK,eqOK⟩ (Ad (by exact ⟨⟨Ux,rfl⟩,trivial⟩)) (Af (by kernel_rfl)) ⟨Tryz.func249,rfl,by kernel_rfl,rfl⟩ (fun x=>by exact Aq9 x)
noncomputable def Cp (s0:(List Int)) (s1:(List Int)) (s2:(List Int)) (s3:Int) (s4:Int):Option (((List Int)×((List Int)×((List Int)×(Int×Int)))) ⊕ (List Int)) :=
 (bif decide (s4<(((List.length s1):Nat):Int)) then
   some (Sum.inr (s0,(s1,(s2,(s3,s4)))))
  else
  bif decide (s4<(((List.length s2):Nat):Int)) then
   some (Sum.inr (s0,(s1,(s2,(s3,s4)))))
  else
  bif decide (s3>(0:Int)) then
   some (Sum.inr (s0,(s1,(s2,(s3,s4)))))
  else
  some (Sum.inl (Sum.inr s0))).bind fun x0 =>
 Sum.elim
  (fun x1 =>
  some x1)
  (fun x2 =>
  ((BQ x2.2.1 x2.2.2.2.2)).bind fun x3 =>
  ((BQ x2.2.2.1 x2.2.2.2.2)).bind fun x4 =>
  ((appL 8 1 x2.1 (List.cons (Int.tmod (Go.IntKind.wrap Go.IntKind.i64 ((Go.IntKind.wrap Go.IntKind.i64 (x3 + x4)) + x2.2.2.2.1)) (65536:Int)) (List.nil:List Int)))).bind fun x5 =>
  some (Sum.inl (x5,(x2.2.1,(x2.2.2.1,((Go.IntKind.wrap Go.IntKind.i64 (Int.tdiv (Go.IntKind.wrap Go.IntKind.i64 ((Go.IntKind.wrap Go.IntKind.i64 (x3 + x4)) + x2.2.2.2.1)) (65536:Int))),(Go.IntKind.wrap Go.IntKind.i64 (x2.2.2.2.2 + (1:Int)))))))))
  x0
noncomputable def Db (a0:(List Int)) (a1:(List Int)):Option (List (Int)) :=
 (loopM (fun (s:((List Int)×((List Int)×((List Int)×(Int×Int)))))=>Cp s.1 s.2.1 s.2.2.1 s.2.2.2.1 s.2.2.2.2) ((List.nil:List Int),(a0,(a1,((0:Int),(0:Int)))))).bind fun x0 =>
 some x0
noncomputable def J6:Ent:=⟨GF,fun x=>Db x.1 x.2⟩
noncomputable def JM:TX:=⟨tyTab,codTab,[],[4],[Ea],GF⟩
set_option maxHeartbeats 2000000 in
theorem S0 (a0:List (Int)) (a1:List (Int)):wtF JM Tryz.f233 (a0,a1)=Db a0 a1:=by kernel_rfl
theorem Ry:EntOK RR J6:=Ab (X:=JM) ⟨tyOK,boolOK,eqOK⟩ (Ad (by exact ⟨⟨Ez,rfl⟩,trivial⟩)) (Af (by kernel_rfl)) ⟨Tryz.func233,rfl,by kernel_rfl,rfl⟩ (fun x=>by exact S0 x.1 x.2)
noncomputable def DB (s0:(List Int)) (s1:(List Int)) (s2:(List Int)) (s3:Int) (s4:Int) (s5:Int):Option (((List Int)×((List Int)×((List Int)×(Int×(Int×Int))))) ⊕ (List Int)) :=
 bif decide (s5<s4) then
  ((getI s1 s5)).bind fun x0 =>
  ((BQ s2 s5)).bind fun x1 =>
  bif decide ((Go.IntKind.wrap Go.IntKind.i64 ((Go.IntKind.wrap Go.IntKind.i64 (x0-x1))-s3))<(0:Int)) then
   ((appL 8 1 s0 (List.cons (Go.IntKind.wrap Go.IntKind.i64 ((Go.IntKind.wrap Go.IntKind.i64 ((Go.IntKind.wrap Go.IntKind.i64 (x0-x1))-s3)) + (65536:Int))) (List.nil:List Int)))).bind fun x2 =>
   some (Sum.inl (x2,(s1,(s2,((1:Int),(s4,(Go.IntKind.wrap Go.IntKind.i64 (s5 + (1:Int)))))))))
  else
  ((appL 8 1 s0 (List.cons (Go.IntKind.wrap Go.IntKind.i64 ((Go.IntKind.wrap Go.IntKind.i64 (x0-x1))-s3)) (List.nil:List Int)))).bind fun x3 =>
  some (Sum.inl (x3,(s1,(s2,((0:Int),(s4,(Go.IntKind.wrap Go.IntKind.i64 (s5 + (1:Int)))))))))
 else
 some (Sum.inr s0)
noncomputable def Cx (a0:(List Int)) (a1:(List Int)):Option (List (Int)) :=
 (loopM (fun (s:((List Int)×((List Int)×((List Int)×(Int×(Int×Int))))))=>DB s.1 s.2.1 s.2.2.1 s.2.2.2.1 s.2.2.2.2.1 s.2.2.2.2.2) ((List.nil:List Int),(a0,(a1,((0:Int),((((List.length a0):Nat):Int),(0:Int))))))).bind fun x0 =>
 ((Bw x0)).bind fun x1 =>
 some x1
noncomputable def KO:Ent:=⟨Hf,fun x=>Cx x.1 x.2⟩
noncomputable def Ky:TX:=⟨tyTab,codTab,[],[4],[Ea,EA],Hf⟩
set_option maxHeartbeats 2000000 in
theorem TV (a0:List (Int)) (a1:List (Int)):wtF Ky Tryz.f234 (a0,a1)=Cx a0 a1:=by kernel_rfl
theorem Rv:EntOK RR KO:=Ab (X:=Ky) ⟨tyOK,boolOK,eqOK⟩ (Ad (by exact ⟨⟨Ez,rfl⟩,⟨⟨D8,rfl⟩,trivial⟩⟩)) (Af (by kernel_rfl)) ⟨Tryz.func234,rfl,by kernel_rfl,rfl⟩ (fun x=>by exact TV x.1 x.2)
noncomputable def Im (a0:(Bool×(List Int))) (a1:(Bool×(List Int))):Option ((Bool×List (Int))) :=
 bif (a0.1==a1.1) then
  ((Db a0.2 a1.2)).bind fun x0 =>
  ((AE a0.1 x0)).bind fun x1 =>
  some (x1.2,x1.1)
 else
 ((BA a0.2 a1.2)).bind fun x2 =>
 bif decide (x2≥(0:Int)) then
  ((Cx a0.2 a1.2)).bind fun x3 =>
  ((AE a0.1 x3)).bind fun x4 =>
  some (x4.2,x4.1)
 else
 ((Cx a1.2 a0.2)).bind fun x5 =>
 ((AE a1.1 x5)).bind fun x6 =>
 some (x6.2,x6.1)
noncomputable def WD:Ent:=⟨OS,fun x=>Im x.1 x.2⟩
noncomputable def Wg:TX:=⟨tyTab,codTab,[],[4],[J6,CM,Ix,KO],OS⟩
set_option maxHeartbeats 2000000 in
theorem Au7 (a0:(Bool×List (Int))) (a1:(Bool×List (Int))):wtF Wg Tryz.f165 (a0,a1)=Im a0 a1:=by kernel_rfl
theorem Af6:EntOK RR WD:=Ab (X:=Wg) ⟨tyOK,boolOK,eqOK⟩ (Ad (by exact ⟨⟨Ry,rfl⟩,⟨⟨CC,rfl⟩,⟨⟨ID,rfl⟩,⟨⟨Rv,rfl⟩,trivial⟩⟩⟩⟩)) (Af (by kernel_rfl)) ⟨Tryz.func165,rfl,by kernel_rfl,rfl⟩ (fun x=>by exact Au7 x.1 x.2)
noncomputable def Ew (a0:(Bool×((List Int)×(Bool×(List Int))))) (a1:(Bool×((List Int)×(Bool×(List Int))))):Option ((Bool×List (Int)×Bool×List (Int))) :=
 ((BM (a0.1,a0.2.1) (a1.2.2.1,a1.2.2.2))).bind fun x0 =>
 ((BM (a1.1,a1.2.1) (a0.2.2.1,a0.2.2.2))).bind fun x1 =>
 ((Im (x0.1,x0.2) (x1.1,x1.2))).bind fun x2 =>
 ((BM (a0.2.2.1,a0.2.2.2) (a1.2.2.1,a1.2.2.2))).bind fun x3 =>
 ((CK (x2.1,x2.2) (x3.1,x3.2))).bind fun x4 =>
 some (x4.1,(x4.2.1,(x4.2.2.1,x4.2.2.2)))
noncomputable def H2:Ent:=⟨PL,fun x=>Ew x.1 x.2⟩
noncomputable def VM:TX:=⟨tyTab,codTab,[],[4],[Il,WD,Fh],PL⟩
set_option maxHeartbeats 2000000 in
theorem Ay2 (a0:(Bool×List (Int)×Bool×List (Int))) (a1:(Bool×List (Int)×Bool×List (Int))):wtF VM Tryz.f75 (a0,a1)=Ew a0 a1:=by kernel_rfl
theorem IE:EntOK RR H2:=Ab (X:=VM) ⟨tyOK,boolOK,eqOK⟩ (Ad (by exact ⟨⟨I9,rfl⟩,⟨⟨Af6,rfl⟩,⟨⟨FJ,rfl⟩,trivial⟩⟩⟩)) (Af (by kernel_rfl)) ⟨Tryz.func75,rfl,by kernel_rfl,rfl⟩ (fun x=>by exact Ay2 x.1 x.2)
noncomputable def Et (a0:(Bool×((List Int)×(Bool×(List Int))))) (a1:(Bool×((List Int)×(Bool×(List Int))))):Option ((Bool×List (Int)×Bool×List (Int))) :=
 ((Ih (a1.1,(a1.2.1,(a1.2.2.1,a1.2.2.2))))).bind fun x0 =>
 ((Ew (a0.1,(a0.2.1,(a0.2.2.1,a0.2.2.2))) (x0.1,(x0.2.1,(x0.2.2.1,x0.2.2.2))))).bind fun x1 =>
 some (x1.1,(x1.2.1,(x1.2.2.1,x1.2.2.2)))
noncomputable def LH:Ent:=⟨Pm,fun x=>Et x.1 x.2⟩
noncomputable def Ww:TX:=⟨tyTab,codTab,[],[4],[Wo,H2],Pm⟩
set_option maxHeartbeats 2000000 in
theorem As4 (a0:(Bool×List (Int)×Bool×List (Int))) (a1:(Bool×List (Int)×Bool×List (Int))):wtF Ww Tryz.f196 (a0,a1)=Et a0 a1:=by kernel_rfl
theorem MJ:EntOK RR LH:=Ab (X:=Ww) ⟨tyOK,boolOK,eqOK⟩ (Ad (by exact ⟨⟨Ad8,rfl⟩,⟨⟨IE,rfl⟩,trivial⟩⟩)) (Af (by kernel_rfl)) ⟨Tryz.func196,rfl,by kernel_rfl,rfl⟩ (fun x=>by exact As4 x.1 x.2)
noncomputable def Gi (a0:(Bool×((List Int)×(Bool×(List Int))))) (a1:(Bool×((List Int)×(Bool×(List Int))))):Option ((Bool×List (Int)×Bool×List (Int))) :=
 ((BM (a0.1,a0.2.1) (a1.2.2.1,a1.2.2.2))).bind fun x0 =>
 ((BM (a0.2.2.1,a0.2.2.2) (a1.1,a1.2.1))).bind fun x1 =>
 ((CK (x0.1,x0.2) (x1.1,x1.2))).bind fun x2 =>
 some (x2.1,(x2.2.1,(x2.2.2.1,x2.2.2.2)))
noncomputable def Pp:Ent:=⟨Pk,fun x=>Gi x.1 x.2⟩
noncomputable def Wn:TX:=⟨tyTab,codTab,[],[4],[Il,Fh],Pk⟩
set_option maxHeartbeats 2000000 in
theorem As1 (a0:(Bool×List (Int)×Bool×List (Int))) (a1:(Bool×List (Int)×Bool×List (Int))):wtF Wn Tryz.f251 (a0,a1)=Gi a0 a1:=by kernel_rfl
theorem TW:EntOK RR Pp:=Ab (X:=Wn) ⟨tyOK,boolOK,eqOK⟩ (Ad (by exact ⟨⟨I9,rfl⟩,⟨⟨FJ,rfl⟩,trivial⟩⟩)) (Af (by kernel_rfl)) ⟨Tryz.func251,rfl,by kernel_rfl,rfl⟩ (fun x=>by exact As1 x.1 x.2)
noncomputable def Fe (a0:(Bool×((List Int)×(Bool×(List Int))))) (a1:(Bool×((List Int)×(Bool×(List Int))))):Option ((Bool×List (Int)×Bool×List (Int))) :=
 ((BM (a0.1,a0.2.1) (a1.1,a1.2.1))).bind fun x0 =>
 ((BM (a0.2.2.1,a0.2.2.2) (a1.2.2.1,a1.2.2.2))).bind fun x1 =>
 ((CK (x0.1,x0.2) (x1.1,x1.2))).bind fun x2 =>
 some (x2.1,(x2.2.1,(x2.2.2.1,x2.2.2.2)))
noncomputable def Pj:Ent:=⟨Pr,fun x=>Fe x.1 x.2⟩
noncomputable def Vy:TX:=⟨tyTab,codTab,[],[4],[Il,Fh],Pr⟩
set_option maxHeartbeats 2000000 in
theorem As5 (a0:(Bool×List (Int)×Bool×List (Int))) (a1:(Bool×List (Int)×Bool×List (Int))):wtF Vy Tryz.f197 (a0,a1)=Fe a0 a1:=by kernel_rfl
theorem Tf:EntOK RR Pj:=Ab (X:=Vy) ⟨tyOK,boolOK,eqOK⟩ (Ad (by exact ⟨⟨I9,rfl⟩,⟨⟨FJ,rfl⟩,trivial⟩⟩)) (Af (by kernel_rfl)) ⟨Tryz.func197,rfl,by kernel_rfl,rfl⟩ (fun x=>by exact As5 x.1 x.2)
noncomputable def Es (a0:(Bool×((List Int)×(Bool×(List Int))))) (a1:(Bool×((List Int)×(Bool×(List Int))))) (a2:(Bool×((List Int)×(Bool×(List Int))))):Option ((Bool×List (Int)×Bool×List (Int))) :=
 ((Et (a1.1,(a1.2.1,(a1.2.2.1,a1.2.2.2))) (a0.1,(a0.2.1,(a0.2.2.1,a0.2.2.2))))).bind fun x0 =>
 ((Fe (a2.1,(a2.2.1,(a2.2.2.1,a2.2.2.2))) (x0.1,(x0.2.1,(x0.2.2.1,x0.2.2.2))))).bind fun x1 =>
 ((Ew (a0.1,(a0.2.1,(a0.2.2.1,a0.2.2.2))) (x1.1,(x1.2.1,(x1.2.2.1,x1.2.2.2))))).bind fun x2 =>
 some (x2.1,(x2.2.1,(x2.2.2.1,x2.2.2.2)))
noncomputable def Rl:Ent:=⟨Lh,fun x=>Es x.1 x.2.1 x.2.2⟩
noncomputable def Qu:TX:=⟨tyTab,codTab,[],[4],[LH,Pj,H2],Lh⟩
set_option maxHeartbeats 2000000 in
theorem Za (a0:(Bool×List (Int)×Bool×List (Int))) (a1:(Bool×List (Int)×Bool×List (Int))) (a2:(Bool×List (Int)×Bool×List (Int))):wtF Qu Tryz.f198 (a0,a1,a2)=Es a0 a1 a2:=by kernel_rfl
theorem X9:EntOK RR Rl:=Ab (X:=Qu) ⟨tyOK,boolOK,eqOK⟩ (Ad (by exact ⟨⟨MJ,rfl⟩,⟨⟨Tf,rfl⟩,⟨⟨IE,rfl⟩,trivial⟩⟩⟩)) (Af (by kernel_rfl)) ⟨Tryz.func198,rfl,by kernel_rfl,rfl⟩ (fun x=>by exact Za x.1 x.2.1 x.2.2)
noncomputable def GH (a0:(Bool×((List Int)×(Bool×((List Int)×(Bool×((List Int)×(Bool×(List Int))))))))) (a1:(Bool×((List Int)×(Bool×((List Int)×(Bool×((List Int)×(Bool×(List Int))))))))) (a2:(Bool×((List Int)×(Bool×(List Int))))):Option ((Bool×List (Int)×Bool×List (Int)×Bool×List (Int)×Bool×List (Int))) :=
 ((Es (a0.1,(a0.2.1,(a0.2.2.1,a0.2.2.2.1))) (a1.1,(a1.2.1,(a1.2.2.1,a1.2.2.2.1))) (a2.1,(a2.2.1,(a2.2.2.1,a2.2.2.2))))).bind fun x0 =>
 ((Es (a0.2.2.2.2.1,(a0.2.2.2.2.2.1,(a0.2.2.2.2.2.2.1,a0.2.2.2.2.2.2.2))) (a1.2.2.2.2.1,(a1.2.2.2.2.2.1,(a1.2.2.2.2.2.2.1,a1.2.2.2.2.2.2.2))) (a2.1,(a2.2.1,(a2.2.2.1,a2.2.2.2))))).bind fun x1 =>
 some (x0.1,(x0.2.1,(x0.2.2.1,(x0.2.2.2,(x1.1,(x1.2.1,(x1.2.2.1,x1.2.2.2)))))))
noncomputable def S9:Ent:=⟨MH,fun x=>GH x.1 x.2.1 x.2.2⟩
noncomputable def SD:TX:=⟨tyTab,codTab,[],[4],[Rl],MH⟩
set_option maxHeartbeats 2000000 in
theorem Ah8 (a0:(Bool×List (Int)×Bool×List (Int)×Bool×List (Int)×Bool×List (Int))) (a1:(Bool×List (Int)×Bool×List (Int)×Bool×List (Int)×Bool×List (Int))) (a2:(Bool×List (Int)×Bool×List (Int))):wtF SD Tryz.f131 (a0,a1,a2)=GH a0 a1 a2:=by kernel_rfl
theorem YL:EntOK RR S9:=Ab (X:=SD) ⟨tyOK,boolOK,eqOK⟩ (Ad (by exact ⟨⟨X9,rfl⟩,trivial⟩)) (Af (by kernel_rfl)) ⟨Tryz.func131,rfl,by kernel_rfl,rfl⟩ (fun x=>by exact Ah8 x.1 x.2.1 x.2.2)
noncomputable def G4 (a0:(Bool×((List Int)×(Bool×((List Int)×(Bool×((List Int)×(Bool×(List Int))))))))) (a1:(Bool×((List Int)×(Bool×((List Int)×(Bool×((List Int)×(Bool×(List Int))))))))) (a2:Bool) (a3:(Bool×((List Int)×(Bool×(List Int))))):Option ((Bool×List (Int)×Bool×List (Int)×Bool×List (Int)×Bool×List (Int))) :=
 ((Dy (a0.1,(a0.2.1,(a0.2.2.1,(a0.2.2.2.1,(a0.2.2.2.2.1,(a0.2.2.2.2.2.1,(a0.2.2.2.2.2.2.1,a0.2.2.2.2.2.2.2))))))) a2)).bind fun x0 =>
 ((Et (a3.1,(a3.2.1,(a3.2.2.1,a3.2.2.2))) (x0.1,(x0.2.1,(x0.2.2.1,x0.2.2.2))))).bind fun x1 =>
 ((Dy (a1.1,(a1.2.1,(a1.2.2.1,(a1.2.2.2.1,(a1.2.2.2.2.1,(a1.2.2.2.2.2.1,(a1.2.2.2.2.2.2.1,a1.2.2.2.2.2.2.2))))))) a2)).bind fun x2 =>
 ((Et (x2.1,(x2.2.1,(x2.2.2.1,x2.2.2.2))) (x0.1,(x0.2.1,(x0.2.2.1,x0.2.2.2))))).bind fun x3 =>
 ((Gi (x1.1,(x1.2.1,(x1.2.2.1,x1.2.2.2))) (x3.1,(x3.2.1,(x3.2.2.1,x3.2.2.2))))).bind fun x4 =>
 ((GH (a0.1,(a0.2.1,(a0.2.2.1,(a0.2.2.2.1,(a0.2.2.2.2.1,(a0.2.2.2.2.2.1,(a0.2.2.2.2.2.2.1,a0.2.2.2.2.2.2.2))))))) (a1.1,(a1.2.1,(a1.2.2.1,(a1.2.2.2.1,(a1.2.2.2.2.1,(a1.2.2.2.2.2.1,(a1.2.2.2.2.2.2.1,a1.2.2.2.2.2.2.2))))))) (x4.1,(x4.2.1,(x4.2.2.1,x4.2.2.2))))).bind fun x5 =>
 bif a2 then
  some (x5.1,(x5.2.1,(x5.2.2.1,(x5.2.2.2.1,(a3.1,(a3.2.1,(a3.2.2.1,a3.2.2.2)))))))
 else
 some (a3.1,(a3.2.1,(a3.2.2.1,(a3.2.2.2,(x5.2.2.2.2.1,(x5.2.2.2.2.2.1,(x5.2.2.2.2.2.2.1,x5.2.2.2.2.2.2.2)))))))
noncomputable def Sm:Ent:=⟨MS,fun x=>G4 x.1 x.2.1 x.2.2.1 x.2.2.2⟩
noncomputable def Uz:TX:=⟨tyTab,codTab,[],[4],[IV,LH,Pp,S9],MS⟩
set_option maxHeartbeats 2000000 in
theorem Ah2 (a0:(Bool×List (Int)×Bool×List (Int)×Bool×List (Int)×Bool×List (Int))) (a1:(Bool×List (Int)×Bool×List (Int)×Bool×List (Int)×Bool×List (Int))) (a2:Bool) (a3:(Bool×List (Int)×Bool×List (Int))):wtF Uz Tryz.f240 (a0,a1,a2,a3)=G4 a0 a1 a2 a3:=by kernel_rfl
theorem YF:EntOK RR Sm:=Ab (X:=Uz) ⟨tyOK,boolOK,eqOK⟩ (Ad (by exact ⟨⟨Mg,rfl⟩,⟨⟨MJ,rfl⟩,⟨⟨TW,rfl⟩,⟨⟨YL,rfl⟩,trivial⟩⟩⟩⟩)) (Af (by kernel_rfl)) ⟨Tryz.func240,rfl,by kernel_rfl,rfl⟩ (fun x=>by exact Ah2 x.1 x.2.1 x.2.2.1 x.2.2.2)
noncomputable def BH (s0:(Bool×((List Int)×(Bool×(List Int))))) (s1:(List (((Bool×(List Int))×(Bool×(List Int)))×((Bool×(List Int))×(Bool×(List Int)))))) (s2:(List (((Bool×(List Int))×(Bool×(List Int)))×((Bool×(List Int))×(Bool×(List Int)))))) (s3:Bool) (s4:Bool) (s5:(List (((Bool×(List Int))×(Bool×(List Int)))×((Bool×(List Int))×(Bool×(List Int)))))) (s6:Int) (s7:Int):Option (((Bool×((List Int)×(Bool×(List Int))))×((List (((Bool×(List Int))×(Bool×(List Int)))×((Bool×(List Int))×(Bool×(List Int)))))×((List (((Bool×(List Int))×(Bool×(List Int)))×((Bool×(List Int))×(Bool×(List Int)))))×(Bool×(Bool×((List (((Bool×(List Int))×(Bool×(List Int)))×((Bool×(List Int))×(Bool×(List Int)))))×(Int×Int))))))) ⊕ (List (((Bool×(List Int))×(Bool×(List Int)))×((Bool×(List Int))×(Bool×(List Int)))))) :=
 bif decide (s7<s6) then
  ((getI s5 s7)).bind fun x0 =>
  bif ((((List.length s2):Nat):Int)==(0:Int)) then
   none
  else
  ((getI s2 (Int.tmod (Go.IntKind.wrap Go.IntKind.i64 ((Go.IntKind.wrap Go.IntKind.i64 (s7 + (((List.length s2):Nat):Int)))-(1:Int))) (((List.length s2):Nat):Int)))).bind fun x1 =>
  ((El (x1.1.1.1,(x1.1.1.2,(x1.1.2.1,(x1.1.2.2,(x1.2.1.1,(x1.2.1.2,(x1.2.2.1,x1.2.2.2))))))) s3 (s0.1,(s0.2.1,(s0.2.2.1,s0.2.2.2))) s4)).bind fun x2 =>
  ((El (x0.1.1.1,(x0.1.1.2,(x0.1.2.1,(x0.1.2.2,(x0.2.1.1,(x0.2.1.2,(x0.2.2.1,x0.2.2.2))))))) s3 (s0.1,(s0.2.1,(s0.2.2.1,s0.2.2.2))) s4)).bind fun x3 =>
  bif (!(decide (x2≤(0:Int))==decide (x3≤(0:Int)))) then
   ((G4 (x1.1.1.1,(x1.1.1.2,(x1.1.2.1,(x1.1.2.2,(x1.2.1.1,(x1.2.1.2,(x1.2.2.1,x1.2.2.2))))))) (x0.1.1.1,(x0.1.1.2,(x0.1.2.1,(x0.1.2.2,(x0.2.1.1,(x0.2.1.2,(x0.2.2.1,x0.2.2.2))))))) s3 (s0.1,(s0.2.1,(s0.2.2.1,s0.2.2.2))))).bind fun x4 =>
   ((appL 128 8 s1 (List.cons (((x4.1,x4.2.1),(x4.2.2.1,x4.2.2.2.1)),((x4.2.2.2.2.1,x4.2.2.2.2.2.1),(x4.2.2.2.2.2.2.1,x4.2.2.2.2.2.2.2))) (List.nil:List (((Bool×(List Int))×(Bool×(List Int)))×((Bool×(List Int))×(Bool×(List Int)))))))).bind fun x5 =>
   bif decide (x3≤(0:Int)) then
    ((appL 128 8 x5 (List.cons (((x0.1.1.1,x0.1.1.2),(x0.1.2.1,x0.1.2.2)),((x0.2.1.1,x0.2.1.2),(x0.2.2.1,x0.2.2.2))) (List.nil:List (((Bool×(List Int))×(Bool×(List Int)))×((Bool×(List Int))×(Bool×(List Int)))))))).bind fun x6 =>
    some (Sum.inl ((s0.1,(s0.2.1,(s0.2.2.1,s0.2.2.2))),(x6,(s2,(s3,(s4,(s5,(s6,(Go.IntKind.wrap Go.IntKind.i64 (s7 + (1:Int)))))))))))
   else
   some (Sum.inl ((s0.1,(s0.2.1,(s0.2.2.1,s0.2.2.2))),(x5,(s2,(s3,(s4,(s5,(s6,(Go.IntKind.wrap Go.IntKind.i64 (s7 + (1:Int)))))))))))
  else
  bif decide (x3≤(0:Int)) then
   ((appL 128 8 s1 (List.cons (((x0.1.1.1,x0.1.1.2),(x0.1.2.1,x0.1.2.2)),((x0.2.1.1,x0.2.1.2),(x0.2.2.1,x0.2.2.2))) (List.nil:List (((Bool×(List Int))×(Bool×(List Int)))×((Bool×(List Int))×(Bool×(List Int)))))))).bind fun x7 =>
   some (Sum.inl ((s0.1,(s0.2.1,(s0.2.2.1,s0.2.2.2))),(x7,(s2,(s3,(s4,(s5,(s6,(Go.IntKind.wrap Go.IntKind.i64 (s7 + (1:Int)))))))))))
  else
  some (Sum.inl ((s0.1,(s0.2.1,(s0.2.2.1,s0.2.2.2))),(s1,(s2,(s3,(s4,(s5,(s6,(Go.IntKind.wrap Go.IntKind.i64 (s7 + (1:Int)))))))))))
 else
 some (Sum.inr s1)
noncomputable def CB (a0:(List (((Bool×(List Int))×(Bool×(List Int)))×((Bool×(List Int))×(Bool×(List Int)))))) (a1:Bool) (a2:(Bool×((List Int)×(Bool×(List Int))))) (a3:Bool):Option (List ((((Bool×List (Int))×(Bool×List (Int)))×((Bool×List (Int))×(Bool×List (Int)))))) :=
 (loopM (fun (s:((Bool×((List Int)×(Bool×(List Int))))×((List (((Bool×(List Int))×(Bool×(List Int)))×((Bool×(List Int))×(Bool×(List Int)))))×((List (((Bool×(List Int))×(Bool×(List Int)))×((Bool×(List Int))×(Bool×(List Int)))))×(Bool×(Bool×((List (((Bool×(List Int))×(Bool×(List Int)))×((Bool×(List Int))×(Bool×(List Int)))))×(Int×Int))))))))=>BH s.1 s.2.1 s.2.2.1 s.2.2.2.1 s.2.2.2.2.1 s.2.2.2.2.2.1 s.2.2.2.2.2.2.1 s.2.2.2.2.2.2.2) ((a2.1,(a2.2.1,(a2.2.2.1,a2.2.2.2))),((List.nil:List (((Bool×(List Int))×(Bool×(List Int)))×((Bool×(List Int))×(Bool×(List Int))))),(a0,(a1,(a3,(a0,((((List.length a0):Nat):Int),(0:Int))))))))).bind fun x0 =>
 some x0
noncomputable def QU:Ent:=⟨Lg,fun x=>CB x.1 x.2.1 x.2.2.1 x.2.2.2⟩
noncomputable def Qf:TX:=⟨tyTab,codTab,[],[4],[QD,Sm],Lg⟩
set_option maxHeartbeats 2000000 in
theorem Yq (a0:List ((((Bool×List (Int))×(Bool×List (Int)))×((Bool×List (Int))×(Bool×List (Int)))))) (a1:Bool) (a2:(Bool×List (Int)×Bool×List (Int))) (a3:Bool):wtF Qf Tryz.f175 (a0,a1,a2,a3)=CB a0 a1 a2 a3:=by kernel_rfl
theorem XH:EntOK RR QU:=Ab (X:=Qf) ⟨tyOK,boolOK,eqOK⟩ (Ad (by exact ⟨⟨XV,rfl⟩,⟨⟨YF,rfl⟩,trivial⟩⟩)) (Af (by kernel_rfl)) ⟨Tryz.func175,rfl,by kernel_rfl,rfl⟩ (fun x=>by exact Yq x.1 x.2.1 x.2.2.1 x.2.2.2)
noncomputable def GN (a0:(List (((Bool×(List Int))×(Bool×(List Int)))×((Bool×(List Int))×(Bool×(List Int)))))) (a1:(Bool×((List Int)×(Bool×((List Int)×(Bool×((List Int)×(Bool×(List Int))))))))) (a2:(Bool×((List Int)×(Bool×((List Int)×(Bool×((List Int)×(Bool×(List Int))))))))):Option (List ((((Bool×List (Int))×(Bool×List (Int)))×((Bool×List (Int))×(Bool×List (Int)))))) :=
 ((CB a0 false (a1.1,(a1.2.1,(a1.2.2.1,a1.2.2.2.1))) true)).bind fun x0 =>
 ((CB x0 false (a2.1,(a2.2.1,(a2.2.2.1,a2.2.2.2.1))) false)).bind fun x1 =>
 ((CB x1 true (a1.2.2.2.2.1,(a1.2.2.2.2.2.1,(a1.2.2.2.2.2.2.1,a1.2.2.2.2.2.2.2))) true)).bind fun x2 =>
 ((CB x2 true (a2.2.2.2.2.1,(a2.2.2.2.2.2.1,(a2.2.2.2.2.2.2.1,a2.2.2.2.2.2.2.2))) false)).bind fun x3 =>
 some x3
noncomputable def Sb:Ent:=⟨MM,fun x=>GN x.1 x.2.1 x.2.2⟩
noncomputable def Sk:TX:=⟨tyTab,codTab,[],[4],[QU],MM⟩
set_option maxHeartbeats 2000000 in
theorem Ab4 (a0:List ((((Bool×List (Int))×(Bool×List (Int)))×((Bool×List (Int))×(Bool×List (Int)))))) (a1:(Bool×List (Int)×Bool×List (Int)×Bool×List (Int)×Bool×List (Int))) (a2:(Bool×List (Int)×Bool×List (Int)×Bool×List (Int)×Bool×List (Int))):wtF Sk Tryz.f87 (a0,a1,a2)=GN a0 a1 a2:=by kernel_rfl
theorem Aa9:EntOK RR Sb:=Ab (X:=Sk) ⟨tyOK,boolOK,eqOK⟩ (Ad (by exact ⟨⟨XH,rfl⟩,trivial⟩)) (Af (by kernel_rfl)) ⟨Tryz.func87,rfl,by kernel_rfl,rfl⟩ (fun x=>by exact Ab4 x.1 x.2.1 x.2.2)
noncomputable def CN (a0:(Bool×((List Int)×(Bool×(List Int))))):Option ((Bool×List (Int)×Bool×List (Int))×Bool) :=
 bif decide ((((List.length a0.2.1):Nat):Int)>(40:Int)) then
  some ((false,((List.nil:List Int),(false,(List.nil:List Int)))),false)
 else
 bif decide ((((List.length a0.2.2.2):Nat):Int)>(40:Int)) then
  some ((false,((List.nil:List Int),(false,(List.nil:List Int)))),false)
 else
 ((AE a0.1 a0.2.1)).bind fun x0 =>
 ((AE false a0.2.2.2)).bind fun x1 =>
 some ((x0.2,(x0.1,(x1.2,x1.1))),true)
noncomputable def Jf:Ent:=⟨MG,fun x=>CN x⟩
noncomputable def Sf:TX:=⟨tyTab,codTab,[],[4],[CM],MG⟩
set_option maxHeartbeats 2000000 in
theorem Ah3 (a0:(Bool×List (Int)×Bool×List (Int))):wtF Sf Tryz.f127 (a0)=CN a0:=by kernel_rfl
theorem J8:EntOK RR Jf:=Ab (X:=Sf) ⟨tyOK,boolOK,eqOK⟩ (Ad (by exact ⟨⟨CC,rfl⟩,trivial⟩)) (Af (by kernel_rfl)) ⟨Tryz.func127,rfl,by kernel_rfl,rfl⟩ (fun x=>by exact Ah3 x)
noncomputable def FK (a0:(Bool×((List Int)×(Bool×((List Int)×(Bool×((List Int)×(Bool×(List Int))))))))):Option ((Bool×List (Int)×Bool×List (Int)×Bool×List (Int)×Bool×List (Int))×Bool) :=
 ((CN (a0.1,(a0.2.1,(a0.2.2.1,a0.2.2.2.1))))).bind fun x0 =>
 ((CN (a0.2.2.2.2.1,(a0.2.2.2.2.2.1,(a0.2.2.2.2.2.2.1,a0.2.2.2.2.2.2.2))))).bind fun x1 =>
 bif (!x0.2) then
  some ((false,((List.nil:List Int),(false,((List.nil:List Int),(false,((List.nil:List Int),(false,(List.nil:List Int)))))))),false)
 else
 bif (!x1.2) then
  some ((false,((List.nil:List Int),(false,((List.nil:List Int),(false,((List.nil:List Int),(false,(List.nil:List Int)))))))),false)
 else
 some ((x0.1.1,(x0.1.2.1,(x0.1.2.2.1,(x0.1.2.2.2,(x1.1.1,(x1.1.2.1,(x1.1.2.2.1,x1.1.2.2.2))))))),true)
noncomputable def QQ:Ent:=⟨Kv,fun x=>FK x⟩
noncomputable def QG:TX:=⟨tyTab,codTab,[],[4],[Jf],Kv⟩
set_option maxHeartbeats 2000000 in
theorem ZA (a0:(Bool×List (Int)×Bool×List (Int)×Bool×List (Int)×Bool×List (Int))):wtF QG Tryz.f115 (a0)=FK a0:=by kernel_rfl
theorem XI:EntOK RR QQ:=Ab (X:=QG) ⟨tyOK,boolOK,eqOK⟩ (Ad (by exact ⟨⟨J8,rfl⟩,trivial⟩)) (Af (by kernel_rfl)) ⟨Tryz.func115,rfl,by kernel_rfl,rfl⟩ (fun x=>by exact ZA x)
noncomputable def CL (s0:(List (((Bool×(List Int))×(Bool×(List Int)))×((Bool×(List Int))×(Bool×(List Int)))))) (s1:(List (((Bool×(List Int))×(Bool×(List Int)))×((Bool×(List Int))×(Bool×(List Int)))))) (s2:Int) (s3:Int):Option (((List (((Bool×(List Int))×(Bool×(List Int)))×((Bool×(List Int))×(Bool×(List Int)))))×((List (((Bool×(List Int))×(Bool×(List Int)))×((Bool×(List Int))×(Bool×(List Int)))))×(Int×Int))) ⊕ ((List (((Bool×(List Int))×(Bool×(List Int)))×((Bool×(List Int))×(Bool×(List Int))))) ⊕ ((List (((Bool×(List Int))×(Bool×(List Int)))×((Bool×(List Int))×(Bool×(List Int)))))×Bool))) :=
 bif decide (s3<s2) then
  ((getI s1 s3)).bind fun x0 =>
  ((FK (x0.1.1.1,(x0.1.1.2,(x0.1.2.1,(x0.1.2.2,(x0.2.1.1,(x0.2.1.2,(x0.2.2.1,x0.2.2.2))))))))).bind fun x1 =>
  bif (!x1.2) then
   some (Sum.inr (Sum.inr ((List.nil:List (((Bool×(List Int))×(Bool×(List Int)))×((Bool×(List Int))×(Bool×(List Int))))),false)))
  else
  ((appL 128 8 s0 (List.cons (((x1.1.1,x1.1.2.1),(x1.1.2.2.1,x1.1.2.2.2.1)),((x1.1.2.2.2.2.1,x1.1.2.2.2.2.2.1),(x1.1.2.2.2.2.2.2.1,x1.1.2.2.2.2.2.2.2))) (List.nil:List (((Bool×(List Int))×(Bool×(List Int)))×((Bool×(List Int))×(Bool×(List Int)))))))).bind fun x2 =>
  some (Sum.inl (x2,(s1,(s2,(Go.IntKind.wrap Go.IntKind.i64 (s3 + (1:Int)))))))
 else
 some (Sum.inr (Sum.inl s0))
noncomputable def GS (a0:(List (((Bool×(List Int))×(Bool×(List Int)))×((Bool×(List Int))×(Bool×(List Int)))))):Option (List ((((Bool×List (Int))×(Bool×List (Int)))×((Bool×List (Int))×(Bool×List (Int)))))×Bool) :=
 (loopM (fun (s:((List (((Bool×(List Int))×(Bool×(List Int)))×((Bool×(List Int))×(Bool×(List Int)))))×((List (((Bool×(List Int))×(Bool×(List Int)))×((Bool×(List Int))×(Bool×(List Int)))))×(Int×Int))))=>CL s.1 s.2.1 s.2.2.1 s.2.2.2) ((List.nil:List (((Bool×(List Int))×(Bool×(List Int)))×((Bool×(List Int))×(Bool×(List Int))))),(a0,((((List.length a0):Nat):Int),(0:Int))))).bind fun x0 =>
 Sum.elim
  (fun x1 =>
  some (x1,true))
  (fun x2 =>
  some (x2.1,x2.2))
  x0
noncomputable def SG:Ent:=⟨Mt,fun x=>GS x⟩
noncomputable def T9:TX:=⟨tyTab,codTab,[],[4],[QQ],Mt⟩
set_option maxHeartbeats 2000000 in
theorem Ah0 (a0:List ((((Bool×List (Int))×(Bool×List (Int)))×((Bool×List (Int))×(Bool×List (Int)))))):wtF T9 Tryz.f112 (a0)=GS a0:=by kernel_rfl
theorem ZG:EntOK RR SG:=Ab (X:=T9) ⟨tyOK,boolOK,eqOK⟩ (Ad (by exact ⟨⟨XI,rfl⟩,trivial⟩)) (Af (by kernel_rfl)) ⟨Tryz.func112,rfl,by kernel_rfl,rfl⟩ (fun x=>by exact Ah0 x)
noncomputable def FR (a0:(List (((Bool×(List Int))×(Bool×(List Int)))×((Bool×(List Int))×(Bool×(List Int)))))):Option (List ((((Bool×List (Int))×(Bool×List (Int)))×((Bool×List (Int))×(Bool×List (Int)))))×Bool) :=
 ((DA a0)).bind fun x0 =>
 bif (!x0) then
  some ((List.nil:List (((Bool×(List Int))×(Bool×(List Int)))×((Bool×(List Int))×(Bool×(List Int))))),false)
 else
 ((GS a0)).bind fun x1 =>
 some (x1.1,x1.2)
noncomputable def Qv:Ent:=⟨JV,fun x=>FR x⟩
noncomputable def Q6:TX:=⟨tyTab,codTab,[],[4],[IQ,SG],JV⟩
set_option maxHeartbeats 2000000 in
theorem YI (a0:List ((((Bool×List (Int))×(Bool×List (Int)))×((Bool×List (Int))×(Bool×List (Int)))))):wtF Q6 Tryz.f86 (a0)=FR a0:=by kernel_rfl
theorem XS:EntOK RR Qv:=Ab (X:=Q6) ⟨tyOK,boolOK,eqOK⟩ (Ad (by exact ⟨⟨Ma,rfl⟩,⟨⟨ZG,rfl⟩,trivial⟩⟩)) (Af (by kernel_rfl)) ⟨Tryz.func86,rfl,by kernel_rfl,rfl⟩ (fun x=>by exact YI x)
noncomputable def A9 (a0:(List (((Bool×(List Int))×(Bool×(List Int)))×((Bool×(List Int))×(Bool×(List Int)))))) (a1:(Bool×((List Int)×(Bool×((List Int)×(Bool×((List Int)×(Bool×(List Int))))))))) (a2:(Bool×((List Int)×(Bool×((List Int)×(Bool×((List Int)×(Bool×(List Int))))))))):Option (List ((((Bool×List (Int))×(Bool×List (Int)))×((Bool×List (Int))×(Bool×List (Int)))))×Bool) :=
 ((DA a0)).bind fun x0 =>
 bif (!x0) then
  some ((List.nil:List (((Bool×(List Int))×(Bool×(List Int)))×((Bool×(List Int))×(Bool×(List Int))))),false)
 else
 ((Gr (a1.1,(a1.2.1,(a1.2.2.1,(a1.2.2.2.1,(a1.2.2.2.2.1,(a1.2.2.2.2.2.1,(a1.2.2.2.2.2.2.1,a1.2.2.2.2.2.2.2))))))))).bind fun x1 =>
 bif (!x1) then
  some ((List.nil:List (((Bool×(List Int))×(Bool×(List Int)))×((Bool×(List Int))×(Bool×(List Int))))),false)
 else
 ((Gr (a2.1,(a2.2.1,(a2.2.2.1,(a2.2.2.2.1,(a2.2.2.2.2.1,(a2.2.2.2.2.2.1,(a2.2.2.2.2.2.2.1,a2.2.2.2.2.2.2.2))))))))).bind fun x2 =>
 bif (!x2) then
  some ((List.nil:List (((Bool×(List Int))×(Bool×(List Int)))×((Bool×(List Int))×(Bool×(List Int))))),false)
 else
 ((Fl (a1.1,(a1.2.1,(a1.2.2.1,a1.2.2.2.1))) (a2.1,(a2.2.1,(a2.2.2.1,a2.2.2.2.1))))).bind fun x3 =>
 bif decide (x3>(0:Int)) then
  some ((List.nil:List (((Bool×(List Int))×(Bool×(List Int)))×((Bool×(List Int))×(Bool×(List Int))))),false)
 else
 ((Fl (a1.2.2.2.2.1,(a1.2.2.2.2.2.1,(a1.2.2.2.2.2.2.1,a1.2.2.2.2.2.2.2))) (a2.2.2.2.2.1,(a2.2.2.2.2.2.1,(a2.2.2.2.2.2.2.1,a2.2.2.2.2.2.2.2))))).bind fun x4 =>
 bif decide (x4>(0:Int)) then
  some ((List.nil:List (((Bool×(List Int))×(Bool×(List Int)))×((Bool×(List Int))×(Bool×(List Int))))),false)
 else
 ((GN a0 (a1.1,(a1.2.1,(a1.2.2.1,(a1.2.2.2.1,(a1.2.2.2.2.1,(a1.2.2.2.2.2.1,(a1.2.2.2.2.2.2.1,a1.2.2.2.2.2.2.2))))))) (a2.1,(a2.2.1,(a2.2.2.1,(a2.2.2.2.1,(a2.2.2.2.2.1,(a2.2.2.2.2.2.1,(a2.2.2.2.2.2.2.1,a2.2.2.2.2.2.2.2))))))))).bind fun x5 =>
 ((FR x5)).bind fun x6 =>
 some (x6.1,x6.2)
noncomputable def P3:Ent:=⟨JZ,fun x=>A9 x.1 x.2.1 x.2.2⟩
noncomputable def QW:TX:=⟨tyTab,codTab,[],[4],[IQ,Wr,PH,Sb,Qv],JZ⟩
set_option maxHeartbeats 2000000 in
theorem Ze (a0:List ((((Bool×List (Int))×(Bool×List (Int)))×((Bool×List (Int))×(Bool×List (Int)))))) (a1:(Bool×List (Int)×Bool×List (Int)×Bool×List (Int)×Bool×List (Int))) (a2:(Bool×List (Int)×Bool×List (Int)×Bool×List (Int)×Bool×List (Int))):wtF QW Tryz.f10 (a0,a1,a2)=A9 a0 a1 a2:=by kernel_rfl
theorem Yb:EntOK RR P3:=Ab (X:=QW) ⟨tyOK,boolOK,eqOK⟩ (Ad (by exact ⟨⟨Ma,rfl⟩,⟨⟨Af0,rfl⟩,⟨⟨UK,rfl⟩,⟨⟨Aa9,rfl⟩,⟨⟨XS,rfl⟩,trivial⟩⟩⟩⟩⟩)) (Af (by kernel_rfl)) ⟨Tryz.func10,rfl,by kernel_rfl,rfl⟩ (fun x=>by exact Ze x.1 x.2.1 x.2.2)
noncomputable def AY (s0:(Bool×((List Int)×(Bool×(List Int))))) (s1:(Bool×((List Int)×(Bool×(List Int))))) (s2:(List (((Bool×(List Int))×(Bool×(List Int)))×((Bool×(List Int))×(Bool×(List Int)))))) (s3:(List (((Bool×(List Int))×(Bool×(List Int)))×((Bool×(List Int))×(Bool×(List Int)))))) (s4:Int) (s5:Int):Option (((Bool×((List Int)×(Bool×(List Int))))×((Bool×((List Int)×(Bool×(List Int))))×((List (((Bool×(List Int))×(Bool×(List Int)))×((Bool×(List Int))×(Bool×(List Int)))))×((List (((Bool×(List Int))×(Bool×(List Int)))×((Bool×(List Int))×(Bool×(List Int)))))×(Int×Int))))) ⊕ ((Bool×((List Int)×(Bool×(List Int))))×(Bool×((List Int)×(Bool×(List Int)))))) :=
 bif decide (s5<s4) then
  ((getI s3 s5)).bind fun x0 =>
  bif ((((List.length s2):Nat):Int)==(0:Int)) then
   none
  else
  ((getI s2 (Int.tmod (Go.IntKind.wrap Go.IntKind.i64 (s5 + (1:Int))) (((List.length s2):Nat):Int)))).bind fun x1 =>
  ((Fe (x0.1.1.1,(x0.1.1.2,(x0.1.2.1,x0.1.2.2))) (x1.2.1.1,(x1.2.1.2,(x1.2.2.1,x1.2.2.2))))).bind fun x2 =>
  ((Fe (x1.1.1.1,(x1.1.1.2,(x1.1.2.1,x1.1.2.2))) (x0.2.1.1,(x0.2.1.2,(x0.2.2.1,x0.2.2.2))))).bind fun x3 =>
  ((Et (x2.1,(x2.2.1,(x2.2.2.1,x2.2.2.2))) (x3.1,(x3.2.1,(x3.2.2.1,x3.2.2.2))))).bind fun x4 =>
  ((Ew (s1.1,(s1.2.1,(s1.2.2.1,s1.2.2.2))) (x4.1,(x4.2.1,(x4.2.2.1,x4.2.2.2))))).bind fun x5 =>
  some (Sum.inl ((s0.1,(s0.2.1,(s0.2.2.1,s0.2.2.2))),((x5.1,(x5.2.1,(x5.2.2.1,x5.2.2.2))),(s2,(s3,(s4,(Go.IntKind.wrap Go.IntKind.i64 (s5 + (1:Int)))))))))
 else
 some (Sum.inr ((s0.1,(s0.2.1,(s0.2.2.1,s0.2.2.2))),(s1.1,(s1.2.1,(s1.2.2.1,s1.2.2.2)))))
noncomputable def ED (a0:(List (((Bool×(List Int))×(Bool×(List Int)))×((Bool×(List Int))×(Bool×(List Int)))))):Option ((Bool×List (Int)×Bool×List (Int))) :=
 ((Co (0:Int))).bind fun x0 =>
 (loopM (fun (s:((Bool×((List Int)×(Bool×(List Int))))×((Bool×((List Int)×(Bool×(List Int))))×((List (((Bool×(List Int))×(Bool×(List Int)))×((Bool×(List Int))×(Bool×(List Int)))))×((List (((Bool×(List Int))×(Bool×(List Int)))×((Bool×(List Int))×(Bool×(List Int)))))×(Int×Int))))))=>AY s.1 s.2.1 s.2.2.1 s.2.2.2.1 s.2.2.2.2.1 s.2.2.2.2.2) ((false,((List.nil:List Int),(false,(List.nil:List Int)))),((x0.1,(x0.2.1,(x0.2.2.1,x0.2.2.2))),(a0,(a0,((((List.length a0):Nat):Int),(0:Int))))))).bind fun x1 =>
 ((Co (2:Int))).bind fun x2 =>
 ((Gi (x1.2.1,(x1.2.2.1,(x1.2.2.2.1,x1.2.2.2.2))) (x2.1,(x2.2.1,(x2.2.2.1,x2.2.2.2))))).bind fun x3 =>
 some (x3.1,(x3.2.1,(x3.2.2.1,x3.2.2.2)))
noncomputable def Rp:Ent:=⟨J3,fun x=>ED x⟩
noncomputable def Rb:TX:=⟨tyTab,codTab,[],[4],[LX,Pj,LH,H2,Pp],J3⟩
set_option maxHeartbeats 2000000 in
theorem ZM (a0:List ((((Bool×List (Int))×(Bool×List (Int)))×((Bool×List (Int))×(Bool×List (Int)))))):wtF Rb Tryz.f203 (a0)=ED a0:=by kernel_rfl
theorem Xq:EntOK RR Rp:=Ab (X:=Rb) ⟨tyOK,boolOK,eqOK⟩ (Ad (by exact ⟨⟨M0,rfl⟩,⟨⟨Tf,rfl⟩,⟨⟨MJ,rfl⟩,⟨⟨IE,rfl⟩,⟨⟨TW,rfl⟩,trivial⟩⟩⟩⟩⟩)) (Af (by kernel_rfl)) ⟨Tryz.func203,rfl,by kernel_rfl,rfl⟩ (fun x=>by exact ZM x)
noncomputable def Cd (a0:(List (((Bool×(List Int))×(Bool×(List Int)))×((Bool×(List Int))×(Bool×(List Int)))))) (a1:Int) (a2:Int):Option ((Bool×List (Int)×Bool×List (Int))×Bool) :=
 ((Dp (a1,a2))).bind fun x0 =>
 ((Dp ((Go.IntKind.wrap Go.IntKind.i64 (a1 + (1:Int))),(Go.IntKind.wrap Go.IntKind.i64 (a2 + (1:Int)))))).bind fun x1 =>
 ((A9 a0 (x0.1,(x0.2.1,(x0.2.2.1,(x0.2.2.2.1,(x0.2.2.2.2.1,(x0.2.2.2.2.2.1,(x0.2.2.2.2.2.2.1,x0.2.2.2.2.2.2.2))))))) (x1.1,(x1.2.1,(x1.2.2.1,(x1.2.2.2.1,(x1.2.2.2.2.1,(x1.2.2.2.2.2.1,(x1.2.2.2.2.2.2.1,x1.2.2.2.2.2.2.2))))))))).bind fun x2 =>
 bif (!x2.2) then
  some ((false,((List.nil:List Int),(false,(List.nil:List Int)))),false)
 else
 ((ED x2.1)).bind fun x3 =>
 ((CN (x3.1,(x3.2.1,(x3.2.2.1,x3.2.2.2))))).bind fun x4 =>
 some ((x4.1.1,(x4.1.2.1,(x4.1.2.2.1,x4.1.2.2.2))),x4.2)
noncomputable def Jr:Ent:=⟨I3,fun x=>Cd x.1 x.2.1 x.2.2⟩
noncomputable def NQ:TX:=⟨tyTab,codTab,[],[4],[Pq,P3,Rp,Jf],I3⟩
set_option maxHeartbeats 2000000 in
theorem X2 (a0:List ((((Bool×List (Int))×(Bool×List (Int)))×((Bool×List (Int))×(Bool×List (Int)))))) (a1:Int) (a2:Int):wtF NQ Tryz.f138 (a0,a1,a2)=Cd a0 a1 a2:=by kernel_rfl
theorem Mf:EntOK RR Jr:=Ab (X:=NQ) ⟨tyOK,boolOK,eqOK⟩ (Ad (by exact ⟨⟨SH,rfl⟩,⟨⟨Yb,rfl⟩,⟨⟨Xq,rfl⟩,⟨⟨J8,rfl⟩,trivial⟩⟩⟩⟩)) (Af (by kernel_rfl)) ⟨Tryz.func138,rfl,by kernel_rfl,rfl⟩ (fun x=>by exact X2 x.1 x.2.1 x.2.2)
noncomputable def Bi (s0:(Int×(Int×(Int×Int)))) (s1:(List ((Bool×(List Int))×(Bool×(List Int))))) (s2:(List (((Bool×(List Int))×(Bool×(List Int)))×((Bool×(List Int))×(Bool×(List Int)))))) (s3:Int) (s4:Int):Option (((Int×(Int×(Int×Int)))×((List ((Bool×(List Int))×(Bool×(List Int))))×((List (((Bool×(List Int))×(Bool×(List Int)))×((Bool×(List Int))×(Bool×(List Int)))))×(Int×Int)))) ⊕ (((Int×(Int×(Int×Int)))×((List ((Bool×(List Int))×(Bool×(List Int))))×((List (((Bool×(List Int))×(Bool×(List Int)))×((Bool×(List Int))×(Bool×(List Int)))))×Int))) ⊕ ((List ((Bool×(List Int))×(Bool×(List Int))))×Bool))) :=
 bif decide (s4<(Go.IntKind.wrap Go.IntKind.i64 (s0.1 + s0.2.2.1))) then
  ((Cd s2 s4 s3)).bind fun x0 =>
  bif (!x0.2) then
   some (Sum.inr (Sum.inr ((List.nil:List ((Bool×(List Int))×(Bool×(List Int)))),false)))
  else
  ((appL 64 4 s1 (List.cons ((x0.1.1,x0.1.2.1),(x0.1.2.2.1,x0.1.2.2.2)) (List.nil:List ((Bool×(List Int))×(Bool×(List Int))))))).bind fun x1 =>
  some (Sum.inl ((s0.1,(s0.2.1,(s0.2.2.1,s0.2.2.2))),(x1,(s2,(s3,(Go.IntKind.wrap Go.IntKind.i64 (s4 + (1:Int))))))))
 else
 some (Sum.inr (Sum.inl ((s0.1,(s0.2.1,(s0.2.2.1,s0.2.2.2))),(s1,(s2,s3)))))
noncomputable def AX (s0:(Int×(Int×(Int×Int)))) (s1:(List ((Bool×(List Int))×(Bool×(List Int))))) (s2:(List (((Bool×(List Int))×(Bool×(List Int)))×((Bool×(List Int))×(Bool×(List Int)))))) (s3:Int):Option (((Int×(Int×(Int×Int)))×((List ((Bool×(List Int))×(Bool×(List Int))))×((List (((Bool×(List Int))×(Bool×(List Int)))×((Bool×(List Int))×(Bool×(List Int)))))×Int))) ⊕ ((List ((Bool×(List Int))×(Bool×(List Int)))) ⊕ ((List ((Bool×(List Int))×(Bool×(List Int))))×Bool))) :=
 bif decide (s3<(Go.IntKind.wrap Go.IntKind.i64 (s0.2.1 + s0.2.2.2))) then
  (loopM (fun (s:((Int×(Int×(Int×Int)))×((List ((Bool×(List Int))×(Bool×(List Int))))×((List (((Bool×(List Int))×(Bool×(List Int)))×((Bool×(List Int))×(Bool×(List Int)))))×(Int×Int)))))=>Bi s.1 s.2.1 s.2.2.1 s.2.2.2.1 s.2.2.2.2) ((s0.1,(s0.2.1,(s0.2.2.1,s0.2.2.2))),(s1,(s2,(s3,s0.1))))).bind fun x0 =>
  Sum.elim
   (fun x1 =>
   some (Sum.inl ((x1.1.1,(x1.1.2.1,(x1.1.2.2.1,x1.1.2.2.2))),(x1.2.1,(x1.2.2.1,(Go.IntKind.wrap Go.IntKind.i64 (x1.2.2.2 + (1:Int))))))))
   (fun x2 =>
   some (Sum.inr (Sum.inr (x2.1,x2.2))))
   x0
 else
 some (Sum.inr (Sum.inl s1))
noncomputable def Cc (a0:(List (((Bool×(List Int))×(Bool×(List Int)))×((Bool×(List Int))×(Bool×(List Int)))))) (a1:(Int×(Int×(Int×Int)))):Option (List (((Bool×List (Int))×(Bool×List (Int))))×Bool) :=
 ((Cz (a1.1,(a1.2.1,(a1.2.2.1,a1.2.2.2))))).bind fun x0 =>
 bif (!x0) then
  some ((List.nil:List ((Bool×(List Int))×(Bool×(List Int)))),false)
 else
 (loopM (fun (s:((Int×(Int×(Int×Int)))×((List ((Bool×(List Int))×(Bool×(List Int))))×((List (((Bool×(List Int))×(Bool×(List Int)))×((Bool×(List Int))×(Bool×(List Int)))))×Int))))=>AX s.1 s.2.1 s.2.2.1 s.2.2.2) ((a1.1,(a1.2.1,(a1.2.2.1,a1.2.2.2))),((List.nil:List ((Bool×(List Int))×(Bool×(List Int)))),(a0,a1.2.1)))).bind fun x1 =>
 Sum.elim
  (fun x2 =>
  some (x2,true))
  (fun x3 =>
  some (x3.1,x3.2))
  x1
noncomputable def NX:Ent:=⟨I7,fun x=>Cc x.1 x.2⟩
noncomputable def Nv:TX:=⟨tyTab,codTab,[],[4],[G6,Jr],I7⟩
set_option maxHeartbeats 2000000 in
theorem Xg (a0:List ((((Bool×List (Int))×(Bool×List (Int)))×((Bool×List (Int))×(Bool×List (Int)))))) (a1:(Int×Int×Int×Int)):wtF Nv Tryz.f49 (a0,a1)=Cc a0 a1:=by kernel_rfl
theorem Vg:EntOK RR NX:=Ab (X:=Nv) ⟨tyOK,boolOK,eqOK⟩ (Ad (by exact ⟨⟨JF,rfl⟩,⟨⟨Mf,rfl⟩,trivial⟩⟩)) (Af (by kernel_rfl)) ⟨Tryz.func49,rfl,by kernel_rfl,rfl⟩ (fun x=>by exact Xg x.1 x.2)
noncomputable def EH (s0:(List Int)) (s1:(List Int)) (s2:Int) (s3:Int):Option (((List Int)×((List Int)×(Int×Int))) ⊕ (Unit ⊕ Bool)) :=
 bif decide (s3<s2) then
  ((getI s0 s3)).bind fun x0 =>
  ((getI s1 s3)).bind fun x1 =>
  bif (x0 != x1) then
   some (Sum.inr (Sum.inr false))
  else
  some (Sum.inl (s0,(s1,(s2,(Go.IntKind.wrap Go.IntKind.i64 (s3 + (1:Int)))))))
 else
 some (Sum.inr (Sum.inl ()))
noncomputable def EW (a0:(List Int)) (a1:(List Int)):Option (Bool) :=
 bif ((((List.length a0):Nat):Int) != (((List.length a1):Nat):Int)) then
  some false
 else
 (loopM (fun (s:((List Int)×((List Int)×(Int×Int))))=>EH s.1 s.2.1 s.2.2.1 s.2.2.2) (a0,(a1,((((List.length a0):Nat):Int),(0:Int))))).bind fun x0 =>
 Sum.elim
  (fun x1 =>
  some true)
  (fun x2 =>
  some x2)
  x0
noncomputable def N0:Ent:=⟨Jt,fun x=>EW x.1 x.2⟩
noncomputable def Nk:TX:=⟨tyTab,codTab,[],[4],[],Jt⟩
set_option maxHeartbeats 2000000 in
theorem X5 (a0:List (Int)) (a1:List (Int)):wtF Nk Tryz.f154 (a0,a1)=EW a0 a1:=by kernel_rfl
theorem U5:EntOK RR N0:=Ab (X:=Nk) ⟨tyOK,boolOK,eqOK⟩ (Ad (by exact trivial)) (Af (by kernel_rfl)) ⟨Tryz.func154,rfl,by kernel_rfl,rfl⟩ (fun x=>by exact X5 x.1 x.2)
noncomputable def Ey (a0:(Bool×(List Int))) (a1:(Bool×(List Int))):Option (Bool) :=
 bif (a0.1==a1.1) then
  ((EW a0.2 a1.2)).bind fun x0 =>
  some x0
 else
 some false
noncomputable def Qo:Ent:=⟨Li,fun x=>Ey x.1 x.2⟩
noncomputable def P9:TX:=⟨tyTab,codTab,[],[4],[N0],Li⟩
set_option maxHeartbeats 2000000 in
theorem Y0 (a0:(Bool×List (Int))) (a1:(Bool×List (Int))):wtF P9 Tryz.f64 (a0,a1)=Ey a0 a1:=by kernel_rfl
theorem XD:EntOK RR Qo:=Ab (X:=P9) ⟨tyOK,boolOK,eqOK⟩ (Ad (by exact ⟨⟨U5,rfl⟩,trivial⟩)) (Af (by kernel_rfl)) ⟨Tryz.func64,rfl,by kernel_rfl,rfl⟩ (fun x=>by exact Y0 x.1 x.2)
noncomputable def Ar (a0:(Bool×((List Int)×(Bool×(List Int))))) (a1:(Bool×((List Int)×(Bool×(List Int))))):Option (Bool) :=
 ((Ey (a0.1,a0.2.1) (a1.1,a1.2.1))).bind fun x0 =>
 bif x0 then
  ((Ey (a0.2.2.1,a0.2.2.2) (a1.2.2.1,a1.2.2.2))).bind fun x1 =>
  some x1
 else
 some false
noncomputable def KF:Ent:=⟨KC,fun x=>Ar x.1 x.2⟩
noncomputable def Q5:TX:=⟨tyTab,codTab,[],[4],[Qo],KC⟩
set_option maxHeartbeats 2000000 in
theorem Zr (a0:(Bool×List (Int)×Bool×List (Int))) (a1:(Bool×List (Int)×Bool×List (Int))):wtF Q5 Tryz.f15 (a0,a1)=Ar a0 a1:=by kernel_rfl
theorem Og:EntOK RR KF:=Ab (X:=Q5) ⟨tyOK,boolOK,eqOK⟩ (Ad (by exact ⟨⟨XD,rfl⟩,trivial⟩)) (Af (by kernel_rfl)) ⟨Tryz.func15,rfl,by kernel_rfl,rfl⟩ (fun x=>by exact Zr x.1 x.2)
noncomputable def BT (s0:(List ((Bool×(List Int))×(Bool×(List Int))))) (s1:(List ((Bool×(List Int))×(Bool×(List Int))))) (s2:Int) (s3:Int):Option (((List ((Bool×(List Int))×(Bool×(List Int))))×((List ((Bool×(List Int))×(Bool×(List Int))))×(Int×Int))) ⊕ (Unit ⊕ Bool)) :=
 bif decide (s3<s2) then
  ((getI s0 s3)).bind fun x0 =>
  ((getI s1 s3)).bind fun x1 =>
  ((Ar (x0.1.1,(x0.1.2,(x0.2.1,x0.2.2))) (x1.1.1,(x1.1.2,(x1.2.1,x1.2.2))))).bind fun x2 =>
  bif (!x2) then
   some (Sum.inr (Sum.inr false))
  else
  some (Sum.inl (s0,(s1,(s2,(Go.IntKind.wrap Go.IntKind.i64 (s3 + (1:Int)))))))
 else
 some (Sum.inr (Sum.inl ()))
noncomputable def Dw (a0:(List ((Bool×(List Int))×(Bool×(List Int))))) (a1:(List ((Bool×(List Int))×(Bool×(List Int))))):Option (Bool) :=
 bif ((((List.length a0):Nat):Int) != (((List.length a1):Nat):Int)) then
  some false
 else
 (loopM (fun (s:((List ((Bool×(List Int))×(Bool×(List Int))))×((List ((Bool×(List Int))×(Bool×(List Int))))×(Int×Int))))=>BT s.1 s.2.1 s.2.2.1 s.2.2.2) (a0,(a1,((((List.length a0):Nat):Int),(0:Int))))).bind fun x0 =>
 Sum.elim
  (fun x1 =>
  some true)
  (fun x2 =>
  some x2)
  x0
noncomputable def NR:Ent:=⟨IJ,fun x=>Dw x.1 x.2⟩
noncomputable def OB:TX:=⟨tyTab,codTab,[],[4],[KF],IJ⟩
set_option maxHeartbeats 2000000 in
theorem Ya (a0:List (((Bool×List (Int))×(Bool×List (Int))))) (a1:List (((Bool×List (Int))×(Bool×List (Int))))):wtF OB Tryz.f50 (a0,a1)=Dw a0 a1:=by kernel_rfl
theorem UV:EntOK RR NR:=Ab (X:=OB) ⟨tyOK,boolOK,eqOK⟩ (Ad (by exact ⟨⟨Og,rfl⟩,trivial⟩)) (Af (by kernel_rfl)) ⟨Tryz.func50,rfl,by kernel_rfl,rfl⟩ (fun x=>by exact Ya x.1 x.2)
noncomputable def CG (s0:(Bool×((List Int)×(Bool×(List Int))))) (s1:(Bool×((List Int)×(Bool×(List Int))))) (s2:(List ((Bool×(List Int))×(Bool×(List Int))))) (s3:Int) (s4:Int):Option (((Bool×((List Int)×(Bool×(List Int))))×((Bool×((List Int)×(Bool×(List Int))))×((List ((Bool×(List Int))×(Bool×(List Int))))×(Int×Int)))) ⊕ ((Bool×((List Int)×(Bool×(List Int))))×(Bool×((List Int)×(Bool×(List Int)))))) :=
 bif decide (s4<s3) then
  ((getI s2 s4)).bind fun x0 =>
  ((Cb (s1.1,(s1.2.1,(s1.2.2.1,s1.2.2.2))) (x0.1.1,(x0.1.2,(x0.2.1,x0.2.2))))).bind fun x1 =>
  some (Sum.inl ((s0.1,(s0.2.1,(s0.2.2.1,s0.2.2.2))),((x1.1,(x1.2.1,(x1.2.2.1,x1.2.2.2))),(s2,(s3,(Go.IntKind.wrap Go.IntKind.i64 (s4 + (1:Int))))))))
 else
 some (Sum.inr ((s0.1,(s0.2.1,(s0.2.2.1,s0.2.2.2))),(s1.1,(s1.2.1,(s1.2.2.1,s1.2.2.2)))))
noncomputable def CS (a0:(List ((Bool×(List Int))×(Bool×(List Int))))):Option ((Bool×List (Int)×Bool×List (Int))×Bool) :=
 bif decide ((((List.length a0):Nat):Int)>(64:Int)) then
  some ((false,((List.nil:List Int),(false,(List.nil:List Int)))),false)
 else
 ((CJ a0)).bind fun x0 =>
 bif (!x0) then
  some ((false,((List.nil:List Int),(false,(List.nil:List Int)))),false)
 else
 ((Bz (0:Int))).bind fun x1 =>
 (loopM (fun (s:((Bool×((List Int)×(Bool×(List Int))))×((Bool×((List Int)×(Bool×(List Int))))×((List ((Bool×(List Int))×(Bool×(List Int))))×(Int×Int)))))=>CG s.1 s.2.1 s.2.2.1 s.2.2.2.1 s.2.2.2.2) ((false,((List.nil:List Int),(false,(List.nil:List Int)))),((x1.1,(x1.2.1,(x1.2.2.1,x1.2.2.2))),(a0,((((List.length a0):Nat):Int),(0:Int)))))).bind fun x2 =>
 ((CA (x2.2.1,(x2.2.2.1,(x2.2.2.2.1,x2.2.2.2.2))))).bind fun x3 =>
 some ((x3.1.1,(x3.1.2.1,(x3.1.2.2.1,x3.1.2.2.2))),x3.2)
noncomputable def WJ:Ent:=⟨OY,fun x=>CS x⟩
noncomputable def Vw:TX:=⟨tyTab,codTab,[],[4],[Kz,Gs,FM,He],OY⟩
set_option maxHeartbeats 2000000 in
theorem Av5 (a0:List (((Bool×List (Int))×(Bool×List (Int))))):wtF Vw Tryz.f53 (a0)=CS a0:=by kernel_rfl
theorem Ag0:EntOK RR WJ:=Ab (X:=Vw) ⟨tyOK,boolOK,eqOK⟩ (Ad (by exact ⟨⟨Nh,rfl⟩,⟨⟨GC,rfl⟩,⟨⟨Gf,rfl⟩,⟨⟨JG,rfl⟩,trivial⟩⟩⟩⟩)) (Af (by kernel_rfl)) ⟨Tryz.func53,rfl,by kernel_rfl,rfl⟩ (fun x=>by exact Av5 x)
noncomputable def BN (a0:Int) (a1:Int):Option ((Bool×List (Int)×Bool×List (Int))×Bool) :=
 bif (a1==(0:Int)) then
  some ((false,((List.nil:List Int),(false,(List.nil:List Int)))),false)
 else
 ((A3 a0 (-(4611686018427387904:Int)) (4611686018427387904:Int))).bind fun x0 =>
 bif (!x0) then
  some ((false,((List.nil:List Int),(false,(List.nil:List Int)))),false)
 else
 ((A3 a1 (-(4611686018427387904:Int)) (4611686018427387904:Int))).bind fun x1 =>
 bif (!x1) then
  some ((false,((List.nil:List Int),(false,(List.nil:List Int)))),false)
 else
 ((B2 a0)).bind fun x2 =>
 ((B2 a1)).bind fun x3 =>
 ((Eh (x2.1,x2.2) (x3.1,x3.2))).bind fun x4 =>
 some ((x4.1,(x4.2.1,(x4.2.2.1,x4.2.2.2))),true)
noncomputable def Vq:Ent:=⟨Ph,fun x=>BN x.1 x.2⟩
noncomputable def VH:TX:=⟨tyTab,codTab,[],[4],[GB,H6,Ic],Ph⟩
set_option maxHeartbeats 2000000 in
theorem As8 (a0:Int) (a1:Int):wtF VH Tryz.f20 (a0,a1)=BN a0 a1:=by kernel_rfl
theorem Ai5:EntOK RR Vq:=Ab (X:=VH) ⟨tyOK,boolOK,eqOK⟩ (Ad (by exact ⟨⟨HE,rfl⟩,⟨⟨I1,rfl⟩,⟨⟨Jl,rfl⟩,trivial⟩⟩⟩)) (Af (by kernel_rfl)) ⟨Tryz.func20,rfl,by kernel_rfl,rfl⟩ (fun x=>by exact As8 x.1 x.2)
noncomputable def BY (s0:Int) (s1:(List Int)) (s2:Int) (s3:Int):Option ((Int×((List Int)×(Int×Int))) ⊕ Int) :=
 bif decide (s3<s2) then
  ((getI s1 s3)).bind fun x0 =>
  some (Sum.inl ((Int.tmod (Go.IntKind.wrap Go.IntKind.i64 ((Go.IntKind.wrap Go.IntKind.i64 ((31:Int)*s0)) + (Go.IntKind.wrap Go.IntKind.i64 x0))) (1000003:Int)),(s1,(s2,(Go.IntKind.wrap Go.IntKind.i64 (s3 + (1:Int)))))))
 else
 some (Sum.inr s0)
noncomputable def DC (a0:(List Int)):Option (Int) :=
 (loopM (fun (s:(Int×((List Int)×(Int×Int))))=>BY s.1 s.2.1 s.2.2.1 s.2.2.2) ((0:Int),(a0,((((List.length a0):Nat):Int),(0:Int))))).bind fun x0 =>
 some x0
noncomputable def Nb:Ent:=⟨IS,fun x=>DC x⟩
noncomputable def NH:TX:=⟨tyTab,codTab,[],[4],[],IS⟩
set_option maxHeartbeats 2000000 in
theorem X4 (a0:List (Int)):wtF NH Tryz.f29 (a0)=DC a0:=by kernel_rfl
theorem Vh:EntOK RR Nb:=Ab (X:=NH) ⟨tyOK,boolOK,eqOK⟩ (Ad (by exact trivial)) (Af (by kernel_rfl)) ⟨Tryz.func29,rfl,by kernel_rfl,rfl⟩ (fun x=>by exact X4 x)
noncomputable def Bc (a0:(List (((Bool×(List Int))×(Bool×(List Int)))×((Bool×(List Int))×(Bool×(List Int)))))) (a1:Int) (a2:Int):Option ((Bool×List (Int)×Bool×List (Int))×Bool) :=
 ((BF a0)).bind fun x0 =>
 bif (!x0) then
  some ((false,((List.nil:List Int),(false,(List.nil:List Int)))),false)
 else
 ((A3 a1 (-(20:Int)) (28:Int))).bind fun x1 =>
 bif (!x1) then
  some ((false,((List.nil:List Int),(false,(List.nil:List Int)))),false)
 else
 ((A3 a2 (-(20:Int)) (28:Int))).bind fun x2 =>
 bif (!x2) then
  some ((false,((List.nil:List Int),(false,(List.nil:List Int)))),false)
 else
 ((Ca a0 a1 a2)).bind fun x3 =>
 some ((x3.1.1,(x3.1.2.1,(x3.1.2.2.1,x3.1.2.2.2))),x3.2)
noncomputable def QT:Ent:=⟨J0,fun x=>Bc x.1 x.2.1 x.2.2⟩
noncomputable def QO:TX:=⟨tyTab,codTab,[],[4],[Ds,GB,Kw],J0⟩
set_option maxHeartbeats 2000000 in
theorem YU (a0:List ((((Bool×List (Int))×(Bool×List (Int)))×((Bool×List (Int))×(Bool×List (Int)))))) (a1:Int) (a2:Int):wtF QO Tryz.f54 (a0,a1,a2)=Bc a0 a1 a2:=by kernel_rfl
theorem WW:EntOK RR QT:=Ab (X:=QO) ⟨tyOK,boolOK,eqOK⟩ (Ad (by exact ⟨⟨DQ,rfl⟩,⟨⟨HE,rfl⟩,⟨⟨OC,rfl⟩,trivial⟩⟩⟩)) (Af (by kernel_rfl)) ⟨Tryz.func54,rfl,by kernel_rfl,rfl⟩ (fun x=>by exact YU x.1 x.2.1 x.2.2)
noncomputable def B0 (a0:(List Int)):Option (List ((((Bool×List (Int))×(Bool×List (Int)))×((Bool×List (Int))×(Bool×List (Int)))))×Int×Int) :=
 ((Bl (a0,((0:Int),(0:Int))))).bind fun x0 =>
 ((As (x0.1.1,(x0.1.2.1,x0.1.2.2)) (List.cons (-(3:Int)) (List.cons (0:Int) (List.cons (1:Int) (List.cons (2:Int) (List.cons (3:Int) (List.cons (28:Int) (List.cons (29:Int) (List.nil:List Int)))))))))).bind fun x1 =>
 ((Ae (x1.1.1,(x1.1.2.1,x1.1.2.2)) (6:Int))).bind fun x2 =>
 some (x0.2,(x1.2,(Go.IntKind.wrap Go.IntKind.i64 (x2.2-(1:Int)))))
noncomputable def Jy:Ent:=⟨FW,fun x=>B0 x⟩
noncomputable def JE:TX:=⟨tyTab,codTab,[],[4],[DM,B3,AK],FW⟩
set_option maxHeartbeats 2000000 in
theorem Rx (a0:List (Int)):wtF JE Tryz.f55 (a0)=B0 a0:=by kernel_rfl
theorem ON:EntOK RR Jy:=Ab (X:=JE) ⟨tyOK,boolOK,eqOK⟩ (Ad (by exact ⟨⟨FP,rfl⟩,⟨⟨Ct,rfl⟩,⟨⟨AL,rfl⟩,trivial⟩⟩⟩)) (Af (by kernel_rfl)) ⟨Tryz.func55,rfl,by kernel_rfl,rfl⟩ (fun x=>by exact Rx x)
noncomputable def CO (a0:Int):Option (Bool) :=
 ((BB a0 (-(20:Int)) (28:Int))).bind fun x0 =>
 some x0
noncomputable def NK:Ent:=⟨I2,fun x=>CO x⟩
noncomputable def Oq:TX:=⟨tyTab,codTab,[],[4],[GJ],I2⟩
set_option maxHeartbeats 2000000 in
theorem X3 (a0:Int):wtF Oq Tryz.f140 (a0)=CO a0:=by kernel_rfl
theorem U9:EntOK RR NK:=Ab (X:=Oq) ⟨tyOK,boolOK,eqOK⟩ (Ad (by exact ⟨⟨Gj,rfl⟩,trivial⟩)) (Af (by kernel_rfl)) ⟨Tryz.func140,rfl,by kernel_rfl,rfl⟩ (fun x=>by exact X3 x)
noncomputable def CI (a0:(List (((Bool×(List Int))×(Bool×(List Int)))×((Bool×(List Int))×(Bool×(List Int)))))) (a1:Int) (a2:Int):Option ((Bool×List (Int)×Bool×List (Int))×Bool) :=
 ((CO a1)).bind fun x0 =>
 bif (!x0) then
  some ((false,((List.nil:List Int),(false,(List.nil:List Int)))),false)
 else
 ((CO a2)).bind fun x1 =>
 bif (!x1) then
  some ((false,((List.nil:List Int),(false,(List.nil:List Int)))),false)
 else
 ((Cd a0 a1 a2)).bind fun x2 =>
 some ((x2.1.1,(x2.1.2.1,(x2.1.2.2.1,x2.1.2.2.2))),x2.2)
noncomputable def Qs:Ent:=⟨KG,fun x=>CI x.1 x.2.1 x.2.2⟩
noncomputable def P6:TX:=⟨tyTab,codTab,[],[4],[NK,Jr],KG⟩
set_option maxHeartbeats 2000000 in
theorem Yv (a0:List ((((Bool×List (Int))×(Bool×List (Int)))×((Bool×List (Int))×(Bool×List (Int)))))) (a1:Int) (a2:Int):wtF P6 Tryz.f56 (a0,a1,a2)=CI a0 a1 a2:=by kernel_rfl
theorem XT:EntOK RR Qs:=Ab (X:=P6) ⟨tyOK,boolOK,eqOK⟩ (Ad (by exact ⟨⟨U9,rfl⟩,⟨⟨Mf,rfl⟩,trivial⟩⟩)) (Af (by kernel_rfl)) ⟨Tryz.func56,rfl,by kernel_rfl,rfl⟩ (fun x=>by exact Yv x.1 x.2.1 x.2.2)
noncomputable def C3 (a0:((List Int)×(Int×Int))):Option ((List (Int)×Int×Int)×(Bool×List (Int)×Bool×List (Int))) :=
 ((As (a0.1,(a0.2.1,a0.2.2)) (List.cons (0:Int) (List.cons (1:Int) (List.cons (1:Int) (List.cons (1:Int) (List.cons (2:Int) (List.cons (-(1:Int)) (List.nil:List Int))))))))).bind fun x0 =>
 ((As (x0.1.1,(x0.1.2.1,x0.1.2.2)) (List.cons (1:Int) (List.cons (2:Int) (List.cons (3:Int) (List.cons (4:Int) (List.nil:List Int))))))).bind fun x1 =>
 ((Er x0.2 x1.2)).bind fun x2 =>
 some ((x1.1.1,(x1.1.2.1,x1.1.2.2)),(x2.1.1,(x2.1.2.1,(x2.1.2.2.1,x2.1.2.2.2))))
noncomputable def Kl:Ent:=⟨Hq,fun x=>C3 x⟩
noncomputable def JQ:TX:=⟨tyTab,codTab,[],[4],[B3,LM],Hq⟩
set_option maxHeartbeats 2000000 in
theorem SU (a0:(List (Int)×Int×Int)):wtF JQ Tryz.f130 (a0)=C3 a0:=by kernel_rfl
theorem RA:EntOK RR Kl:=Ab (X:=JQ) ⟨tyOK,boolOK,eqOK⟩ (Ad (by exact ⟨⟨Ct,rfl⟩,⟨⟨Mm,rfl⟩,trivial⟩⟩)) (Af (by kernel_rfl)) ⟨Tryz.func130,rfl,by kernel_rfl,rfl⟩ (fun x=>by exact SU x)
noncomputable def Bn (s0:((List Int)×(Int×Int))) (s1:(List ((Bool×(List Int))×(Bool×(List Int))))) (s2:Int):Option ((((List Int)×(Int×Int))×((List ((Bool×(List Int))×(Bool×(List Int))))×Int)) ⊕ (((List Int)×(Int×Int))×(List ((Bool×(List Int))×(Bool×(List Int)))))) :=
 bif decide (s2>(0:Int)) then
  ((C3 (s0.1,(s0.2.1,s0.2.2)))).bind fun x0 =>
  ((appL 64 4 s1 (List.cons ((x0.2.1,x0.2.2.1),(x0.2.2.2.1,x0.2.2.2.2)) (List.nil:List ((Bool×(List Int))×(Bool×(List Int))))))).bind fun x1 =>
  some (Sum.inl ((x0.1.1,(x0.1.2.1,x0.1.2.2)),(x1,(Go.IntKind.wrap Go.IntKind.i64 (s2-(1:Int))))))
 else
 some (Sum.inr ((s0.1,(s0.2.1,s0.2.2)),s1))
noncomputable def CY (a0:(List Int)):Option (List (((Bool×List (Int))×(Bool×List (Int))))) :=
 ((Ae (a0,((0:Int),(0:Int))) (6:Int))).bind fun x0 =>
 (((Ap (x0.1.1,(x0.1.2.1,x0.1.2.2)) (20:Int))).bind fun x1 =>
  bif x1.2 then
   ((Ae (x1.1.1,(x1.1.2.1,x1.1.2.2)) (2:Int))).bind fun x2 =>
   some (Sum.inr ((x2.1.1,(x2.1.2.1,x2.1.2.2)),((List.nil:List ((Bool×(List Int))×(Bool×(List Int)))),(Go.IntKind.wrap Go.IntKind.i64 ((64:Int) + x2.2)))))
  else
  some (Sum.inr ((x1.1.1,(x1.1.2.1,x1.1.2.2)),((List.nil:List ((Bool×(List Int))×(Bool×(List Int)))),x0.2)))).bind fun x3 =>
 Sum.elim
  (fun x4 =>
  some x4)
  (fun x5 =>
  (loopM (fun (s:(((List Int)×(Int×Int))×((List ((Bool×(List Int))×(Bool×(List Int))))×Int)))=>Bn s.1 s.2.1 s.2.2) ((x5.1.1,(x5.1.2.1,x5.1.2.2)),(x5.2.1,x5.2.2))).bind fun x6 =>
  bif decide ((((List.length x6.2):Nat):Int)>(0:Int)) then
   ((Ap (x6.1.1,(x6.1.2.1,x6.1.2.2)) (12:Int))).bind fun x7 =>
   bif x7.2 then
    ((BI (x7.1.1,(x7.1.2.1,x7.1.2.2)))).bind fun x8 =>
    ((idxI (0:Int) (List.length x6.2))).bind fun x9 =>
    ((getN x6.2 x9)).bind fun x10 =>
    some (List.set x6.2 x9 ((x8.2.1,x8.2.2.1),(x8.2.2.2.1,x8.2.2.2.2)))
   else
   some x6.2
  else
  some x6.2)
  x3
noncomputable def L7:Ent:=⟨HN,fun x=>CY x⟩
noncomputable def L5:TX:=⟨tyTab,codTab,[],[4],[AK,Be,Kl,HL],HN⟩
set_option maxHeartbeats 2000000 in
theorem UU (a0:List (Int)):wtF L5 Tryz.f57 (a0)=CY a0:=by kernel_rfl
theorem Tt:EntOK RR L7:=Ab (X:=L5) ⟨tyOK,boolOK,eqOK⟩ (Ad (by exact ⟨⟨AL,rfl⟩,⟨⟨Bk,rfl⟩,⟨⟨RA,rfl⟩,⟨⟨KK,rfl⟩,trivial⟩⟩⟩⟩)) (Af (by kernel_rfl)) ⟨Tryz.func57,rfl,by kernel_rfl,rfl⟩ (fun x=>by exact UU x)
noncomputable def Bo (s0:(Bool×((List Int)×(Bool×(List Int))))) (s1:(Bool×((List Int)×(Bool×(List Int))))) (s2:(List ((Bool×(List Int))×(Bool×(List Int))))) (s3:(List ((Bool×(List Int))×(Bool×(List Int))))) (s4:Int) (s5:Int):Option (((Bool×((List Int)×(Bool×(List Int))))×((Bool×((List Int)×(Bool×(List Int))))×((List ((Bool×(List Int))×(Bool×(List Int))))×((List ((Bool×(List Int))×(Bool×(List Int))))×(Int×Int))))) ⊕ (((Bool×((List Int)×(Bool×(List Int))))×((Bool×((List Int)×(Bool×(List Int))))×(List ((Bool×(List Int))×(Bool×(List Int)))))) ⊕ ((Bool×((List Int)×(Bool×(List Int))))×Bool))) :=
 bif decide (s5<s4) then
  ((getI s3 s5)).bind fun x0 =>
  ((Da (x0.1.1,(x0.1.2,(x0.2.1,x0.2.2))))).bind fun x1 =>
  bif (!x1) then
   some (Sum.inr (Sum.inr ((false,((List.nil:List Int),(false,(List.nil:List Int)))),false)))
  else
  some (Sum.inl ((s0.1,(s0.2.1,(s0.2.2.1,s0.2.2.2))),((s1.1,(s1.2.1,(s1.2.2.1,s1.2.2.2))),(s2,(s3,(s4,(Go.IntKind.wrap Go.IntKind.i64 (s5 + (1:Int)))))))))
 else
 some (Sum.inr (Sum.inl ((s0.1,(s0.2.1,(s0.2.2.1,s0.2.2.2))),((s1.1,(s1.2.1,(s1.2.2.1,s1.2.2.2))),s2))))
noncomputable def CF (s0:(Bool×((List Int)×(Bool×(List Int))))) (s1:(Bool×((List Int)×(Bool×(List Int))))) (s2:(List ((Bool×(List Int))×(Bool×(List Int))))) (s3:Int) (s4:Int):Option (((Bool×((List Int)×(Bool×(List Int))))×((Bool×((List Int)×(Bool×(List Int))))×((List ((Bool×(List Int))×(Bool×(List Int))))×(Int×Int)))) ⊕ ((Bool×((List Int)×(Bool×(List Int))))×(Bool×((List Int)×(Bool×(List Int)))))) :=
 bif decide (s4<s3) then
  ((getI s2 s4)).bind fun x0 =>
  ((Ew (s1.1,(s1.2.1,(s1.2.2.1,s1.2.2.2))) (x0.1.1,(x0.1.2,(x0.2.1,x0.2.2))))).bind fun x1 =>
  some (Sum.inl ((s0.1,(s0.2.1,(s0.2.2.1,s0.2.2.2))),((x1.1,(x1.2.1,(x1.2.2.1,x1.2.2.2))),(s2,(s3,(Go.IntKind.wrap Go.IntKind.i64 (s4 + (1:Int))))))))
 else
 some (Sum.inr ((s0.1,(s0.2.1,(s0.2.2.1,s0.2.2.2))),(s1.1,(s1.2.1,(s1.2.2.1,s1.2.2.2)))))
noncomputable def EE (a0:(List ((Bool×(List Int))×(Bool×(List Int))))):Option ((Bool×List (Int)×Bool×List (Int))×Bool) :=
 ((Co (0:Int))).bind fun x0 =>
 (loopM (fun (s:((Bool×((List Int)×(Bool×(List Int))))×((Bool×((List Int)×(Bool×(List Int))))×((List ((Bool×(List Int))×(Bool×(List Int))))×((List ((Bool×(List Int))×(Bool×(List Int))))×(Int×Int))))))=>Bo s.1 s.2.1 s.2.2.1 s.2.2.2.1 s.2.2.2.2.1 s.2.2.2.2.2) ((false,((List.nil:List Int),(false,(List.nil:List Int)))),((x0.1,(x0.2.1,(x0.2.2.1,x0.2.2.2))),(a0,(a0,((((List.length a0):Nat):Int),(0:Int))))))).bind fun x1 =>
 Sum.elim
  (fun x2 =>
  bif decide ((((List.length x2.2.2):Nat):Int)>(64:Int)) then
   some ((false,((List.nil:List Int),(false,(List.nil:List Int)))),false)
  else
  (loopM (fun (s:((Bool×((List Int)×(Bool×(List Int))))×((Bool×((List Int)×(Bool×(List Int))))×((List ((Bool×(List Int))×(Bool×(List Int))))×(Int×Int)))))=>CF s.1 s.2.1 s.2.2.1 s.2.2.2.1 s.2.2.2.2) ((x2.1.1,(x2.1.2.1,(x2.1.2.2.1,x2.1.2.2.2))),((x2.2.1.1,(x2.2.1.2.1,(x2.2.1.2.2.1,x2.2.1.2.2.2))),(x2.2.2,((((List.length x2.2.2):Nat):Int),(0:Int)))))).bind fun x3 =>
  ((CN (x3.2.1,(x3.2.2.1,(x3.2.2.2.1,x3.2.2.2.2))))).bind fun x4 =>
  some ((x4.1.1,(x4.1.2.1,(x4.1.2.2.1,x4.1.2.2.2))),x4.2))
  (fun x5 =>
  some ((x5.1.1,(x5.1.2.1,(x5.1.2.2.1,x5.1.2.2.2))),x5.2))
  x1
noncomputable def Wp:Ent:=⟨OK,fun x=>EE x⟩
noncomputable def VG:TX:=⟨tyTab,codTab,[],[4],[LX,Hx,H2,Jf],OK⟩
set_option maxHeartbeats 2000000 in
theorem Au5 (a0:List (((Bool×List (Int))×(Bool×List (Int))))):wtF VG Tryz.f58 (a0)=EE a0:=by kernel_rfl
theorem Ai8:EntOK RR Wp:=Ab (X:=VG) ⟨tyOK,boolOK,eqOK⟩ (Ad (by exact ⟨⟨M0,rfl⟩,⟨⟨Jd,rfl⟩,⟨⟨IE,rfl⟩,⟨⟨J8,rfl⟩,trivial⟩⟩⟩⟩)) (Af (by kernel_rfl)) ⟨Tryz.func58,rfl,by kernel_rfl,rfl⟩ (fun x=>by exact Au5 x)
noncomputable def E7 (a0:(List Int)) (a1:(List Int)):Option (Bool) :=
 bif decide ((Go.IntKind.wrap Go.IntKind.i64 ((((List.length a0):Nat):Int) + (((List.length a1):Nat):Int)))>(1048576:Int)) then
  some true
 else
 ((BL a0)).bind fun x0 =>
 ((BG x0.1 (x0.2.1,(x0.2.2.1,(x0.2.2.2.1,x0.2.2.2.2))))).bind fun x1 =>
 ((Cc x0.1 (x0.2.1,(x0.2.2.1,(x0.2.2.2.1,x0.2.2.2.2))))).bind fun x2 =>
 bif (!(x1.2==x2.2)) then
  some false
 else
 ((Dw x1.1 x2.1)).bind fun x3 =>
 bif (!x3) then
  some false
 else
 ((Ck (x0.2.1,(x0.2.2.1,(x0.2.2.2.1,x0.2.2.2.2))))).bind fun x4 =>
 ((Cz (x0.2.1,(x0.2.2.1,(x0.2.2.2.1,x0.2.2.2.2))))).bind fun x5 =>
 bif (!(x4==x5)) then
  some false
 else
 (bif x1.2 then
   ((CS x1.1)).bind fun x6 =>
   ((BN x0.2.1 (1:Int))).bind fun x7 =>
   ((BN x0.2.2.1 (1:Int))).bind fun x8 =>
   ((BN (Go.IntKind.wrap Go.IntKind.i64 (x0.2.1 + x0.2.2.2.1)) (1:Int))).bind fun x9 =>
   ((BN (Go.IntKind.wrap Go.IntKind.i64 (x0.2.2.1 + x0.2.2.2.2)) (1:Int))).bind fun x10 =>
   ((AU x0.1 (x7.1.1,(x7.1.2.1,(x7.1.2.2.1,(x7.1.2.2.2,(x8.1.1,(x8.1.2.1,(x8.1.2.2.1,x8.1.2.2.2))))))) (x9.1.1,(x9.1.2.1,(x9.1.2.2.1,(x9.1.2.2.2,(x10.1.1,(x10.1.2.1,(x10.1.2.2.1,x10.1.2.2.2))))))))).bind fun x11 =>
   ((B6 x11.1)).bind fun x12 =>
   (bif ((((List.length x1.1):Nat):Int) != (Go.IntKind.wrap Go.IntKind.i64 (x0.2.2.2.1*x0.2.2.2.2))) then
     some (Sum.inl (Sum.inl false))
    else
    bif (!x7.2) then
     some (Sum.inl (Sum.inl false))
    else
    bif (!x8.2) then
     some (Sum.inl (Sum.inl false))
    else
    bif (!x9.2) then
     some (Sum.inl (Sum.inl false))
    else
    bif (!x10.2) then
     some (Sum.inl (Sum.inl false))
    else
    bif x6.2 then
     bif x11.2 then
      bif x12.2 then
       ((Ar (x6.1.1,(x6.1.2.1,(x6.1.2.2.1,x6.1.2.2.2))) (x12.1.1,(x12.1.2.1,(x12.1.2.2.1,x12.1.2.2.2))))).bind fun x13 =>
       bif (!x13) then
        some (Sum.inl (Sum.inl false))
       else
       some (Sum.inr ((x0.2.1,(x0.2.2.1,(x0.2.2.2.1,x0.2.2.2.2))),(a1,(x0.1,x1.1))))
      else
      some (Sum.inr ((x0.2.1,(x0.2.2.1,(x0.2.2.2.1,x0.2.2.2.2))),(a1,(x0.1,x1.1))))
     else
     some (Sum.inr ((x0.2.1,(x0.2.2.1,(x0.2.2.2.1,x0.2.2.2.2))),(a1,(x0.1,x1.1))))
    else
    some (Sum.inr ((x0.2.1,(x0.2.2.1,(x0.2.2.2.1,x0.2.2.2.2))),(a1,(x0.1,x1.1))))).bind fun x14 =>
   Sum.elim
    (fun x15 =>
    some x15)
    (fun x16 =>
    ((DC x16.2.1)).bind fun x17 =>
    bif ((((List.length x16.2.2.2):Nat):Int)==(0:Int)) then
     none
    else
    bif (x16.1.2.2.1==(0:Int)) then
     none
    else
    bif (x16.1.2.2.1==(0:Int)) then
     none
    else
    ((Bc x16.2.2.1 (Go.IntKind.wrap Go.IntKind.i64 (x16.1.1 + (Int.tmod (Int.tmod x17 (((List.length x16.2.2.2):Nat):Int)) x16.1.2.2.1))) (Go.IntKind.wrap Go.IntKind.i64 (x16.1.2.1 + (Go.IntKind.wrap Go.IntKind.i64 (Int.tdiv (Int.tmod x17 (((List.length x16.2.2.2):Nat):Int)) x16.1.2.2.1)))))).bind fun x18 =>
    bif (!x18.2) then
     some (Sum.inl false)
    else
    ((getI x16.2.2.2 (Int.tmod x17 (((List.length x16.2.2.2):Nat):Int)))).bind fun x19 =>
    ((Ar (x18.1.1,(x18.1.2.1,(x18.1.2.2.1,x18.1.2.2.2))) (x19.1.1,(x19.1.2,(x19.2.1,x19.2.2))))).bind fun x20 =>
    bif (!x20) then
     some (Sum.inl false)
    else
    some (Sum.inr x16.2.1))
    x14
  else
  some (Sum.inr a1)).bind fun x21 =>
 Sum.elim
  (fun x22 =>
  some x22)
  (fun x23 =>
  ((B0 x23)).bind fun x24 =>
  ((Bc x24.1 x24.2.1 x24.2.2)).bind fun x25 =>
  ((CI x24.1 x24.2.1 x24.2.2)).bind fun x26 =>
  ((CY x23)).bind fun x27 =>
  ((CS x27)).bind fun x28 =>
  ((EE x27)).bind fun x29 =>
  bif (x25.2==x26.2) then
   ((Ar (x25.1.1,(x25.1.2.1,(x25.1.2.2.1,x25.1.2.2.2))) (x26.1.1,(x26.1.2.1,(x26.1.2.2.1,x26.1.2.2.2))))).bind fun x30 =>
   bif x30 then
    bif (x28.2==x29.2) then
     ((Ar (x28.1.1,(x28.1.2.1,(x28.1.2.2.1,x28.1.2.2.2))) (x29.1.1,(x29.1.2.1,(x29.1.2.2.1,x29.1.2.2.2))))).bind fun x31 =>
     some x31
    else
    some false
   else
   some false
  else
  some false)
  x21
noncomputable def XE:Ent:=⟨Iy,fun x=>E7 x.1 x.2⟩
noncomputable def NY:TX:=⟨tyTab,codTab,[],[4],[H9,M4,NX,NR,GU,G6,WJ,Vq,K6,IU,KF,Nb,QT,Jy,Qs,L7,Wp],Iy⟩
set_option maxHeartbeats 2000000 in
theorem WV (a0:List (Int)) (a1:List (Int)):wtF NY Tryz.f6 (a0,a1)=E7 a0 a1:=by kernel_rfl
theorem U4:EntOK RR XE:=Ab (X:=NY) ⟨tyOK,boolOK,eqOK⟩ (Ad (by exact ⟨⟨Od,rfl⟩,⟨⟨Vd,rfl⟩,⟨⟨Vg,rfl⟩,⟨⟨UV,rfl⟩,⟨⟨JJ,rfl⟩,⟨⟨JF,rfl⟩,⟨⟨Ag0,rfl⟩,⟨⟨Ai5,rfl⟩,⟨⟨Ow,rfl⟩,⟨⟨L2,rfl⟩,⟨⟨Og,rfl⟩,⟨⟨Vh,rfl⟩,⟨⟨WW,rfl⟩,⟨⟨ON,rfl⟩,⟨⟨XT,rfl⟩,⟨⟨Tt,rfl⟩,⟨⟨Ai8,rfl⟩,trivial⟩⟩⟩⟩⟩⟩⟩⟩⟩⟩⟩⟩⟩⟩⟩⟩⟩)) (Af (by kernel_rfl)) ⟨Tryz.func6,rfl,by kernel_rfl,rfl⟩ (fun x=>by exact WV x.1 x.2)
end Go.Proofs.YthipdlhknbhiiaaGreat.Ev

end
section
namespace Go.Proofs.YthipdlhknbhiiaaGreat.Ev
open Go
section
variable {α β σ ρ:Type} {body : σ→Option (σ ⊕ ρ)}
theorem LS {l:List α} (st:Nat→β→σ) (step : β→α→β) (fin : β→ρ) (I:Nat→β→Prop)
  (hgo:∀ k b a,l[k]? = some a→I k b→body (st k b)=some (.inl (st (k + 1) (step b a)))∧I (k + 1) (step b a))
  (hend:∀ b,I l.length b→body (st l.length b)=some (.inr (fin b))) (b : β) (h0:I 0 b) :
  loopM body (st 0 b)=some (fin (l.foldl step b))∧I l.length (l.foldl step b):=by
 have key:∀ (n k:Nat) (b : β),k + n=l.length→I k b→loopM body (st k b)=some (fin ((l.drop k).foldl step b))∧I l.length ((l.drop k).foldl step b):=by
  intro n
  induction n with
  | zero =>
   intro k b hk hI
   have:k=l.length:=by omega
   subst this
   rw[List.drop_length]
   exact ⟨Am (hend b hI),hI⟩
  | succ n ih =>
   intro k b hk hI
   have hlt:k<l.length:=by omega
   have hd:l.drop k=l[k]::l.drop (k + 1):=List.drop_eq_getElem_cons hlt
   have he:l[k]? = some l[k]:=List.getElem?_eq_getElem hlt
   obtain ⟨h1,h2⟩:=hgo k b _ he hI
   rw[hd,List.foldl_cons,AH h1]
   exact ih (k + 1) _ (by omega) h2
 have:=key l.length 0 b (by omega) h0
 rwa [List.drop_zero] at this
def foldX (step : β→α→ρ ⊕ β) : β→List α→ρ ⊕ β
 | b,[]=>.inr b
 | b,a::l=>match step b a with | .inl r=>.inl r | .inr b'=>foldX step b' l
theorem AC5 {l:List α} (st:Nat→β→σ) (step : β→α→ρ ⊕ β) (fin : β→ρ) (I:Nat→β→Prop)
  (hgo:∀ k b a,l[k]? = some a→I k b→(∃ b',step b a = .inr b'∧body (st k b)=some (.inl (st (k + 1) b'))∧I (k + 1) b')∨∃ r,step b a = .inl r∧body (st k b)=some (.inr r))
  (hend:∀ b,I l.length b→body (st l.length b)=some (.inr (fin b))) (b : β) (h0:I 0 b) :
  loopM body (st 0 b)=some (Sum.elim id fin (foldX step b l))∧∀ b',foldX step b l = .inr b'→I l.length b':=by
 have key:∀ (n k:Nat) (b : β),k + n=l.length→I k b→loopM body (st k b)=some (Sum.elim id fin (foldX step b (l.drop k)))∧∀ b',foldX step b (l.drop k) = .inr b'→I l.length b':=by
  intro n
  induction n with
  | zero =>
   intro k b hk hI
   have:k=l.length:=by omega
   subst this
   rw[List.drop_length]
   exact ⟨Am (hend b hI),fun b' h=>by cases h; exact hI⟩
  | succ n ih =>
   intro k b hk hI
   have hlt:k<l.length:=by omega
   have hd:l.drop k=l[k]::l.drop (k + 1):=List.drop_eq_getElem_cons hlt
   have he:l[k]? = some l[k]:=List.getElem?_eq_getElem hlt
   rw[hd]
   unfold foldX
   rcases hgo k b _ he hI with ⟨b',h1,h2,h3⟩ | ⟨r,h1,h2⟩
   ·rw[h1,AH h2]
    exact ih (k + 1) _ (by omega) h3
   ·rw[h1]
    exact ⟨Am h2,fun b' h=>by cases h⟩
 have:=key l.length 0 b (by omega) h0
 rwa [List.drop_zero] at this
theorem Ib (st:Nat→β→σ) (fin : β→ρ) (I:Nat→β→Prop)
  (hgo:∀ n b,I (n + 1) b→∃ b',body (st (n + 1) b)=some (.inl (st n b'))∧I n b')
  (hend:∀ b,I 0 b→body (st 0 b)=some (.inr (fin b))):∀ n b,I n b→∃ b',loopM body (st n b)=some (fin b')∧I 0 b':=by
 intro n
 induction n with
 | zero=>intro b h; exact ⟨b,Am (hend b h),h⟩
 | succ n ih =>
  intro b h
  obtain ⟨b1,h1,h2⟩:=hgo n b h
  obtain ⟨b2,h3,h4⟩:=ih b1 h2
  exact ⟨b2,by rw[AH h1,h3],h4⟩
end
theorem Fu {β σ ρ:Type} {body : σ→Option (σ ⊕ ρ)} (st:Nat→β→σ) (fin : β→ρ) (I:Nat→β→Prop) (e:Nat)
  (hgo:∀ k b,k<e→I k b→∃ b',body (st k b)=some (.inl (st (k + 1) b'))∧I (k + 1) b')
  (hend:∀ b,I e b→body (st e b)=some (.inr (fin b))):∀ k b,k≤e→I k b→∃ b',loopM body (st k b)=some (fin b')∧I e b':=by
 have key:∀ (n k:Nat) (b : β),k + n=e→I k b→∃ b',loopM body (st k b)=some (fin b')∧I e b':=by
  intro n
  induction n with
  | zero =>
   intro k b hk hI
   have:k=e:=by omega
   subst this
   exact ⟨b,Am (hend b hI),hI⟩
  | succ n ih =>
   intro k b hk hI
   obtain ⟨b1,h1,h2⟩:=hgo k b (by omega) hI
   obtain ⟨b2,h3,h4⟩:=ih (k + 1) b1 (by omega) h2
   exact ⟨b2,by rw[AH h1,h3],h4⟩
 intro k b hk hI
 exact key (e-k) k b (by omega) hI
theorem wrapU {n:Int} (h1 : 0≤n) (h2:n<18446744073709551616):IntKind.wrap .u64 n=n:=by rw[IntKind.wrap_u64]; omega
theorem wrapU' (n:Int) : 0≤IntKind.wrap .u64 n∧IntKind.wrap .u64 n<18446744073709551616:=by rw[IntKind.wrap_u64]; omega
theorem getL {α:Type} {l:List α} {k:Nat} {a : α} (h:l[k]? = some a):k<l.length:=(List.getElem?_eq_some_iff.1 h).1
structure Cur (B:Nat) (c:List Int×Int×Int):Prop where
 bytes:∀ b∈c.1,0≤b∧b≤255
 short:c.1.length≤1048576
 lo : 0≤c.2.1
 hi:c.2.1≤(B:Int)
 seed0 : 0≤c.2.2
 seed1:c.2.2<18446744073709551616
theorem Cur.start {l:List Int} (h:∀ b∈l,0≤b∧b≤255) (hl:l.length≤1048576):Cur 0 (l,0,0):=⟨h,hl,by simp,by simp,by simp,by simp⟩
theorem Cur.mono {B B':Nat} {c:List Int×Int×Int} (h:Cur B c) (hb:B≤B'):Cur B' c:=⟨h.bytes,h.short,h.lo,by have:=h.hi; omega,h.seed0,h.seed1⟩
theorem obs {α β:Type} (a : α) (f : α→Option β):(some a).bind f=f a:=(rfl)
theorem cT {α:Type} (a b : α):(bif true then a else b)=a:=(rfl)
theorem cF {α:Type} (a b : α):(bif false then a else b)=b:=(rfl)
theorem nT:(!true)=false:=(rfl)
theorem nF:(!false)=true:=(rfl)
end Go.Proofs.YthipdlhknbhiiaaGreat.Ev

end
section
namespace Go.Proofs.YthipdlhknbhiiaaGreat.Ev
open Go
theorem and255 (a:Int) : 0≤andI .u64 a 255∧andI .u64 a 255≤255:=by
 unfold andI
 have h:((BitVec.ofInt (IntKind.bits .u64) a &&& BitVec.ofInt (IntKind.bits .u64) 255).toNat)≤255:=by
  rw[BitVec.toNat_and]
  exact Nat.le_trans Nat.and_le_right (by decide)
 rw[wrapU (by omega) (by omega)]
 omega
theorem An7 {B:Nat} {c:List Int×Int×Int} (h:Cur B c) (hB:B≤1125899906842624):∃ c' v,Cu c=some (c',v)∧Cur (B + 1) c'∧0≤v∧v≤255:=by
 obtain ⟨l,i,s⟩:=c
 obtain ⟨h1,h2,h3,h4,h5,h6⟩:=h
 simp only at h1 h2 h3 h4 h5 h6
 have w1:IntKind.wrap .i64 (i + 1)=i + 1:=wrapI (by omega) (by omega)
 have hcur:∀ x:Int,Cur (B + 1) (l,i + 1,IntKind.wrap .u64 x):=fun x=>⟨h1,h2,by simp only; omega,by simp only; omega,(wrapU' x).1,(wrapU' x).2⟩
 unfold Cu
 by_cases hi:i<(l.length:Int)
 ·obtain ⟨a,ha,hm⟩:=An8 h3 hi
  have hb:=h1 a (List.mem_of_getElem? hm)
  have hd:decide (i<(l.length:Int))=true:=by simpa using hi
  have hd2:decide (i + 1≤(l.length:Int))=true:=by simp; omega
  simp only[hd,cond_true,ha,Option.bind_some,Sum.elim_inr,w1,hd2,wrapI (show -9223372036854775808≤a by omega) (show a≤9223372036854775807 by omega)]
  exact ⟨_,_,rfl,hcur _,hb.1,hb.2⟩
 ·have hd:decide (i<(l.length:Int))=false:=by simpa using hi
  have hd2:decide (i + 1≤(l.length:Int))=false:=by simp; omega
  simp only[hd,cond_false,Option.bind_some,Sum.elim_inr,w1,hd2]
  refine ⟨_,_,rfl,hcur _,?_⟩
  have:=and255 (shrI .u64 (IntKind.wrap .u64 (IntKind.wrap .u64 (IntKind.wrap .u64 (s*6364136223846793005) + IntKind.wrap .u64 0) + 1442695040888963407)) 40)
  rw[wrapI (by omega) (by omega)]
  exact this
theorem XX {a n:Int} (h0 : 0≤a) (hn : 1<n) : 0≤a.tmod n∧a.tmod n<n:=by
 rw[Int.tmod_eq_emod_of_nonneg h0]
 exact ⟨Int.emod_nonneg _ (by omega),Int.emod_lt_of_pos _ (by omega)⟩
theorem Aw {B:Nat} {c:List Int×Int×Int} (h:Cur B c) (hB:B≤1000000000000000) (n:Int):∃ c' v,Ae c n=some (c',v)∧Cur (B + 2) c'∧0≤v∧(1≤n→v<n):=by
 unfold Ae
 by_cases h1:n≤1
 ·have hd:decide (n≤1)=true:=by simpa using h1
  simp only[hd,cond_true]
  exact ⟨_,_,rfl,h.mono (by omega),by omega,by omega⟩
 ·have hd:decide (n≤1)=false:=by simpa using h1
  have hz:(n==0)=false:=by simp; omega
  obtain ⟨c1,v1,e1,q1,b1,b2⟩:=An7 h (by omega)
  simp only[hd,cond_false,e1,Option.bind_some,hz]
  by_cases h2:n>200
  ·obtain ⟨c2,v2,e2,q2,b3,b4⟩:=An7 q1 (by omega)
   have hd2:decide (n>200)=true:=by simpa using h2
   simp only[hd2,cond_true,e2,Option.bind_some]
   refine ⟨_,_,rfl,q2.mono (by omega),?_⟩
   rw[wrapI (by rw[wrapI (by omega) (by omega)]; omega) (by rw[wrapI (by omega) (by omega)]; omega),wrapI (by omega) (by omega)]
   have:=XX (a:=v1*256 + v2) (n:=n) (by omega) (by omega)
   exact ⟨this.1,fun _=>this.2⟩
  ·have hd2:decide (n>200)=false:=by simpa using h2
   simp only[hd2,cond_false]
   have:=XX (a:=v1) (n:=n) (by omega) (by omega)
   exact ⟨_,_,rfl,q1.mono (by omega),this.1,fun _=>this.2⟩
theorem Fp {B:Nat} {c:List Int×Int×Int} (h:Cur B c) (hB:B≤1000000000000000) (n:Int):∃ c' v,Ap c n=some (c',v)∧Cur (B + 2) c':=by
 unfold Ap
 obtain ⟨c1,v1,e1,q1,_⟩:=Aw h hB n
 simp only[e1,Option.bind_some]
 exact ⟨_,_,rfl,q1⟩
theorem EU {B:Nat} {c:List Int×Int×Int} (h:Cur B c) (hB:B≤1000000000000000) (l:List Int) (h1 : 1≤l.length) (h2:l.length<1000000):∃ c' v,As c l=some (c',v)∧Cur (B + 2) c'∧v∈l:=by
 unfold As
 obtain ⟨c1,v1,e1,q1,b1,b2⟩:=Aw h hB (l.length:Int)
 have:=b2 (by omega)
 obtain ⟨a,ha,hm⟩:=An8 b1 this
 simp only[e1,Option.bind_some,ha]
 exact ⟨_,_,rfl,q1,List.mem_of_getElem? hm⟩
end Go.Proofs.YthipdlhknbhiiaaGreat.Ev

end
section
namespace Go.Proofs.YthipdlhknbhiiaaGreat.Ev
open Go
def B:Nat→Int
 | 0=>1
 | n + 1=>65536*B n
theorem EO:∀ n,0<B n
 | 0=>by decide
 | n + 1=>by have:=EO n; simp only[B]; omega
theorem Oz:∀ m n,B (m + n)=B m*B n
 | 0,n=>by simp[B]
 | m + 1,n=>by rw[show m + 1 + n=(m + n) + 1 by omega]; simp only[B]; rw[Oz m n,Int.mul_assoc]
theorem G9 {m n:Nat} (h:m≤n):B m≤B n:=by
 induction h with
 | refl=>exact Int.le_refl _
 | @step n h ih=>have:=EO n; simp only[B]; omega
def val:List Int→Int
 | []=>0
 | x::l=>x + 65536*val l
def LB (l:List Int):Prop:=∀ x∈l,0≤x∧x<65536
theorem LB.nil:LB []:=fun _ h=>absurd h (List.not_mem_nil)
theorem LB.head {x:Int} {l:List Int} (h:LB (x::l)) : 0≤x∧x<65536:=h x (List.mem_cons_self ..)
theorem LB.tail {x:Int} {l:List Int} (h:LB (x::l)):LB l:=fun y hy=>h y (List.mem_cons_of_mem _ hy)
theorem LB.cons {x:Int} {l:List Int} (hx : 0≤x∧x<65536) (h:LB l):LB (x::l):=fun y hy=>by
 rcases List.mem_cons.1 hy with rfl | hy
 ·exact hx
 ·exact h y hy
theorem LB.append {l m:List Int} (h:LB l) (h':LB m):LB (l++m):=fun y hy=>(List.mem_append.1 hy).elim (h y) (h' y)
theorem LB.take {l:List Int} (h:LB l) (n:Nat):LB (l.take n):=fun y hy=>h y (List.mem_of_mem_take hy)
theorem LB.drop {l:List Int} (h:LB l) (n:Nat):LB (l.drop n):=fun y hy=>h y (List.mem_of_mem_drop hy)
theorem LB.get {l:List Int} (h:LB l) {k:Nat} {x:Int} (hk:l[k]? = some x) : 0≤x∧x<65536:=h x (List.mem_of_getElem? hk)
theorem LB.set {l:List Int} (h:LB l) {k:Nat} {x:Int} (hx : 0≤x∧x<65536):LB (l.set k x):=fun y hy=>by
 rcases List.mem_or_eq_of_mem_set hy with hy | rfl
 ·exact h y hy
 ·exact hx
theorem LB.zeros (n:Nat):LB (List.replicate n 0):=fun y hy=>by have:=List.eq_of_mem_replicate hy; omega
theorem Ay:∀ {l:List Int},LB l→0≤val l
 | [],_=>Int.le_refl _
 | x::l,h=>by have:=h.head; have:=Ay h.tail; simp only[val]; omega
theorem Jo:∀ {l:List Int},LB l→val l<B l.length
 | [],_=>by decide
 | x::l,h=>by have:=h.head; have:=Jo h.tail; simp only[val,List.length_cons,B]; omega
theorem MW:∀ (l m:List Int),val (l++m)=val l + B l.length*val m
 | [],m=>by simp[val,B]
 | x::l,m=>by
  simp only[List.cons_append,val,List.length_cons,B,MW l m]
  rw[Int.mul_add,Int.mul_assoc]
  omega
theorem Dz:∀ n,val (List.replicate n 0)=0
 | 0=>rfl
 | n + 1=>by simp only[List.replicate_succ,val,Dz n]; omega
theorem It (l:List Int) (x:Int):val (l ++ [x])=val l + B l.length*x:=by rw[MW]; simp[val]
theorem OX (l:List Int) (n:Nat) (h:n≤l.length):val l=val (l.take n) + B n*val (l.drop n):=by
 have:=MW (l.take n) (l.drop n)
 rw[List.take_append_drop,List.length_take,Nat.min_eq_left h] at this
 exact this
theorem D1:∀ {l:List Int} {k:Nat} {x y:Int},l[k]? = some x→val (l.set k y)=val l + B k*(y-x)
 | [],k,x,y,h=>by simp at h
 | a::l,0,x,y,h=>by
  simp at h
  subst h
  simp only[List.set_cons_zero,val,B]
  omega
 | a::l,k + 1,x,y,h=>by
  simp only[List.getElem?_cons_succ] at h
  simp only[List.set_cons_succ,val,B,D1 (y:=y) h]
  rw[Int.mul_add,Int.mul_assoc]
  omega
def NB (l:List Int):Prop:=∀ x,l.getLast? = some x→x≠0
theorem NB.nil:NB []:=fun x h=>by simp at h
theorem NB.tail {x:Int} {l:List Int} (h:NB (x::l)):NB l:=fun y hy=>by
 cases l with
 | nil=>simp at hy
 | cons a t=>exact h y (by rw[List.getLast?_cons_cons]; exact hy)
theorem WZ:∀ {l:List Int},LB l→NB l→l≠[]→B (l.length-1)≤val l
 | [],_,_,h=>absurd rfl h
 | [x],h,hn,_=>by
  have h1:=h.head
  have h2:=hn x rfl
  simp only[val,List.length_cons,List.length_nil,B]
  simp[B]
  omega
 | x::y::l,h,hn,_=>by
  have h1:=h.head
  have h2:=WZ h.tail hn.tail (by simp)
  simp only[List.length_cons,Nat.add_sub_cancel] at h2 ⊢
  rw[val]
  simp only[B]
  omega
theorem Aa2 {l:List Int} (h:LB l) (hn:NB l) (h0:val l=0):l = []:=by
 cases l with
 | nil=>rfl
 | cons x l =>
  have h1:=WZ h hn (by simp)
  have h2:=EO ((x::l).length-1)
  omega
theorem Ao3:∀ {l m:List Int},LB l→NB l→LB m→NB m→val l=val m→l=m
 | [],m,_,_,hm,nm,h=>by
  have:val m=0:=by rw[←h]; rfl
  exact (Aa2 hm nm this).symm
 | x::l,[],hl,nl,_,_,h=>Aa2 hl nl (by rw[h]; rfl)
 | x::l,y::m,hl,nl,hm,nm,h=>by
  have h1:=hl.head
  have h2:=hm.head
  simp only[val] at h
  have hx:x=y:=by omega
  have hv:val l=val m:=by omega
  rw[hx,Ao3 hl.tail nl.tail hm.tail nm.tail hv]
def lim (n:Nat):List Int:=if h:n=0 then [] else ((n%65536:Nat):Int)::lim (n/65536)
termination_by n
decreasing_by omega
theorem Bh:lim 0 = []:=by unfold lim; simp
theorem Aq (n:Nat):LB (lim n):=by
 induction n using Nat.strongRecOn with
 | _ n ih =>
  unfold lim
  split
  ·exact LB.nil
  ·exact LB.cons (by omega) (ih (n/65536) (by omega))
theorem Aj (n:Nat):val (lim n)=n:=by
 induction n using Nat.strongRecOn with
 | _ n ih =>
  unfold lim
  split
  ·rename_i h; rw[h]; rfl
  ·simp only[val,ih (n/65536) (by omega)]
   omega
theorem Ga {n:Nat}:lim n = []↔n=0:=by
 constructor
 ·intro h
  have:=Aj n
  rw[h] at this
  simp only[val] at this
  omega
 ·rintro rfl; exact Bh
theorem PE (n:Nat):NB (lim n):=by
 induction n using Nat.strongRecOn with
 | _ n ih =>
  unfold lim
  split
  ·exact NB.nil
  ·rename_i hn
   intro x hx
   by_cases h0:n/65536=0
   ·rw[h0,Bh] at hx
    simp at hx
    omega
   ·have hne:lim (n/65536)≠[]:=fun h=>h0 (Ga.1 h)
    cases hl:lim (n/65536) with
    | nil=>exact absurd hl hne
    | cons a t =>
     rw[hl,List.getLast?_cons_cons] at hx
     exact ih (n/65536) (by omega) x (by rw[hl]; exact hx)
theorem AA7 {l:List Int} (h:LB l) (hn:NB l):l=lim (val l).toNat:=Ao3 h hn (Aq _) (PE _) (by rw[Aj]; have:=Ay h; omega)
theorem Ah {n k:Nat}:(lim n).length≤k↔(n:Int)<B k:=by
 constructor
 ·intro h
  have h1:=Jo (Aq n)
  rw[Aj] at h1
  have:=G9 h
  omega
 ·intro h
  rcases Nat.lt_or_ge k (lim n).length with hk | hk
  ·exfalso
   have hne:lim n≠[]:=by intro h0; rw[h0] at hk; simp at hk
   have h1:=WZ (Aq n) (PE n) hne
   rw[Aj] at h1
   have:=G9 (show k≤(lim n).length-1 by omega)
   omega
  ·exact hk
def strip:List Int→List Int
 | []=>[]
 | x::l=>match strip l with | []=>if x=0 then [] else [x] | m=>x::m
theorem TY:∀ {l:List Int},LB l→LB (strip l)∧NB (strip l)∧val (strip l)=val l
 | [],_=>⟨LB.nil,NB.nil,rfl⟩
 | x::l,h=>by
  obtain ⟨h1,h2,h3⟩:=TY h.tail
  simp only[strip]
  cases hs:strip l with
  | nil =>
   rw[hs] at h3
   simp only[val] at h3
   simp only
   split
   ·rename_i hx; subst hx; exact ⟨LB.nil,NB.nil,by simp only[val]; omega⟩
   ·rename_i hx
    exact ⟨LB.cons h.head LB.nil,fun y hy=>by simp at hy; subst hy; exact hx,by simp only[val]; omega⟩
  | cons a t =>
   rw[hs] at h1 h2 h3
   simp only
   exact ⟨LB.cons h.head h1,fun y hy=>h2 y (by rw[List.getLast?_cons_cons] at hy; exact hy),by rw[val,h3]; rfl⟩
theorem Bt {l:List Int} (h:LB l):strip l=lim (val l).toNat:=by
 obtain ⟨h1,h2,h3⟩:=TY h
 rw[AA7 h1 h2,h3]
theorem FV:∀ (l:List Int),strip (l ++ [0])=strip l
 | []=>rfl
 | x::l=>by simp only[List.cons_append,strip,FV l]
theorem J4:∀ {l:List Int},NB l→strip l=l
 | [],_=>rfl
 | x::l,h=>by
  simp only[strip,J4 h.tail]
  cases l with
  | nil=>simp only; rw[if_neg (h x rfl)]
  | cons a t=>rfl
theorem OQ:∀ (l:List Int),(strip l).length≤l.length
 | []=>Nat.le_refl _
 | x::l=>by
  have:=OQ l
  simp only[strip]
  split
  ·split <;> simp
  ·rename_i m hm; simp only[List.length_cons] at *; omega
end Go.Proofs.YthipdlhknbhiiaaGreat.Ev

end
section
namespace Go.Proofs.YthipdlhknbhiiaaGreat.Ev
open Go
def Brief (l:List Int):Prop:=l.length≤100000000
theorem Ao9 {l:List Int} (h:l≠[]):∃ m x,l=m ++ [x]:=⟨l.dropLast,l.getLast h,(List.dropLast_concat_getLast h).symm⟩
theorem Ao5 {m:List Int} {x:Int} (h:x≠0):NB (m ++ [x]):=fun y hy=>by
 rw[List.getLast?_append] at hy
 simp at hy
 subst hy
 exact h
theorem room1 {n:Nat} (h:n≤200000000):roomI n 8 1=true:=by unfold roomI; rw[decide_eq_true (by unfold maxBytes; omega),decide_eq_true (by unfold maxBytes; omega)]; rfl
theorem EY {l:List Int} (hb:Brief l):Bw l=some (strip l):=by
 have key:∀ (n:Nat) (l:List Int),l.length=n→n≤100000000→loopM (fun (s:(List Int))=>HC s) l=some (strip l):=by
  intro n
  induction n with
  | zero =>
   intro l hl _
   have:l = []:=List.eq_nil_of_length_eq_zero hl
   subst this
   exact Am rfl
  | succ n ih =>
   intro l hl hn
   obtain ⟨m,x,rfl⟩:=Ao9 (l:=l) (by intro h; subst h; simp at hl)
   have hm:m.length=n:=by simpa using hl
   have hlen:(((m ++ [x]).length:Nat):Int)=(n:Int) + 1:=by simp[hm]
   have hg:getI (m ++ [x]) (n:Int)=some x:=by rw[Ak,←hm]; simp
   have hstep:HC (m ++ [x])=if x=0 then some (Sum.inl m) else some (Sum.inr (m ++ [x])):=by
    unfold HC
    rw[hlen,wrapI (by omega) (by omega),show (n:Int) + 1-1=(n:Int) by omega,hg,decide_eq_true (by omega)]
    simp only[cond_true,Option.bind_some]
    by_cases hx:x=0
    ·rw[if_pos hx,beq_iff_eq.2 hx]
     have:subI 0 (n:Int) (m ++ [x]).length=some (0,n):=by unfold subI; simp[hm]; omega
     rw[this]
     simp[←hm]
    ·rw[if_neg hx,beq_eq_false_iff_ne.2 hx]
     rfl
   by_cases hx:x=0
   ·rw[if_pos hx] at hstep
    rw[AH hstep,ih m hm (by omega),hx,FV]
   ·rw[if_neg hx] at hstep
    rw[Am hstep,J4 (Ao5 hx)]
 unfold Bw
 have h:=OQ l
 unfold Brief at hb
 rw[key _ l rfl hb]
 simp only[Option.bind_some,room1 (show (strip l).length≤200000000 by omega),cond_true]
theorem VJ {l:List Int} (hb:Brief l):Fv l=some (strip l):=by
 unfold Brief at hb
 have key:∀ (n:Nat),n≤l.length→strip (l.take n)=strip l→∃ k:Nat,k≤l.length∧l.take k=strip l∧loopM (fun (s:((List Int)×Int))=>Lq s.1 s.2) (l,(n:Int))=some (l,(k:Int)):=by
  intro n
  induction n with
  | zero =>
   intro _ h
   exact ⟨0,by omega,by simpa[strip] using h,Am rfl⟩
  | succ n ih =>
   intro hn h
   have hlt:n<l.length:=by omega
   have hg:getI l (n:Int)=some l[n]:=by rw[Ak,List.getElem?_eq_getElem hlt]
   have ht:l.take (n + 1)=l.take n ++ [l[n]]:=by rw[List.take_add_one,List.getElem?_eq_getElem hlt]; rfl
   have hstep:Lq l ((n + 1:Nat):Int)=if l[n]=0 then some (Sum.inl (l,(n:Int))) else some (Sum.inr (l,((n + 1:Nat):Int))):=by
    unfold Lq
    rw[wrapI (by omega) (by omega),show ((n + 1:Nat):Int)-1=(n:Int) by omega,hg,decide_eq_true (by omega)]
    simp only[cond_true,Option.bind_some]
    by_cases hx:l[n]=0
    ·rw[if_pos hx,beq_iff_eq.2 hx]; rfl
    ·rw[if_neg hx,beq_eq_false_iff_ne.2 hx]; rfl
   by_cases hx:l[n]=0
   ·rw[if_pos hx] at hstep
    obtain ⟨k,h1,h2,h3⟩:=ih (by omega) (by rw[←h,ht,hx,FV])
    exact ⟨k,h1,h2,by rw[AH hstep]; exact h3⟩
   ·rw[if_neg hx] at hstep
    refine ⟨n + 1,hn,?_,Am hstep⟩
    rw[←h,ht,J4 (Ao5 hx)]
 obtain ⟨k,h1,h2,h3⟩:=key l.length (Nat.le_refl _) (by rw[List.take_length])
 unfold Fv
 rw[h3]
 have:subI 0 (k:Int) l.length=some (0,k):=by unfold subI; simp[h1]
 simp only[Option.bind_some,this,List.drop_zero,h2]
theorem VA {l:List Int} (hb:Brief l):A6 l=some l:=by
 unfold A6 orNil
 cases l with
 | nil=>rfl
 | cons a t =>
  unfold Brief at hb
  simp only[Bg,neL,Option.bind_some,room1 (show (a::t).length≤200000000 by omega),cond_true]
theorem YS {l:List Int} (h:Brief l):Brief (strip l):=by have:=OQ l; unfold Brief at *; omega
theorem KJ (l:List Int):decide (((l.length:Nat):Int)>0) = !l.isEmpty:=by cases l <;> simp <;> omega
theorem H1 (n:Nat):(!(lim n).isEmpty)=decide (n≠0):=by
 cases h:lim n with
 | nil=>rw[Ga.1 h]; rfl
 | cons a t=>simp; intro h0; rw[h0,Bh] at h; cases h
theorem FA {l:List Int} (h:LB l) (hb:Brief l) (neg:Bool):AO neg l=some (lim (val l).toNat,neg&&decide ((val l).toNat≠0)):=by
 unfold AO
 simp only[VJ hb,Option.bind_some,VA (YS hb),KJ]
 rw[Bt h,H1]
 cases neg <;> rfl
theorem C6 {l:List Int} (h:LB l) (hb:Brief l) (neg:Bool):AE neg l=some (lim (val l).toNat,neg&&decide ((val l).toNat≠0)):=by
 unfold AE
 simp only[EY hb,Option.bind_some,KJ]
 rw[Bt h,H1]
 cases neg <;> rfl
def big (z:Int):Bool×List Int:=(decide (z<0),lim z.natAbs)
theorem Aq6 {x y:Int} (h:big x=big y):x=y:=by
 unfold big at h
 have h1:=congrArg Prod.fst h
 have h2:=congrArg Prod.snd h
 simp only at h1 h2
 have h3:x.natAbs=y.natAbs:=by
  have:=congrArg val h2
  rw[Aj,Aj] at this
  omega
 by_cases hx:x<0 <;> by_cases hy:y<0 <;> simp[hx,hy] at h1 <;> omega
def goodB (b:Bool×List Int):Bool:=(b.2.all fun x=>decide (0≤x)&&decide (x≤65535))&&(match b.2.getLast? with | none=>!b.1 | some x=>decide (b.2.length≤40)&&(x != 0))
theorem DJ {b:Bool×List Int}:goodB b=true↔∃ z:Int,(z.natAbs:Int)<B 40∧b=big z:=by
 obtain ⟨neg,l⟩:=b
 unfold goodB
 simp only[Bool.and_eq_true,List.all_eq_true,decide_eq_true_eq]
 constructor
 ·rintro ⟨h1,h2⟩
  have hl:LB l:=fun x hx=>by have:=h1 x hx; omega
  cases hg:l.getLast? with
  | none =>
   rw[hg] at h2
   have:l = []:=List.getLast?_eq_none_iff.1 hg
   subst this
   have hn:neg=false:=by simpa using h2
   subst hn
   exact ⟨0,by decide,by unfold big; simp[Bh]⟩
  | some x =>
   rw[hg] at h2
   simp only[Bool.and_eq_true,decide_eq_true_eq,bne_iff_ne] at h2
   have hn:NB l:=fun y hy=>by rw[hg] at hy; cases hy; exact h2.2
   have hv:=AA7 hl hn
   have h0:(val l).toNat≠0:=by
    intro h0
    rw[h0,Bh] at hv
    rw[hv] at hg
    simp at hg
   have hlt:((val l).toNat:Int)<B 40:=Ah.1 (by rw[←hv]; exact h2.1)
   refine ⟨if neg then -((val l).toNat:Int) else ((val l).toNat:Int),?_,?_⟩
   ·cases neg <;> simp <;> omega
   ·unfold big
    cases neg
    ·simp only[Bool.false_eq_true,if_false]
     rw[decide_eq_false (by omega),Int.natAbs_natCast,←hv]
    ·simp only[if_true]
     rw[decide_eq_true (by omega),Int.natAbs_neg,Int.natAbs_natCast,←hv]
 ·rintro ⟨z,hz,h⟩
  unfold big at h
  have hn:neg=decide (z<0):=congrArg Prod.fst h
  have hl:l=lim z.natAbs:=congrArg Prod.snd h
  subst hl
  refine ⟨fun x hx=>by have:=Aq _ x hx; omega,?_⟩
  cases hg:(lim z.natAbs).getLast? with
  | none =>
   have:lim z.natAbs = []:=List.getLast?_eq_none_iff.1 hg
   have:=Ga.1 this
   rw[hn]
   simp
   omega
  | some x =>
   simp only[Bool.and_eq_true,decide_eq_true_eq,bne_iff_ne]
   exact ⟨Ah.2 hz,PE _ x hg⟩
theorem LR {z:Int} (h:(z.natAbs:Int)<B 40):goodB (big z)=true:=DJ.2 ⟨z,h,rfl⟩
theorem O9 (a b c:Int):A3 a b c=some (decide (b≤a)&&decide (a≤c)):=by
 unfold A3
 by_cases h:a≥b <;> simp[h]
theorem LE (a b c:Int):BB a b c=some (decide (b≤a)&&decide (a≤c)):=by
 unfold BB
 by_cases h:a≥b <;> simp[h]
theorem EP {k:Nat} {α:Type} {l:List α} {a : α} (h:l[k]? = some a):decide ((k:Int)<(l.length:Int))=true:=by have:=getL h; simpa using this
theorem Lw {α:Type} (l:List α):decide ((l.length:Int)<(l.length:Int))=false:=by simp
theorem XW {l:List Int} (hb:Brief l):An l=some (!(l.all fun x=>decide (0≤x)&&decide (x≤65535))):=by
 unfold An Bd
 unfold Brief at hb
 have key:=HY (body:=fun (s:((List Int)×(Int×Int)))=>AD s.1 s.2.1 s.2.2) (l:=l) (st:=fun k=>(l,(l.length:Int),(k:Int))) (p:=fun x=>decide (0≤x)&&decide (x≤65535)) (fin:=.inl ()) (bad:=fun k=>.inr (k:Int))
  (fun k a hk hp=>by
   have:=getL hk
   unfold AD DY
   simp only[EP hk,cond_true,Ak,hk,Option.bind_some,O9,hp,Bool.not_true,cond_false,wrap1 (show k<4611686018427387904 by omega)])
  (fun k a hk hp=>by
   unfold AD DY
   simp only[EP hk,cond_true,Ak,hk,Option.bind_some,O9,hp,Bool.not_false])
  (by unfold AD; simp only[Lw,cond_false])
 cases hall:l.all fun x=>decide (0≤x)&&decide (x≤65535) with
 | true =>
  have h:=key.1 hall
  rw[show ((0:Nat):Int)=0 from rfl] at h
  simp only[h,Option.bind_some,Sum.elim_inl]
  rfl
 | false =>
  obtain ⟨k,_,h⟩:=key.2 hall
  rw[show ((0:Nat):Int)=0 from rfl] at h
  simp only[h,Option.bind_some,Sum.elim_inr]
  have:decide ((k:Int)≥0)=true:=by simp
  rw[this]; rfl
theorem Qa {l:List Int} {x:Int} (h:l.getLast? = some x):l.length≠0∧getI l ((l.length:Int)-1)=some x:=by
 have hne:l≠[]:=by intro h0; subst h0; simp at h
 obtain ⟨m,y,rfl⟩:=Ao9 hne
 rw[List.getLast?_append] at h
 simp at h
 subst h
 refine ⟨by simp,?_⟩
 have:(((m ++ [y]).length:Nat):Int)-1=(m.length:Int):=by simp
 rw[this,Ak]
 simp
theorem VU {b:Bool×List Int} (hb:Brief b.2):FG b=some (goodB b):=by
 obtain ⟨neg,l⟩:=b
 unfold FG goodB
 have hb':=hb
 unfold Brief at hb'
 simp only at hb hb' ⊢
 rw[wrapI (by omega) (by omega),XW hb]
 cases hg:l.getLast? with
 | none =>
  have:l = []:=List.getLast?_eq_none_iff.1 hg
  subst this
  cases neg <;> rfl
 | some x =>
  obtain ⟨h0,h1⟩:=Qa hg
  have e0:(((l.length:Nat):Int)==0)=false:=beq_eq_false_iff_ne.2 (by omega)
  have e1:decide (((l.length:Nat):Int)>0)=true:=decide_eq_true (by omega)
  by_cases h40:l.length≤40
  ·have e2:decide (((l.length:Nat):Int)>40)=false:=decide_eq_false (by omega)
   simp only[e2,e0,e1,cond_false,cond_true,h1,Option.bind_some,Bool.not_not,decide_eq_true h40,Bool.true_and]
   by_cases hx:x=0
   ·subst hx; simp
   ·rw[beq_eq_false_iff_ne.2 hx]; simp[hx]
  ·have e2:decide (((l.length:Nat):Int)>40)=true:=decide_eq_true (by omega)
   simp only[e2,cond_true,decide_eq_false h40,Bool.false_and,Bool.and_false]
theorem Ln {b:Bool×List Int} (hb:Brief b.2):CD b=some (goodB b):=by
 obtain ⟨neg,l⟩:=b
 unfold CD goodB
 have hb':=hb
 unfold Brief at hb'
 simp only at hb hb' ⊢
 have key:=HY (body:=fun (s:((Bool×(List Int))×((List Int)×(Int×Int))))=>DW s.1 s.2.1 s.2.2.1 s.2.2.2) (l:=l) (st:=fun k=>((neg,l),(l,((l.length:Int),(k:Int))))) (p:=fun x=>decide (0≤x)&&decide (x≤65535)) (fin:=.inl (neg,l)) (bad:=fun k=>.inr false)
  (fun k a hk hp=>by
   have:=getL hk
   unfold DW
   simp only[EP hk,cond_true,Ak,hk,Option.bind_some,LE,hp,Bool.not_true,cond_false,wrap1 (show k<4611686018427387904 by omega)])
  (fun k a hk hp=>by
   unfold DW
   simp only[EP hk,cond_true,Ak,hk,Option.bind_some,LE,hp,Bool.not_false])
  (by unfold DW; simp only[Lw,cond_false])
 rw[show ((0:Nat):Int)=0 from rfl] at key
 cases hall:l.all fun x=>decide (0≤x)&&decide (x≤65535) with
 | false=>obtain ⟨k,_,h⟩:=key.2 hall; rw[h]; rfl
 | true =>
  rw[key.1 hall]
  simp only[Option.bind_some,Sum.elim_inl,Bool.true_and]
  rw[wrapI (by omega) (by omega)]
  cases hg:l.getLast? with
  | none =>
   have:l = []:=List.getLast?_eq_none_iff.1 hg
   subst this
   rfl
  | some x =>
   obtain ⟨h0,h1⟩:=Qa hg
   have e0:(((l.length:Nat):Int)==0)=false:=beq_eq_false_iff_ne.2 (by omega)
   simp only[e0,cond_false,h1,Option.bind_some]
   by_cases h40:l.length≤40
   ·rw[decide_eq_true (show ((l.length:Nat):Int)≤40 by omega),decide_eq_true h40]; rfl
   ·rw[decide_eq_false (show ¬((l.length:Nat):Int)≤40 by omega),decide_eq_false h40]; rfl
theorem AG5 {l:List (Bool×List Int)} (hl:l.length≤1000) (hb:∀ b∈l,Brief b.2):Fb l=some (l.all goodB):=by
 unfold Fb AG AP
 have key:=HY (body:=fun (s:((List (Bool×(List Int)))×(Int×Int)))=>Av s.1 s.2.1 s.2.2) (l:=l) (st:=fun k=>(l,(l.length:Int),(k:Int))) (p:=goodB) (fin:=.inl ()) (bad:=fun k=>.inr (k:Int))
  (fun k a hk hp=>by
   have:=getL hk
   unfold Av EI
   simp only[EP hk,cond_true,Ak,hk,Option.bind_some,VU (hb a (List.mem_of_getElem? hk)),hp,Bool.not_true,cond_false,wrap1 (show k<4611686018427387904 by omega)])
  (fun k a hk hp=>by
   unfold Av EI
   simp only[EP hk,cond_true,Ak,hk,Option.bind_some,VU (hb a (List.mem_of_getElem? hk)),hp,Bool.not_false])
  (by unfold Av; simp only[Lw,cond_false])
 rw[show ((0:Nat):Int)=0 from rfl] at key
 cases hall:l.all goodB with
 | true=>rw[key.1 hall]; rfl
 | false =>
  obtain ⟨k,_,h⟩:=key.2 hall
  rw[h]
  simp only[Option.bind_some,Sum.elim_inr]
  have:decide ((k:Int)≥0)=true:=by simp
  rw[this]; rfl
end Go.Proofs.YthipdlhknbhiiaaGreat.Ev

end
section
namespace Go.Proofs.YthipdlhknbhiiaaGreat.Ev
open Go
def cmpZ (a b:Int):Int:=if a<b then -1 else if b<a then 1 else 0
theorem C2 {a b:Int} (h:a<b):cmpZ a b = -1:=by unfold cmpZ; rw[if_pos h]
theorem FB {a b:Int} (h:b<a):cmpZ a b=1:=by unfold cmpZ; rw[if_neg (by omega),if_pos h]
theorem LU (a:Int):cmpZ a a=0:=by unfold cmpZ; simp
theorem BO (a b:Int):(cmpZ a b = -1∧a<b)∨(cmpZ a b=1∧b<a)∨(cmpZ a b=0∧a=b):=by unfold cmpZ; split <;> (try split) <;> omega
theorem OT (a b:Int):Bf a b=some (cmpZ a b):=by
 unfold Bf CQ cmpZ
 by_cases h1:a<b <;> by_cases h2:b<a <;> simp[h1,h2]
theorem ZB {k:Nat} {d:Int} (h:d≤-1):B k*d≤- B k:=by
 have:=Int.mul_le_mul_of_nonneg_left h (Int.le_of_lt (EO k))
 omega
theorem Ao1 {l m:List Int} (hl:LB l) (hm:LB m) {k:Nat} {x y:Int} (hx:l[k]? = some x) (hy:m[k]? = some y) (hd:l.drop (k + 1)=m.drop (k + 1)):(x<y→val l<val m)∧(y<x→val m<val l):=by
 have kl:=getL hx
 have km:=getL hy
 have e1:=OX l k (by omega)
 have e2:=OX m k (by omega)
 have d1:l.drop k=x::l.drop (k + 1):=by rw[List.drop_eq_getElem_cons kl]; congr 1; rw[List.getElem?_eq_getElem kl] at hx; exact Option.some.inj hx
 have d2:m.drop k=y::m.drop (k + 1):=by rw[List.drop_eq_getElem_cons km]; congr 1; rw[List.getElem?_eq_getElem km] at hy; exact Option.some.inj hy
 rw[d1] at e1
 rw[d2,←hd] at e2
 simp only[val] at e1 e2
 have t1:=Ay (hl.take k)
 have t2:=Ay (hm.take k)
 have t3:=Jo (hl.take k)
 have t4:=Jo (hm.take k)
 rw[List.length_take,Nat.min_eq_left (by omega)] at t3 t4
 rw[Int.mul_add] at e1 e2
 constructor
 ·intro h
  have:=ZB (k:=k) (show x-y≤-1 by omega)
  rw[Int.mul_sub] at this
  omega
 ·intro h
  have:=ZB (k:=k) (show y-x≤-1 by omega)
  rw[Int.mul_sub] at this
  omega
theorem R3 {a b:Nat}:((lim a).length<(lim b).length→a<b):=by
 intro h
 rcases Nat.lt_or_ge a b with h1 | h1
 ·exact h1
 ·exfalso
  have h2:=(Ah (n:=a) (k:=(lim a).length)).1 (Nat.le_refl _)
  have:=(Ah (n:=b) (k:=(lim a).length)).2 (by omega)
  omega
section
variable {l m:List Int} (hl:LB l) (hm:LB m) (hlen:l.length=m.length) (hb:Brief l)
include hl hm hlen hb
theorem Ag4:(val l=val m→loopM (fun (s:((List Int)×((List Int)×Int)))=>AF s.1 s.2.1 s.2.2) (l,(m,(l.length:Int)-1))=some (.inl ())) ∧
  (val l≠val m→loopM (fun (s:((List Int)×((List Int)×Int)))=>AF s.1 s.2.1 s.2.2) (l,(m,(l.length:Int)-1))=some (.inr (cmpZ (val l) (val m)))):=by
 unfold Brief at hb
 have key:∀ (n:Nat),n≤l.length→l.drop n=m.drop n→(l=m→loopM (fun (s:((List Int)×((List Int)×Int)))=>AF s.1 s.2.1 s.2.2) (l,(m,(n:Int)-1))=some (.inl ()))∧(l≠m→loopM (fun (s:((List Int)×((List Int)×Int)))=>AF s.1 s.2.1 s.2.2) (l,(m,(n:Int)-1))=some (.inr (cmpZ (val l) (val m)))∧val l≠val m):=by
  intro n
  induction n with
  | zero =>
   intro _ h
   simp only[List.drop_zero] at h
   refine ⟨fun _=>Am rfl,fun hn=>absurd h hn⟩
  | succ n ih =>
   intro hn h
   have k1:n<l.length:=by omega
   have k2:n<m.length:=by omega
   have hx:l[n]? = some l[n]:=List.getElem?_eq_getElem k1
   have hy:m[n]? = some m[n]:=List.getElem?_eq_getElem k2
   have hs:((n + 1:Nat):Int)-1=(n:Int):=by omega
   rw[hs]
   by_cases he:l[n]=m[n]
   ·have hd:l.drop n=m.drop n:=by rw[List.drop_eq_getElem_cons k1,List.drop_eq_getElem_cons k2,he,h]
    have hstep:AF l m (n:Int)=some (.inl (l,(m,(n:Int)-1))):=by
     unfold AF
     rw[decide_eq_true (show (n:Int)≥0 by omega),Ak,Ak,hx,hy,wrapI (by omega) (by omega)]
     simp only[cond_true,Option.bind_some,he,bne_self_eq_false,cond_false]
    obtain ⟨i1,i2⟩:=ih (by omega) hd
    exact ⟨fun hh=>by rw[AH hstep]; exact i1 hh,fun hh=>by rw[AH hstep]; exact i2 hh⟩
   ·obtain ⟨c1,c2⟩:=Ao1 hl hm hx hy h
    have hne:l≠m:=fun hh=>he (by subst hh; rfl)
    have hc:cmpZ l[n] m[n]=cmpZ (val l) (val m):=by
     rcases Int.lt_or_gt_of_ne he with h1 | h1
     ·rw[C2 h1,C2 (c1 h1)]
     ·rw[FB h1,FB (c2 h1)]
    have hstep:AF l m (n:Int)=some (.inr (.inr (cmpZ (val l) (val m)))):=by
     unfold AF
     rw[decide_eq_true (show (n:Int)≥0 by omega),Ak,Ak,hx,hy]
     have hb:(l[n] != m[n])=true:=by simpa using he
     simp only[cond_true,Option.bind_some,hb,OT,hc]
    refine ⟨fun hh=>absurd hh hne,fun _=>⟨Am hstep,?_⟩⟩
    rcases Int.lt_or_gt_of_ne he with h1 | h1
    ·have:=c1 h1; omega
    ·have:=c2 h1; omega
 obtain ⟨h1,h2⟩:=key l.length (Nat.le_refl _) (by rw[List.drop_length,hlen,List.drop_length])
 constructor
 ·intro hv
  by_cases he:l=m
  ·exact h1 he
  ·exact absurd hv (h2 he).2
 ·intro hv
  exact (h2 fun he=>hv (by rw[he])).1
theorem Ai7:(val l=val m→loopM (fun (s:((List Int)×((List Int)×Int)))=>B8 s.1 s.2.1 s.2.2) (l,(m,(l.length:Int)-1))=some (.inl ())) ∧
  (val l≠val m→loopM (fun (s:((List Int)×((List Int)×Int)))=>B8 s.1 s.2.1 s.2.2) (l,(m,(l.length:Int)-1))=some (.inr (cmpZ (val l) (val m)))):=by
 unfold Brief at hb
 have key:∀ (n:Nat),n≤l.length→l.drop n=m.drop n→(l=m→loopM (fun (s:((List Int)×((List Int)×Int)))=>B8 s.1 s.2.1 s.2.2) (l,(m,(n:Int)-1))=some (.inl ()))∧(l≠m→loopM (fun (s:((List Int)×((List Int)×Int)))=>B8 s.1 s.2.1 s.2.2) (l,(m,(n:Int)-1))=some (.inr (cmpZ (val l) (val m)))∧val l≠val m):=by
  intro n
  induction n with
  | zero =>
   intro _ h
   simp only[List.drop_zero] at h
   refine ⟨fun _=>Am rfl,fun hn=>absurd h hn⟩
  | succ n ih =>
   intro hn h
   have k1:n<l.length:=by omega
   have k2:n<m.length:=by omega
   have hx:l[n]? = some l[n]:=List.getElem?_eq_getElem k1
   have hy:m[n]? = some m[n]:=List.getElem?_eq_getElem k2
   have hs:((n + 1:Nat):Int)-1=(n:Int):=by omega
   rw[hs]
   by_cases he:l[n]=m[n]
   ·have hd:l.drop n=m.drop n:=by rw[List.drop_eq_getElem_cons k1,List.drop_eq_getElem_cons k2,he,h]
    have hstep:B8 l m (n:Int)=some (.inl (l,(m,(n:Int)-1))):=by
     unfold B8
     rw[decide_eq_true (show (n:Int)≥0 by omega),Ak,Ak,hx,hy,wrapI (by omega) (by omega)]
     simp only[cond_true,Option.bind_some,he]
     rw[decide_eq_false (Int.lt_irrefl _)]
     rfl
    obtain ⟨i1,i2⟩:=ih (by omega) hd
    exact ⟨fun hh=>by rw[AH hstep]; exact i1 hh,fun hh=>by rw[AH hstep]; exact i2 hh⟩
   ·obtain ⟨c1,c2⟩:=Ao1 hl hm hx hy h
    have hne:l≠m:=fun hh=>he (by subst hh; rfl)
    have hstep:B8 l m (n:Int)=some (.inr (.inr (cmpZ (val l) (val m)))):=by
     unfold B8
     rw[decide_eq_true (show (n:Int)≥0 by omega),Ak,Ak,hx,hy]
     simp only[cond_true,Option.bind_some]
     rcases Int.lt_or_gt_of_ne he with h1 | h1
     ·rw[decide_eq_true h1,C2 (c1 h1)]; rfl
     ·rw[decide_eq_false (by omega),decide_eq_true h1,FB (c2 h1)]; rfl
    refine ⟨fun hh=>absurd hh hne,fun _=>⟨Am hstep,?_⟩⟩
    rcases Int.lt_or_gt_of_ne he with h1 | h1
    ·have:=c1 h1; omega
    ·have:=c2 h1; omega
 obtain ⟨h1,h2⟩:=key l.length (Nat.le_refl _) (by rw[List.drop_length,hlen,List.drop_length])
 constructor
 ·intro hv
  by_cases he:l=m
  ·exact h1 he
  ·exact absurd hv (h2 he).2
 ·intro hv
  exact (h2 fun he=>hv (by rw[he])).1
end
theorem GD {a b:Nat} (ha:Brief (lim a)) (hb:Brief (lim b)):Ba (lim a) (lim b)=some (cmpZ a b):=by
 unfold Ba
 have ha':=ha
 have hb':=hb
 unfold Brief at ha' hb'
 by_cases h:(lim a).length=(lim b).length
 ·have e:((((lim a).length:Nat):Int) != (((lim b).length:Nat):Int))=false:=by simp[h]
  rw[e,wrapI (by omega) (by omega)]
  simp only[cond_false]
  obtain ⟨h1,h2⟩:=Ag4 (Aq a) (Aq b) h ha
  rw[Aj,Aj] at h1 h2
  by_cases hv:(a:Int)=b
  ·rw[h1 hv,hv,LU]; rfl
  ·rw[h2 hv]; rfl
 ·have e:((((lim a).length:Nat):Int) != (((lim b).length:Nat):Int))=true:=by simp; omega
  rw[e]
  simp only[cond_true,OT,Option.bind_some]
  rcases Nat.lt_or_gt_of_ne h with h1 | h1
  ·have:=R3 h1
   rw[C2 (by omega),C2 (by omega)]
  ·have:=R3 h1
   rw[FB (by omega),FB (by omega)]
theorem OF {a b:Nat} (ha:Brief (lim a)) (hb:Brief (lim b)):BA (lim a) (lim b)=some (cmpZ a b):=by
 unfold BA
 have ha':=ha
 have hb':=hb
 unfold Brief at ha' hb'
 by_cases h:(lim a).length=(lim b).length
 ·have e:((((lim a).length:Nat):Int) != (((lim b).length:Nat):Int))=false:=by simp[h]
  rw[e,wrapI (by omega) (by omega)]
  simp only[cond_false]
  obtain ⟨h1,h2⟩:=Ai7 (Aq a) (Aq b) h ha
  rw[Aj,Aj] at h1 h2
  by_cases hv:(a:Int)=b
  ·rw[h1 hv,hv,LU]; rfl
  ·rw[h2 hv]; rfl
 ·have e:((((lim a).length:Nat):Int) != (((lim b).length:Nat):Int))=true:=by simp; omega
  rw[e]
  simp only[cond_true]
  rcases Nat.lt_or_gt_of_ne h with h1 | h1
  ·have:=R3 h1
   rw[decide_eq_true (by omega),C2 (by omega)]; rfl
  ·have:=R3 h1
   rw[decide_eq_false (by omega),FB (by omega)]; rfl
def dg (l:List Int) (k:Nat):Int:=l.getD k 0
theorem Ec {l:List Int} {k:Nat} {x:Int} (h:l[k]? = some x):dg l k=x:=by unfold dg; rw[List.getD_eq_getElem?_getD,h]; rfl
theorem F0 {l:List Int} {k:Nat} (h:l.length≤k):dg l k=0:=by unfold dg; rw[List.getD_eq_getElem?_getD,List.getElem?_eq_none h]; rfl
theorem AI {l:List Int} (h:LB l) (k:Nat) : 0≤dg l k∧dg l k<65536:=by
 rcases Nat.lt_or_ge k l.length with hk | hk
 ·rw[Ec (List.getElem?_eq_getElem hk)]; exact h _ (List.getElem_mem _)
 ·rw[F0 hk]; omega
theorem Ax (l:List Int) (k:Nat):val (l.take (k + 1))=val (l.take k) + B k*dg l k:=by
 rcases Nat.lt_or_ge k l.length with hk | hk
 ·have he:=List.getElem?_eq_getElem hk
  rw[List.take_add_one,he,Ec he,Option.toList_some,It,List.length_take,Nat.min_eq_left (by omega)]
 ·rw[F0 hk,List.take_of_length_le (by omega),List.take_of_length_le hk]
  omega
theorem HZ {l:List Int} (k:Nat):BQ l (k:Int)=some (dg l k):=by
 unfold BQ
 rcases Nat.lt_or_ge k l.length with hk | hk
 ·rw[decide_eq_true (by omega),Ak,List.getElem?_eq_getElem hk,Ec (List.getElem?_eq_getElem hk)]
  rfl
 ·rw[decide_eq_false (by omega),F0 hk]
  rfl
theorem app1 {l:List Int} {x:Int} (h:l.length≤100000000):appL 8 1 l [x]=some (l ++ [x]):=Na (by simp[maxBytes]; omega) (by simp[maxBytes]; omega)
theorem Xi {a b:List Int} (ha:LB a) (hb:LB b) (na:a.length≤10000000) (nb:b.length≤10000000) :
  ∃ r,Db a b=some r∧LB r∧val r=val a + val b∧r.length≤max a.length b.length + 1∧(r.length≤max a.length b.length∨B (max a.length b.length)≤val a + val b):=by
 unfold Db
 obtain ⟨r,h1,h2⟩:=EQ (f:=fun (s:((List Int)×((List Int)×((List Int)×(Int×Int)))))=>Cp s.1 s.2.1 s.2.2.1 s.2.2.2.1 s.2.2.2.2)
  (I:=fun s=>∃ (k:Nat) (out:List Int) (c:Int),s=(out,(a,(b,(c,(k:Int)))))∧out.length=k∧k≤max a.length b.length + 1∧LB out∧(c=0∨c=1)∧(k=max a.length b.length + 1→c=0∧B (max a.length b.length)≤val a + val b)∧val out + B k*c=val (a.take k) + val (b.take k))
  (R:=fun r=>LB r∧val r=val a + val b∧r.length≤max a.length b.length + 1∧(r.length≤max a.length b.length∨B (max a.length b.length)≤val a + val b)) (fun s=>max a.length b.length + 2-s.1.length) (by
   rintro s ⟨k,out,c,rfl,h1,h2,h3,h4,h4',h5⟩
   simp only
   have da:=AI ha k
   have db:=AI hb k
   have go:k<max a.length b.length∨c=1→∃ c',Cp out a b c (k:Int)=some (.inl (out ++ [(dg a k + dg b k + c)%65536],(a,(b,(c',((k + 1:Nat):Int))))))∧c'=(dg a k + dg b k + c)/65536:=by
    intro hgo
    refine ⟨_,?_,rfl⟩
    have hkk:k≤max a.length b.length:=by rcases hgo with h | h <;> omega
    unfold Cp
    have hcond:(bif decide ((k:Int)<((a.length:Nat):Int)) then some (Sum.inr (α:=(List Int×List Int×List Int×Int×Int) ⊕ List Int) (out,(a,(b,(c,(k:Int)))))) else bif decide ((k:Int)<((b.length:Nat):Int)) then some (Sum.inr (out,(a,(b,(c,(k:Int)))))) else bif decide (c>0) then some (Sum.inr (out,(a,(b,(c,(k:Int)))))) else some (Sum.inl (Sum.inr out)))=some (Sum.inr (out,(a,(b,(c,(k:Int)))))):=by
     by_cases c1:(k:Int)<(a.length:Int)
     ·rw[decide_eq_true c1]; rfl
     ·by_cases c2:(k:Int)<(b.length:Int)
      ·rw[decide_eq_false c1,decide_eq_true c2]; rfl
      ·have:c>0:=by rcases hgo with h | h <;> omega
       rw[decide_eq_false c1,decide_eq_false c2,decide_eq_true this]; rfl
    rw[hcond]
    simp only[Option.bind_some,Sum.elim_inr,HZ]
    rw[wrapI (n:=dg a k + dg b k) (by omega) (by omega),wrapI (n:=dg a k + dg b k + c) (by omega) (by omega),Int.tmod_eq_emod_of_nonneg (by omega),Int.tdiv_eq_ediv_of_nonneg (by omega),wrapI (by omega) (by omega),app1 (by omega),wrap1 (by omega)]
    rfl
   by_cases hgo:k<max a.length b.length∨c=1
   ·obtain ⟨c',e1,e2⟩:=go hgo
    clear go
    have hkk:k≤max a.length b.length:=by
     rcases hgo with h | h
     ·omega
     ·rcases Nat.lt_or_ge (max a.length b.length) k with h6 | h6
      ·have:=h4' (by omega); omega
      ·exact h6
    refine .inl ⟨_,e1,⟨k + 1,_,c',rfl,by simp[h1],by omega,h3.append (LB.cons (by omega) LB.nil),by omega,?_,?_⟩,by simp; omega⟩
    ·intro hk
     have:k=max a.length b.length:=by omega
     rw[F0 (by omega),F0 (by omega)] at e2
     refine ⟨by omega,?_⟩
     have hc1:c=1:=by omega
     rw[hc1,List.take_of_length_le (by omega),List.take_of_length_le (by omega),this] at h5
     have:=Ay h3
     omega
    ·rw[It,h1,Ax,Ax]
     have:B (k + 1)*c'=B k*(65536*c'):=by simp only[B]; rw[Int.mul_comm 65536 (B k),Int.mul_assoc]
     rw[this]
     have hq:(dg a k + dg b k + c)%65536 + 65536*c'=dg a k + dg b k + c:=by omega
     have:B k*((dg a k + dg b k + c)%65536) + B k*(65536*c')=B k*dg a k + B k*dg b k + B k*c:=by rw[←Int.mul_add,hq,Int.mul_add,Int.mul_add]
     omega
   ·clear go
    have hc:c=0:=by omega
    have hk:max a.length b.length≤k:=by omega
    subst hc
    refine .inr ⟨out,?_,h3,?_,by omega,?_⟩
    ·unfold Cp
     rw[decide_eq_false (by omega),decide_eq_false (by omega)]
     rfl
    ·rw[List.take_of_length_le (by omega),List.take_of_length_le (by omega)] at h5
     omega
    ·rcases Nat.lt_or_ge (max a.length b.length) k with h6 | h6
     ·exact .inr (h4' (by omega)).2
     ·left; omega) ([],(a,(b,(0,0)))) ⟨0,[],0,rfl,rfl,by omega,LB.nil,.inl rfl,by omega,by simp[val,B]⟩
 exact ⟨r,by rw[h1]; rfl,h2⟩
theorem Af1 {a b:List Int} (ha:LB a) (hb:LB b) (na:a.length≤10000000) (nb:b.length≤10000000) :
  ∃ r,E4 a b=some r∧LB r∧val r=val a + val b∧r.length≤max a.length b.length + 1:=by
 unfold E4
 have hM:maxL [((a.length:Nat):Int),((b.length:Nat):Int)]=((max a.length b.length:Nat):Int):=by simp only[maxL,List.foldl]; split <;> omega
 obtain ⟨r,h1,h2⟩:=EQ (f:=fun (s:((List Int)×((List Int)×((List Int)×(Int×Int)))))=>Dc s.1 s.2.1 s.2.2.1 s.2.2.2.1 s.2.2.2.2)
  (I:=fun s=>∃ (k:Nat) (out:List Int) (c:Int),s=(out,(a,(b,(c,(k:Int)))))∧out.length=k∧k≤max a.length b.length + 1∧LB out∧(c=0∨c=1)∧(k=max a.length b.length + 1→c=0)∧val out + B k*c=val (a.take k) + val (b.take k))
  (R:=fun r=>LB r∧val r=val a + val b∧r.length≤max a.length b.length + 1) (fun s=>max a.length b.length + 2-s.1.length) (by
   rintro s ⟨k,out,c,rfl,h1,h2,h3,h4,h4',h5⟩
   simp only
   have da:=AI ha k
   have db:=AI hb k
   have go:k<max a.length b.length∨c=1→∃ c',Dc out a b c (k:Int)=some (.inl (out ++ [(dg a k + dg b k + c)%65536],(a,(b,(c',((k + 1:Nat):Int))))))∧c'=(dg a k + dg b k + c)/65536:=by
    intro hgo
    refine ⟨_,?_,rfl⟩
    have hkk:k≤max a.length b.length:=by rcases hgo with h | h <;> omega
    unfold Dc
    rw[hM]
    have hcond:(bif decide ((k:Int)<((max a.length b.length:Nat):Int)) then some (Sum.inr (α:=(List Int×List Int×List Int×Int×Int) ⊕ List Int) (out,(a,(b,(c,(k:Int)))))) else bif decide (c>0) then some (Sum.inr (out,(a,(b,(c,(k:Int)))))) else some (Sum.inl (Sum.inr out)))=some (Sum.inr (out,(a,(b,(c,(k:Int)))))):=by
     by_cases c1:(k:Int)<((max a.length b.length:Nat):Int)
     ·rw[decide_eq_true c1]; rfl
     ·have:c>0:=by rcases hgo with h | h <;> omega
      rw[decide_eq_false c1,decide_eq_true this]; rfl
    rw[hcond]
    simp only[Option.bind_some,Sum.elim_inr]
    have s1:(bif decide ((k:Int)<((a.length:Nat):Int)) then (getI a (k:Int)).bind fun x3=>some (Sum.inr (α:=(List Int×List Int×List Int×Int×Int) ⊕ List Int) (out,(a,(b,(IntKind.wrap .i64 (c + x3),(k:Int)))))) else some (Sum.inr (out,(a,(b,(c,(k:Int)))))))=some (Sum.inr (out,(a,(b,(c + dg a k,(k:Int)))))):=by
     rcases Nat.lt_or_ge k a.length with hk | hk
     ·rw[decide_eq_true (by omega),Ak,List.getElem?_eq_getElem hk,←Ec (List.getElem?_eq_getElem hk)]
      simp only[cond_true,Option.bind_some]
      rw[wrapI (by omega) (by omega)]
     ·rw[decide_eq_false (by omega),F0 hk]
      simp
    rw[s1]
    simp only[Option.bind_some,Sum.elim_inr]
    have s2:(bif decide ((k:Int)<((b.length:Nat):Int)) then (getI b (k:Int)).bind fun x3=>some (Sum.inr (α:=(List Int×List Int×List Int×Int×Int) ⊕ List Int) (out,(a,(b,(IntKind.wrap .i64 (c + dg a k + x3),(k:Int)))))) else some (Sum.inr (out,(a,(b,(c + dg a k,(k:Int)))))))=some (Sum.inr (out,(a,(b,(dg a k + dg b k + c,(k:Int)))))):=by
     rcases Nat.lt_or_ge k b.length with hk | hk
     ·rw[decide_eq_true (by omega),Ak,List.getElem?_eq_getElem hk,←Ec (List.getElem?_eq_getElem hk)]
      simp only[cond_true,Option.bind_some]
      rw[wrapI (by omega) (by omega),show c + dg a k + dg b k=dg a k + dg b k + c by omega]
     ·rw[decide_eq_false (by omega),F0 hk,show dg a k + 0 + c=c + dg a k by omega]
      rfl
    rw[s2]
    simp only[Option.bind_some,Sum.elim_inr]
    rw[Int.tmod_eq_emod_of_nonneg (by omega),Int.tdiv_eq_ediv_of_nonneg (by omega),wrapI (by omega) (by omega),app1 (by omega),wrap1 (by omega)]
    rfl
   by_cases hgo:k<max a.length b.length∨c=1
   ·obtain ⟨c',e1,e2⟩:=go hgo
    clear go
    have hkk:k≤max a.length b.length:=by
     rcases hgo with h | h
     ·omega
     ·rcases Nat.lt_or_ge (max a.length b.length) k with h6 | h6
      ·have:=h4' (by omega); omega
      ·exact h6
    refine .inl ⟨_,e1,⟨k + 1,_,c',rfl,by simp[h1],by omega,h3.append (LB.cons (by omega) LB.nil),by omega,?_,?_⟩,by simp; omega⟩
    ·intro hk
     have:k=max a.length b.length:=by omega
     rw[F0 (by omega),F0 (by omega)] at e2
     omega
    ·rw[It,h1,Ax,Ax]
     have:B (k + 1)*c'=B k*(65536*c'):=by simp only[B]; rw[Int.mul_comm 65536 (B k),Int.mul_assoc]
     rw[this]
     have hq:(dg a k + dg b k + c)%65536 + 65536*c'=dg a k + dg b k + c:=by omega
     have:B k*((dg a k + dg b k + c)%65536) + B k*(65536*c')=B k*dg a k + B k*dg b k + B k*c:=by rw[←Int.mul_add,hq,Int.mul_add,Int.mul_add]
     omega
   ·clear go
    have hc:c=0:=by omega
    have hk:max a.length b.length≤k:=by omega
    subst hc
    refine .inr ⟨out,?_,h3,?_,by omega⟩
    ·unfold Dc
     rw[hM,decide_eq_false (by omega)]
     rfl
    ·rw[List.take_of_length_le (by omega),List.take_of_length_le (by omega)] at h5
     omega) ([],(a,(b,(0,0)))) ⟨0,[],0,rfl,rfl,by omega,LB.nil,.inl rfl,by omega,by simp[val,B]⟩
 exact ⟨r,by rw[h1]; rfl,h2⟩
end Go.Proofs.YthipdlhknbhiiaaGreat.Ev

end
section
namespace Go.Proofs.YthipdlhknbhiiaaGreat.Ev
open Go
theorem Qp {v:Int} (h : -65536≤v∧v<65536) : 0≤(if v<0 then v + 65536 else v)∧(if v<0 then v + 65536 else v)<65536∧(if v<0 then v + 65536 else v)-65536*(if v<0 then 1 else 0)=v∧((if v<0 then 1 else 0:Int)=0∨(if v<0 then 1 else 0:Int)=1):=by
 split <;> omega
theorem TO {k:Nat} {A Bv out d br br' v x y:Int} (h1:out-B k*br=A-Bv) (h2:d-65536*br'=v) (h3:v=x-y-br):out + B k*d-B (k + 1)*br'=A + B k*x-(Bv + B k*y):=by
 have e1:B (k + 1)*br'=B k*(65536*br'):=by simp only[B]; rw[Int.mul_comm 65536 (B k),Int.mul_assoc]
 have e2:B k*d-B k*(65536*br')=B k*x-B k*y-B k*br:=by rw[←Int.mul_sub,h2,h3,Int.mul_sub,Int.mul_sub]
 rw[e1]
 omega
theorem NP {a b:List Int} (ha:LB a) (hb:LB b) (hlen:b.length≤a.length) (na:a.length≤10000000) (hle:val b≤val a) :
  Cx a b=some (lim (val a-val b).toNat):=by
 unfold Cx
 obtain ⟨r,h1,h2⟩:=EQ (f:=fun (s:((List Int)×((List Int)×((List Int)×(Int×(Int×Int))))))=>DB s.1 s.2.1 s.2.2.1 s.2.2.2.1 s.2.2.2.2.1 s.2.2.2.2.2)
  (I:=fun s=>∃ (k:Nat) (out:List Int) (c:Int),s=(out,(a,(b,(c,((a.length:Int),(k:Int))))))∧out.length=k∧k≤a.length∧LB out∧(c=0∨c=1)∧val out-B k*c=val (a.take k)-val (b.take k))
  (R:=fun r=>LB r∧val r=val a-val b∧r.length=a.length) (fun s=>a.length + 1-s.1.length) (by
   rintro s ⟨k,out,c,rfl,h1,h2,h3,h4,h5⟩
   simp only
   by_cases hk:k<a.length
   ·have da:=AI ha k
    have db:=AI hb k
    have hg:=List.getElem?_eq_getElem hk
    have hx:a[k]=dg a k:=(Ec hg).symm
    have hv:=Qp (v:=dg a k-dg b k-c) (by omega)
    refine .inl ⟨(out ++ [if dg a k-dg b k-c<0 then dg a k-dg b k-c + 65536 else dg a k-dg b k-c],(a,(b,((if dg a k-dg b k-c<0 then 1 else 0),((a.length:Int),((k + 1:Nat):Int)))))),?_,⟨k + 1,_,_,rfl,by simp[h1],by omega,h3.append (LB.cons (by omega) LB.nil),hv.2.2.2,?_⟩,by simp; omega⟩
    ·unfold DB
     rw[decide_eq_true (by omega),Ak,hg]
     simp only[cond_true,Option.bind_some,HZ,hx]
     rw[wrapI (n:=dg a k-dg b k) (by omega) (by omega),wrapI (n:=dg a k-dg b k-c) (by omega) (by omega),wrapI (n:=dg a k-dg b k-c + 65536) (by omega) (by omega),wrap1 (by omega)]
     by_cases hneg:dg a k-dg b k-c<0
     ·rw[decide_eq_true hneg,if_pos hneg,if_pos hneg]
      simp only[cond_true]
      rw[app1 (by omega)]
      rfl
     ·rw[decide_eq_false hneg,if_neg hneg,if_neg hneg]
      simp only[cond_false]
      rw[app1 (by omega)]
      rfl
    ·rw[It,h1,Ax,Ax]
     exact TO h5 hv.2.2.1 rfl
   ·have hk':k=a.length:=by omega
    refine .inr ⟨out,?_,h3,?_,by omega⟩
    ·unfold DB
     rw[decide_eq_false (by omega)]
     rfl
    ·rw[List.take_of_length_le (by omega),List.take_of_length_le (by omega)] at h5
     have b1:=Jo h3
     have b2:=Ay h3
     rw[h1] at b1
     rcases h4 with h4 | h4
     ·subst h4; omega
     ·subst h4; omega) ([],(a,(b,(0,((a.length:Int),0))))) ⟨0,[],0,rfl,rfl,by omega,LB.nil,.inl rfl,by simp[val,B]⟩
 rw[h1]
 simp only[Option.bind_some]
 rw[EY (by unfold Brief; omega)]
 simp only[Option.bind_some]
 rw[Bt h2.1,h2.2.1]
theorem Se {a b:List Int} (ha:LB a) (hb:LB b) (hlen:b.length≤a.length) (na:a.length≤10000000) (hle:val b≤val a) :
  DK a b=some (lim (val a-val b).toNat):=by
 unfold DK
 rw[VA (by unfold Brief; omega)]
 simp only[Option.bind_some]
 obtain ⟨r,h1,h2⟩:=EQ (f:=fun (s:((List Int)×((List Int)×(Int×(Int×Int)))))=>EV s.1 s.2.1 s.2.2.1 s.2.2.2.1 s.2.2.2.2)
  (I:=fun s=>∃ (k:Nat) (out:List Int) (c:Int),s=(out,(b,(c,((a.length:Int),(k:Int)))))∧out.length=a.length∧k≤a.length∧LB (out.take k)∧out.drop k=a.drop k∧(c=0∨c=1)∧val (out.take k)-B k*c=val (a.take k)-val (b.take k))
  (R:=fun r=>LB r∧val r=val a-val b∧r.length=a.length) (fun s=>(a.length + 1-s.2.2.2.2).toNat) (by
   rintro s ⟨k,out,c,rfl,h1,h2,h3,h3',h4,h5⟩
   simp only
   by_cases hk:k<a.length
   ·have da:=AI ha k
    have db:=AI hb k
    have hg:=List.getElem?_eq_getElem hk
    have hx:a[k]=dg a k:=(Ec hg).symm
    have hko:k<out.length:=by omega
    have hox:out[k]? = some (dg a k):=by
     have e1:out.drop k=out[k]::out.drop (k + 1):=List.drop_eq_getElem_cons hko
     have e2:a.drop k=a[k]::a.drop (k + 1):=List.drop_eq_getElem_cons hk
     rw[List.getElem?_eq_getElem hko]
     rw[e1,e2] at h3'
     rw[(List.cons.inj h3').1,hx]
    have hv:=Qp (v:=dg a k-dg b k-c) (by omega)
    have hset:∀ y:Int,(out.set k y)[k]? = some y:=fun y=>by rw[List.getElem?_set_self hko]
    have hdg:dg (out.set k (if dg a k-dg b k-c<0 then dg a k-dg b k-c + 65536 else dg a k-dg b k-c)) k=(if dg a k-dg b k-c<0 then dg a k-dg b k-c + 65536 else dg a k-dg b k-c):=Ec (hset _)
    have htk:(out.set k (if dg a k-dg b k-c<0 then dg a k-dg b k-c + 65536 else dg a k-dg b k-c)).take k=out.take k:=List.take_set_of_le (Nat.le_refl _)
    refine .inl ⟨(out.set k (if dg a k-dg b k-c<0 then dg a k-dg b k-c + 65536 else dg a k-dg b k-c),(b,((if dg a k-dg b k-c<0 then 1 else 0),((a.length:Int),((k + 1:Nat):Int))))),?_,⟨k + 1,_,_,rfl,by simp[h1],by omega,?_,?_,hv.2.2.2,?_⟩,by simp; omega⟩
    ·unfold EV getN
     have i1:idxI (k:Int) out.length=some k:=AN hko
     have i2:∀ y:Int,idxI (k:Int) (out.set k y).length=some k:=fun y=>by rw[List.length_set]; exact i1
     rw[decide_eq_true (by omega)]
     simp only[cond_true,i1,Option.bind_some,hox,i2,hset,Ak]
     have hw1:=wrap1 (show k<4611686018427387904 by omega)
     rw[wrapI (n:=dg a k-c) (by omega) (by omega)]
     have s1:(bif decide ((k:Int)<((b.length:Nat):Int)) then (b[k]?).bind fun x6=>some (Sum.inr (α:=(List Int×List Int×Int×Int×Int) ⊕ List Int) ((out.set k (dg a k-c)).set k (IntKind.wrap .i64 (dg a k-c-x6)),(b,((k:Int),((a.length:Int),(k:Int)))))) else some (Sum.inr (out.set k (dg a k-c),(b,((k:Int),((a.length:Int),(k:Int)))))))=some (Sum.inr (out.set k (dg a k-dg b k-c),(b,((k:Int),((a.length:Int),(k:Int)))))):=by
      rcases Nat.lt_or_ge k b.length with hkb | hkb
      ·rw[decide_eq_true (by omega),List.getElem?_eq_getElem hkb,←Ec (List.getElem?_eq_getElem hkb)]
       simp only[cond_true,Option.bind_some,List.set_set]
       rw[wrapI (by omega) (by omega),show dg a k-c-dg b k=dg a k-dg b k-c by omega]
      ·rw[decide_eq_false (by omega),F0 hkb,show dg a k-0-c=dg a k-c by omega]
       rfl
     rw[s1]
     simp only[Option.bind_some,Sum.elim_inr,i2,hset,List.set_set,hw1]
     by_cases hneg:dg a k-dg b k-c<0
     ·rw[decide_eq_true hneg,if_pos hneg,if_pos hneg,wrapI (by omega) (by omega)]
      rfl
     ·rw[decide_eq_false hneg,if_neg hneg,if_neg hneg]
      rfl
    ·rw[List.take_add_one,htk,hset]
     exact h3.append (LB.cons (by omega) LB.nil)
    ·rw[List.drop_set_of_lt (by omega)]
     have:out.drop (k + 1)=(out.drop k).drop 1:=by rw[List.drop_drop]
     rw[this,h3',List.drop_drop]
    ·rw[Ax (out.set k _),Ax a,Ax b,htk,hdg]
     exact TO h5 hv.2.2.1 rfl
   ·have hk':k=a.length:=by omega
    refine .inr ⟨out,?_,?_,?_,h1⟩
    ·unfold EV
     rw[decide_eq_false (by omega)]
     rfl
    ·rw[List.take_of_length_le (by omega)] at h3; exact h3
    ·rw[List.take_of_length_le (by omega)] at h3 h5
     rw[List.take_of_length_le (by omega),List.take_of_length_le (by omega)] at h5
     have b1:=Jo h3
     have b2:=Ay h3
     rw[h1,←hk'] at b1
     rcases h4 with h4 | h4
     ·subst h4; omega
     ·subst h4; omega) (a,(b,(0,((a.length:Int),0)))) ⟨0,a,0,rfl,rfl,by omega,by rw[List.take_zero]; exact LB.nil,rfl,.inl rfl,by simp[val,B]⟩
 rw[h1]
 simp only[Option.bind_some]
 rw[VJ (by unfold Brief; omega)]
 simp only[Option.bind_some]
 rw[Bt h2.1,h2.2.1]
end Go.Proofs.YthipdlhknbhiiaaGreat.Ev

end
section
namespace Go.Proofs.YthipdlhknbhiiaaGreat.Ev
open Go
theorem Ek {n k:Nat} (h:(n:Int)<B k) (hk:k≤1000000):(lim n).length≤1000000:=Nat.le_trans (Ah.2 h) hk
theorem At9 {x y:Int} {k:Nat} (hk:k≤1000000) (hx:(x.natAbs:Int)<B k) (hy:(y.natAbs:Int)<B k):FH (big x) (big y)=some (big (x + y)):=by
 have lx:=Ek hx hk
 have ly:=Ek hy hk
 unfold FH big
 simp only
 by_cases hs:decide (x<0)=decide (y<0)
 ·rw[hs,beq_self_eq_true]
  obtain ⟨r,e1,e2,e3,e4⟩:=Af1 (Aq x.natAbs) (Aq y.natAbs) (by omega) (by omega)
  rw[Aj,Aj] at e3
  simp only[cond_true,e1,Option.bind_some]
  rw[FA e2 (by unfold Brief; omega)]
  simp only[Option.bind_some]
  have hv:(val r).toNat=(x + y).natAbs:=by
   by_cases h1:x<0
   ·have:y<0:=by simpa[h1] using hs
    omega
   ·have:¬y<0:=by simpa[h1] using hs
    omega
  rw[hv]
  congr 2
  by_cases h2:y<0
  ·have h1:x<0:=by simpa[h2] using hs
   rw[decide_eq_true h2,decide_eq_true (show x + y<0 by omega),decide_eq_true (show (x + y).natAbs≠0 by omega)]; rfl
  ·have h1:¬x<0:=by simpa[h2] using hs
   rw[decide_eq_false h2,decide_eq_false (show ¬x + y<0 by omega)]; rfl
 ·have hb:(decide (x<0)==decide (y<0))=false:=by simpa using hs
  rw[hb]
  simp only[cond_false]
  rw[GD (by unfold Brief; omega) (by unfold Brief; omega)]
  simp only[Option.bind_some]
  have hxy:(x<0∧¬y<0)∨(¬x<0∧y<0):=by
   by_cases h1:x<0 <;> by_cases h2:y<0 <;> simp[h1,h2] at hs ⊢
  rcases Nat.lt_or_ge x.natAbs y.natAbs with hlt | hge
  ·rw[C2 (by omega),decide_eq_false (by omega)]
   simp only[cond_false]
   have hl:(lim x.natAbs).length≤(lim y.natAbs).length:=Ah.2 (by have:=Ah.1 (Nat.le_refl (lim y.natAbs).length); omega)
   rw[Se (Aq _) (Aq _) hl (by omega) (by rw[Aj,Aj]; omega)]
   simp only[Option.bind_some,Aj]
   have e:((y.natAbs:Int)-(x.natAbs:Int)).toNat=(x + y).natAbs:=by omega
   rw[e,FA (Aq _) (by
    have:(lim (x + y).natAbs).length≤(lim y.natAbs).length:=Ah.2 (by have:=Ah.1 (Nat.le_refl (lim y.natAbs).length); omega)
    unfold Brief; omega)]
   simp only[Option.bind_some,Aj,Int.toNat_natCast]
   congr 2
   by_cases h2:y<0
   ·rw[decide_eq_true h2,decide_eq_true (show x + y<0 by omega),decide_eq_true (show (x + y).natAbs≠0 by omega)]; rfl
   ·rw[decide_eq_false h2,decide_eq_false (show ¬x + y<0 by omega)]; rfl
  ·have hc:cmpZ (x.natAbs:Int) (y.natAbs:Int)≥0:=by unfold cmpZ; rw[if_neg (by omega)]; split <;> omega
   rw[decide_eq_true hc]
   simp only[cond_true]
   have hl:(lim y.natAbs).length≤(lim x.natAbs).length:=Ah.2 (by have:=Ah.1 (Nat.le_refl (lim x.natAbs).length); omega)
   rw[Se (Aq _) (Aq _) hl (by omega) (by rw[Aj,Aj]; omega)]
   simp only[Option.bind_some,Aj]
   have e:((x.natAbs:Int)-(y.natAbs:Int)).toNat=(x + y).natAbs:=by omega
   rw[e,FA (Aq _) (by
    have:(lim (x + y).natAbs).length≤(lim x.natAbs).length:=Ah.2 (by have:=Ah.1 (Nat.le_refl (lim x.natAbs).length); omega)
    unfold Brief; omega)]
   simp only[Option.bind_some,Aj,Int.toNat_natCast]
   congr 2
   by_cases h2:x<0
   ·rw[decide_eq_true h2]
    by_cases h3:x + y<0
    ·rw[decide_eq_true h3,decide_eq_true (show (x + y).natAbs≠0 by omega)]; rfl
    ·rw[decide_eq_false h3,decide_eq_false (show ¬(x + y).natAbs≠0 by omega)]; rfl
   ·rw[decide_eq_false h2,decide_eq_false (show ¬x + y<0 by omega)]; rfl
theorem MB {o x y c:Int} (ho : 0≤o∧o<65536) (hx : 0≤x∧x<65536) (hy : 0≤y∧y<65536) (hc : 0≤c∧c<65536) :
  (0≤x*y∧x*y≤4294836225)∧0≤(o + x*y + c)/65536∧(o + x*y + c)/65536<65536∧0≤(o + x*y + c)%65536∧(o + x*y + c)%65536<65536∧(o + x*y + c)%65536 + 65536*((o + x*y + c)/65536)=o + x*y + c:=by
 have h1 : 0≤x*y:=Int.mul_nonneg hx.1 hy.1
 have h2:x*y≤65535*65535:=Int.le_trans (Int.mul_le_mul_of_nonneg_left (show y≤65535 by omega) hx.1) (Int.mul_le_mul_of_nonneg_right (show x≤65535 by omega) (by omega))
 omega
theorem YQ {out:List Int} {p:Nat} {o d c c' t V:Int} (ho:out[p]? = some o) (hd:d + 65536*c'=o + t + c) (hV:val out + B p*c=V):val (out.set p d) + B (p + 1)*c'=V + B p*t:=by
 rw[D1 ho]
 have e1:B (p + 1)*c'=B p*(65536*c'):=by simp only[B]; rw[Int.mul_comm 65536 (B p),Int.mul_assoc]
 have e2:B p*d + B p*(65536*c')=B p*o + B p*t + B p*c:=by rw[←Int.mul_add,hd,Int.mul_add,Int.mul_add]
 rw[e1,Int.mul_sub]
 omega
theorem Ag {l:List Int} {k:Nat} (h:k<l.length):l[k]? = some (dg l k):=by rw[List.getElem?_eq_getElem h,Ec (List.getElem?_eq_getElem h)]
theorem Bm {l:List Int} {k j:Nat} {x:Int} (h:k≠j):dg (l.set k x) j=dg l j:=by
 unfold dg
 rw[List.getD_eq_getElem?_getD,List.getD_eq_getElem?_getD,List.getElem?_set_ne h]
structure Row (out0 out:List Int) (i k:Nat) (c x:Int) (b:List Int):Prop where
 len:out.length=out0.length
 lb:LB out
 hi:∀ j,i + k≤j→dg out j=dg out0 j
 c0 : 0≤c
 c1:c<65536
 v:val out + B (i + k)*c=val out0 + B i*(x*val (b.take k))
theorem Row.start {out0:List Int} (h:LB out0) (i:Nat) (x:Int) (b:List Int):Row out0 out0 i 0 0 x b:=⟨rfl,h,fun _ _=>rfl,by omega,by omega,by simp[val]⟩
theorem Row.next {out0 out:List Int} {i k:Nat} {c x:Int} {b:List Int} (h:Row out0 out i k c x b) (hb:LB b) (hx : 0≤x∧x<65536) (hk:i + k<out.length) :
  Row out0 (out.set (i + k) ((dg out (i + k) + x*dg b k + c)%65536)) i (k + 1) ((dg out (i + k) + x*dg b k + c)/65536) x b:=by
 have hs:=MB (AI h.lb (i + k)) hx (AI hb k) ⟨h.c0,h.c1⟩
 refine ⟨by rw[List.length_set]; exact h.len,h.lb.set ⟨hs.2.2.2.1,hs.2.2.2.2.1⟩,fun j hj=>by rw[Bm (by omega)]; exact h.hi j (by omega),hs.2.1,hs.2.2.1,?_⟩
 have:=YQ (Ag hk) hs.2.2.2.2.2 h.v
 rw[show i + (k + 1)=i + k + 1 by omega,this,Ax,Int.mul_add,Int.mul_add]
 have:B (i + k)*(x*dg b k)=B i*(x*(B k*dg b k)):=by rw[Oz]; grind
 omega
theorem Ax8 {a0 a1 a2:Bool×List Int} {out0:List Int} {i:Nat} {x:Int} (hx : 0≤x∧x<65536) (h0:LB out0) (hb:LB a1.2) (hlen:i + a1.2.length≤out0.length) (ho:out0.length≤10000000) (s7:List Int) (s8 s9:Int) :
  ∃ out c,loopM (fun (s:((Bool×(List Int))×((Bool×(List Int))×((Bool×(List Int))×((List Int)×(Int×(Int×(Int×((List Int)×(Int×(Int×((List Int)×(Int×Int)))))))))))))=>DR s.1 s.2.1 s.2.2.1 s.2.2.2.1 s.2.2.2.2.1 s.2.2.2.2.2.1 s.2.2.2.2.2.2.1 s.2.2.2.2.2.2.2.1 s.2.2.2.2.2.2.2.2.1 s.2.2.2.2.2.2.2.2.2.1 s.2.2.2.2.2.2.2.2.2.2.1 s.2.2.2.2.2.2.2.2.2.2.2.1 s.2.2.2.2.2.2.2.2.2.2.2.2) ((a0.1,a0.2),((a1.1,a1.2),((a2.1,a2.2),(out0,((i:Int),(x,((0:Int),(s7,(s8,(s9,(a1.2,((((List.length a1.2):Nat):Int),(0:Int))))))))))))) =
   some ((a0.1,a0.2),((a1.1,a1.2),((a2.1,a2.2),(out,((i:Int),(c,(s7,(s8,s9))))))))∧Row out0 out i a1.2.length c x a1.2:=by
 obtain ⟨⟨out,c⟩,h1,h2⟩:=Fu (body:=fun (s:((Bool×(List Int))×((Bool×(List Int))×((Bool×(List Int))×((List Int)×(Int×(Int×(Int×((List Int)×(Int×(Int×((List Int)×(Int×Int)))))))))))))=>DR s.1 s.2.1 s.2.2.1 s.2.2.2.1 s.2.2.2.2.1 s.2.2.2.2.2.1 s.2.2.2.2.2.2.1 s.2.2.2.2.2.2.2.1 s.2.2.2.2.2.2.2.2.1 s.2.2.2.2.2.2.2.2.2.1 s.2.2.2.2.2.2.2.2.2.2.1 s.2.2.2.2.2.2.2.2.2.2.2.1 s.2.2.2.2.2.2.2.2.2.2.2.2)
  (st:=fun k (b:List Int×Int)=>((a0.1,a0.2),((a1.1,a1.2),((a2.1,a2.2),(b.1,((i:Int),(x,(b.2,(s7,(s8,(s9,(a1.2,((((List.length a1.2):Nat):Int),(k:Int))))))))))))))
  (fin:=fun b=>((a0.1,a0.2),((a1.1,a1.2),((a2.1,a2.2),(b.1,((i:Int),(b.2,(s7,(s8,s9)))))))))
  (I:=fun k b=>Row out0 b.1 i k b.2 x a1.2) (e:=a1.2.length)
  (by
   rintro k ⟨out,c⟩ hk hI
   simp only at hI
   have hl:=hI.len
   have hp:i + k<out.length:=by omega
   have hs:=MB (AI hI.lb (i + k)) hx (AI hb k) ⟨hI.c0,hI.c1⟩
   have dl:=AI hI.lb (i + k)
   have c0:=hI.c0
   have c1:=hI.c1
   refine ⟨(_,_),?_,hI.next hb hx hp⟩
   unfold DR getN
   dsimp only
   have i1:idxI ((i:Int) + (k:Int)) out.length=some (i + k):=by rw[show (i:Int) + (k:Int)=((i + k:Nat):Int) by omega]; exact AN hp
   rw[decide_eq_true (by omega),wrapI (n:=(i:Int) + (k:Int)) (by omega) (by omega)]
   simp only[cond_true,Ak,Ag hk,Option.bind_some,i1,Ag hp]
   rw[wrapI (n:=x*dg a1.2 k) (by omega) (by omega),wrapI (n:=dg out (i + k) + x*dg a1.2 k) (by omega) (by omega),wrapI (n:=c + (dg out (i + k) + x*dg a1.2 k)) (by omega) (by omega),show c + (dg out (i + k) + x*dg a1.2 k)=dg out (i + k) + x*dg a1.2 k + c by omega,
    Int.tmod_eq_emod_of_nonneg (by omega),Int.tdiv_eq_ediv_of_nonneg (by omega),wrapI (n:=(dg out (i + k) + x*dg a1.2 k + c)/65536) (by omega) (by omega),wrap1 (by omega)])
  (by
   rintro ⟨out,c⟩ _
   unfold DR
   dsimp only
   rw[decide_eq_false (by omega)]
   rfl) 0 (out0,0) (by omega) (Row.start h0 i x _)
 exact ⟨out,c,h1,h2⟩
theorem Cr {x y:Int} {k:Nat} (hk:k≤100000) (hx:(x.natAbs:Int)<B k) (hy:(y.natAbs:Int)<B k):∃ r,AV (big x) (big y)=some r∧(r.2,r.1)=big (x*y):=by
 have lx:=Nat.le_trans (Ah.2 hx) hk
 have ly:=Nat.le_trans (Ah.2 hy) hk
 unfold AV
 generalize ha:lim x.natAbs=a at lx
 generalize hb':lim y.natAbs=b at ly
 have la:LB a:=ha▸Aq _
 have lb:LB b:=hb'▸Aq _
 have e1:(big x).2=a:=ha
 have e2:(big y).2=b:=hb'
 rw[e1,e2,wrapI (by omega) (by omega),show ((a.length:Nat):Int) + ((b.length:Nat):Int)=((a.length + b.length:Nat):Int) by omega,FQ (by unfold maxBytes; omega) (by unfold maxBytes; omega)]
 simp only[Option.bind_some]
 obtain ⟨out,h1,h2⟩:=Fu (body:=fun (s:((Bool×(List Int))×((Bool×(List Int))×((Bool×(List Int))×((List Int)×((List Int)×(Int×Int)))))))=>Ft s.1 s.2.1 s.2.2.1 s.2.2.2.1 s.2.2.2.2.1 s.2.2.2.2.2.1 s.2.2.2.2.2.2)
  (st:=fun i (o:List Int)=>(((big x).1,a),(((big y).1,b),((false,([]:List Int)),(o,(a,(((a.length:Nat):Int),(i:Int))))))))
  (fin:=fun o=>(((big x).1,a),(((big y).1,b),((false,([]:List Int)),o))))
  (I:=fun i o=>o.length=a.length + b.length∧LB o∧(∀ j,i + b.length≤j→dg o j=0)∧val o=val (a.take i)*val b) (e:=a.length)
  (by
   rintro i o hi ⟨h1,h2,h3,h4⟩
   have hd:=AI la i
   obtain ⟨o1,c,q1,q2⟩:=Ax8 (a0:=((big x).1,a)) (a1:=((big y).1,b)) (a2:=(false,[])) hd h2 lb (show i + b.length≤o.length by omega) (show o.length≤10000000 by omega) a ((a.length:Nat):Int) (i:Int)
   simp only at q1 q2
   have hl1:=q2.len
   have hp:i + b.length<o1.length:=by omega
   have hz:dg o1 (i + b.length)=0:=by rw[q2.hi _ (Nat.le_refl _),h3 _ (by omega)]
   have c0:=q2.c0
   have c1:=q2.c1
   refine ⟨o1.set (i + b.length) c,?_,by rw[List.length_set]; omega,q2.lb.set ⟨c0,c1⟩,fun j hj=>?_,?_⟩
   ·unfold Ft getN
    dsimp only
    rw[decide_eq_true (by omega),Ak,Ag hi]
    simp only[cond_true,Option.bind_some]
    rw[q1]
    simp only[Option.bind_some]
    have i1:idxI ((i:Int) + ((b.length:Nat):Int)) o1.length=some (i + b.length):=by rw[show (i:Int) + ((b.length:Nat):Int)=((i + b.length:Nat):Int) by omega]; exact AN hp
    rw[wrapI (n:=(i:Int) + ((b.length:Nat):Int)) (by omega) (by omega),i1]
    simp only[Option.bind_some,Ag hp,hz]
    rw[wrapI (n:=0 + c) (by omega) (by omega),wrap1 (by omega),Int.zero_add]
   ·rw[Bm (by omega),q2.hi j (by omega),h3 j (by omega)]
   ·rw[D1 (Ag hp),hz,Int.sub_zero]
    have hv:=q2.v
    rw[List.take_length] at hv
    rw[Ax,Int.add_mul,←h4]
    have:B i*dg a i*val b=B i*(dg a i*val b):=Int.mul_assoc ..
    omega)
  (by
   rintro o _
   unfold Ft
   dsimp only
   rw[decide_eq_false (by omega)]
   rfl) 0 (List.replicate (a.length + b.length) 0) (by omega) ⟨by simp,LB.zeros _,fun j _=>by
    unfold dg; rw[List.getD_eq_getElem?_getD,List.getElem?_replicate]; split <;> rfl,by rw[Dz]; simp[val]⟩
 rw[show ((0:Nat):Int)=0 from rfl] at h1
 rw[h1]
 obtain ⟨g1,g2,g3,g4⟩:=h2
 rw[List.take_length] at g4
 simp only[Option.bind_some]
 rw[FA g2 (by unfold Brief; omega)]
 simp only[Option.bind_some]
 refine ⟨_,rfl,?_⟩
 have hv:(val out).toNat=(x*y).natAbs:=by rw[g4,←ha,←hb',Aj,Aj,Int.natAbs_mul]; omega
 rw[hv]
 unfold big
 congr 1
 by_cases hx0:x=0
 ·subst hx0; simp
 ·by_cases hy0:y=0
  ·subst hy0; simp
  ·have hne:(x*y).natAbs≠0:=by
    rw[Int.natAbs_mul]
    intro h
    rcases Nat.mul_eq_zero.1 h with h | h <;> omega
   rw[decide_eq_true hne]
   by_cases h1:x<0
   ·by_cases h2:y<0
    ·have:=Int.mul_pos_of_neg_of_neg h1 h2
     rw[decide_eq_true h1,decide_eq_true h2,decide_eq_false (by omega)]; rfl
    ·have:=Int.mul_neg_of_neg_of_pos h1 (show 0<y by omega)
     rw[decide_eq_true h1,decide_eq_false h2,decide_eq_true (by omega)]; rfl
   ·by_cases h2:y<0
    ·have:=Int.mul_neg_of_pos_of_neg (show 0<x by omega) h2
     rw[decide_eq_false h1,decide_eq_true h2,decide_eq_true (by omega)]; rfl
    ·have:=Int.mul_pos (show 0<x by omega) (show 0<y by omega)
     rw[decide_eq_false h1,decide_eq_false h2,decide_eq_false (by omega)]; rfl
end Go.Proofs.YthipdlhknbhiiaaGreat.Ev

end
section
namespace Go.Proofs.YthipdlhknbhiiaaGreat.Ev
open Go
theorem Au3 {out0 b:List Int} {i:Nat} {x:Int} (hx : 0≤x∧x<65536) (h0:LB out0) (hb:LB b) (hlen:i + b.length<out0.length) (hz:∀ j,i + b.length≤j→dg out0 j=0) (ho:out0.length≤10000000) (s6:List Int) (s7 s8:Int) :
  ∃ out,loopM (fun (s:((List Int)×((List Int)×(Int×(Int×(Int×(Int×((List Int)×(Int×Int)))))))))=>Cv s.1 s.2.1 s.2.2.1 s.2.2.2.1 s.2.2.2.2.1 s.2.2.2.2.2.1 s.2.2.2.2.2.2.1 s.2.2.2.2.2.2.2.1 s.2.2.2.2.2.2.2.2) (out0,(b,((i:Int),(x,((0:Int),((0:Int),(s6,(s7,s8))))))))=some (out,(b,(s6,(s7,s8)))) ∧
   out.length=out0.length∧LB out∧(∀ j,i + 1 + b.length≤j→dg out j=0)∧val out=val out0 + B i*(x*val b):=by
 obtain ⟨r,h1,out,rfl,h2⟩:=EQ (f:=fun (s:((List Int)×((List Int)×(Int×(Int×(Int×(Int×((List Int)×(Int×Int)))))))))=>Cv s.1 s.2.1 s.2.2.1 s.2.2.2.1 s.2.2.2.2.1 s.2.2.2.2.2.1 s.2.2.2.2.2.2.1 s.2.2.2.2.2.2.2.1 s.2.2.2.2.2.2.2.2)
  (I:=fun s=>∃ (k:Nat) (out:List Int) (c:Int),s=(out,(b,((i:Int),(x,(c,((k:Int),(s6,(s7,s8))))))))∧k≤b.length + 1∧Row out0 out i k c x b∧(k=b.length + 1→c=0))
  (R:=fun r=>∃ out,r=(out,(b,(s6,(s7,s8))))∧out.length=out0.length∧LB out∧(∀ j,i + 1 + b.length≤j→dg out j=0)∧val out=val out0 + B i*(x*val b)) (fun s=>(b.length + 2-s.2.2.2.2.2.1).toNat) (by
   rintro s ⟨k,out,c,rfl,hk,hR,hc⟩
   simp only
   have hl:=hR.len
   have c0:=hR.c0
   have c1:=hR.c1
   by_cases hgo:k<b.length∨c>0
   ·have hkb:k≤b.length:=by
     rcases hgo with h | h
     ·omega
     ·rcases Nat.lt_or_ge b.length k with h6 | h6
      ·have:=hc (by omega); omega
      ·exact h6
    have hp:i + k<out.length:=by omega
    have hs:=MB (AI hR.lb (i + k)) hx (AI hb k) ⟨c0,c1⟩
    have dl:=AI hR.lb (i + k)
    refine .inl ⟨(out.set (i + k) ((dg out (i + k) + x*dg b k + c)%65536),(b,((i:Int),(x,((dg out (i + k) + x*dg b k + c)/65536,(((k + 1:Nat):Int),(s6,(s7,s8)))))))),?_,⟨k + 1,_,_,rfl,by omega,hR.next hb hx hp,fun he=>?_⟩,by simp only; omega⟩
    ·unfold Cv getN
     have hcond:(bif decide ((k:Int)<((b.length:Nat):Int)) then some (Sum.inr (α:=(List Int×List Int×Int×Int×Int×Int×List Int×Int×Int) ⊕ (List Int×List Int×List Int×Int×Int)) (out,(b,((i:Int),(x,(c,((k:Int),(s6,(s7,s8))))))))) else bif decide (c>0) then some (Sum.inr (out,(b,((i:Int),(x,(c,((k:Int),(s6,(s7,s8))))))))) else some (Sum.inl (Sum.inr (out,(b,(s6,(s7,s8)))))))=some (Sum.inr (out,(b,((i:Int),(x,(c,((k:Int),(s6,(s7,s8))))))))):=by
      by_cases g1:(k:Int)<(b.length:Int)
      ·rw[decide_eq_true g1]; rfl
      ·have:c>0:=by rcases hgo with h | h <;> omega
       rw[decide_eq_false g1,decide_eq_true this]; rfl
     rw[hcond]
     have i1:idxI ((i:Int) + (k:Int)) out.length=some (i + k):=by rw[show (i:Int) + (k:Int)=((i + k:Nat):Int) by omega]; exact AN hp
     simp only[Option.bind_some,Sum.elim_inr]
     rw[wrapI (n:=(i:Int) + (k:Int)) (by omega) (by omega),i1]
     simp only[Option.bind_some,Ag hp,HZ]
     rw[wrapI (n:=x*dg b k) (by omega) (by omega),wrapI (n:=dg out (i + k) + x*dg b k) (by omega) (by omega),wrapI (n:=dg out (i + k) + x*dg b k + c) (by omega) (by omega),
      Int.tmod_eq_emod_of_nonneg (by omega),Int.tdiv_eq_ediv_of_nonneg (by omega),wrapI (n:=(dg out (i + k) + x*dg b k + c)/65536) (by omega) (by omega),wrap1 (by omega)]
    ·have hkb':k=b.length:=by omega
     have z1:dg b k=0:=F0 (by omega)
     have z2:dg out (i + k)=0:=by rw[hR.hi _ (Nat.le_refl _),hz _ (by omega)]
     rw[z1,z2,Int.mul_zero]
     omega
   ·have hkb:b.length≤k:=by omega
    have hcz:c=0:=by omega
    subst hcz
    refine .inr ⟨_,?_,out,rfl,hl,hR.lb,fun j hj=>?_,?_⟩
    ·unfold Cv
     rw[decide_eq_false (by omega),decide_eq_false (by omega)]
     rfl
    ·rw[hR.hi j (by omega),hz j (by omega)]
    ·have:=hR.v
     rw[List.take_of_length_le hkb] at this
     omega) (out0,(b,((i:Int),(x,((0:Int),((0:Int),(s6,(s7,s8)))))))) ⟨0,out0,0,rfl,by omega,Row.start h0 i x b,by omega⟩
 exact ⟨out,h1,h2⟩
theorem Xc {a b:List Int} (ha:LB a) (hb:LB b) (na:a.length≤100000) (nb:b.length≤100000):Dj a b=some (lim (val a*val b).toNat):=by
 unfold Dj
 rw[wrapI (n:=((a.length:Nat):Int) + ((b.length:Nat):Int)) (by omega) (by omega),wrapI (by omega) (by omega),show ((a.length:Nat):Int) + ((b.length:Nat):Int) + 1=((a.length + b.length + 1:Nat):Int) by omega,FQ (by unfold maxBytes; omega) (by unfold maxBytes; omega)]
 simp only[Option.bind_some]
 obtain ⟨out,h1,h2⟩:=Fu (body:=fun (s:((List Int)×((List Int)×((List Int)×(Int×Int)))))=>Dv s.1 s.2.1 s.2.2.1 s.2.2.2.1 s.2.2.2.2)
  (st:=fun i (o:List Int)=>(o,(b,(a,(((a.length:Nat):Int),(i:Int)))))) (fin:=fun o=>o)
  (I:=fun i o=>o.length=a.length + b.length + 1∧LB o∧(∀ j,i + b.length≤j→dg o j=0)∧val o=val (a.take i)*val b) (e:=a.length)
  (by
   rintro i o hi ⟨h1,h2,h3,h4⟩
   have hd:=AI ha i
   obtain ⟨o1,q1,q2,q3,q4,q5⟩:=Au3 hd h2 hb (show i + b.length<o.length by omega) h3 (by omega) a ((a.length:Nat):Int) (i:Int)
   refine ⟨o1,?_,by omega,q3,q4,?_⟩
   ·unfold Dv
    dsimp only
    rw[decide_eq_true (by omega),Ak,Ag hi]
    simp only[cond_true,Option.bind_some]
    rw[q1]
    simp only[Option.bind_some]
    rw[wrap1 (by omega)]
   ·rw[q5,h4,Ax,Int.add_mul]
    have:B i*dg a i*val b=B i*(dg a i*val b):=Int.mul_assoc ..
    omega)
  (by
   rintro o _
   unfold Dv
   dsimp only
   rw[decide_eq_false (by omega)]
   rfl) 0 (List.replicate (a.length + b.length + 1) 0) (by omega) ⟨by simp,LB.zeros _,fun j _=>by
    unfold dg; rw[List.getD_eq_getElem?_getD,List.getElem?_replicate]; split <;> rfl,by rw[Dz]; simp[val]⟩
 rw[show ((0:Nat):Int)=0 from rfl] at h1
 rw[h1]
 obtain ⟨g1,g2,g3,g4⟩:=h2
 rw[List.take_length] at g4
 simp only[Option.bind_some]
 rw[EY (by unfold Brief; omega)]
 simp only[Option.bind_some]
 rw[Bt g2,g4]
theorem AF4 {x y:Int} (h:(x*y).natAbs≠0):(!(decide (x<0)==decide (y<0)))=decide (x*y<0):=by
 have hx:x≠0:=by rintro rfl; simp at h
 have hy:y≠0:=by rintro rfl; simp at h
 by_cases h1:x<0
 ·by_cases h2:y<0
  ·have:=Int.mul_pos_of_neg_of_neg h1 h2
   rw[decide_eq_true h1,decide_eq_true h2,decide_eq_false (by omega)]; rfl
  ·have:=Int.mul_neg_of_neg_of_pos h1 (show 0<y by omega)
   rw[decide_eq_true h1,decide_eq_false h2,decide_eq_true (by omega)]; rfl
 ·by_cases h2:y<0
  ·have:=Int.mul_neg_of_pos_of_neg (show 0<x by omega) h2
   rw[decide_eq_false h1,decide_eq_true h2,decide_eq_true (by omega)]; rfl
  ·have:=Int.mul_pos (show 0<x by omega) (show 0<y by omega)
   rw[decide_eq_false h1,decide_eq_false h2,decide_eq_false (by omega)]; rfl
theorem U0 (x y:Int):((!(decide (x<0)==decide (y<0)))&&decide ((x*y).natAbs≠0),lim (x*y).natAbs)=big (x*y):=by
 unfold big
 congr 1
 by_cases h:(x*y).natAbs≠0
 ·rw[AF4 h,decide_eq_true h,Bool.and_true]
 ·rw[decide_eq_false h,Bool.and_false,decide_eq_false (by omega)]
theorem Gh {x y:Int} {k:Nat} (hk:k≤100000) (hx:(x.natAbs:Int)<B k) (hy:(y.natAbs:Int)<B k):BM (big x) (big y)=some (big (x*y)):=by
 have lx:=Nat.le_trans (Ah.2 hx) hk
 have ly:=Nat.le_trans (Ah.2 hy) hk
 unfold BM
 rw[show (big x).2=lim x.natAbs from rfl,show (big y).2=lim y.natAbs from rfl,Xc (Aq _) (Aq _) lx ly]
 have e:(val (lim x.natAbs)*val (lim y.natAbs)).toNat=(x*y).natAbs:=by rw[Aj,Aj,Int.natAbs_mul]; omega
 have hl:(lim (x*y).natAbs).length≤k + k:=by
  rw[Ah,Int.natAbs_mul,Oz]
  have h1:=EO k
  have:((x.natAbs*y.natAbs:Nat):Int)=(x.natAbs:Int)*(y.natAbs:Int):=by simp
  rw[this]
  exact Int.lt_of_le_of_lt (Int.mul_le_mul_of_nonneg_right (Int.le_of_lt hx) (by omega)) (Int.mul_lt_mul_of_pos_left hy h1)
 simp only[Option.bind_some]
 rw[e,C6 (Aq _) (by unfold Brief; omega)]
 simp only[Option.bind_some,Aj,Int.toNat_natCast]
 rw[←U0]
 rfl
end Go.Proofs.YthipdlhknbhiiaaGreat.Ev

end
section
namespace Go.Proofs.YthipdlhknbhiiaaGreat.Ev
open Go
theorem Bx (l:List Int) (h:Nat):val l=val (l.take h) + B h*val (l.drop h):=by
 rcases Nat.le_or_ge h l.length with hc | hc
 ·exact OX l h hc
 ·rw[List.take_of_length_le hc,List.drop_eq_nil_of_le hc]; simp[val]
theorem AR1 {l:List Int} (h:LB l):((val l).toNat:Int)=val l:=by have:=Ay h; omega
theorem fit2 {x y:Nat} {p q:Nat} (h1:(x:Int)<B p) (h2:(y:Int)<B q):((x*y:Nat):Int)<B (p + q):=by
 rw[Oz,show ((x*y:Nat):Int)=(x:Int)*(y:Int) by simp]
 exact Int.lt_of_le_of_lt (Int.mul_le_mul_of_nonneg_right (Int.le_of_lt h1) (by omega)) (Int.mul_lt_mul_of_pos_left h2 (EO p))
theorem AE1 {l:List Int} (hl:LB l) (n k:Nat) (h:l.length≤n):(lim (val l).toNat).length≤n:=by
 rw[Ah,AR1 hl]
 have:=Jo hl
 have:=G9 h
 omega
end Go.Proofs.YthipdlhknbhiiaaGreat.Ev

end
section
namespace Go.Proofs.YthipdlhknbhiiaaGreat.Ev
open Go
theorem T3 {n:Nat} (h:n≠0):lim n=((n%65536:Nat):Int)::lim (n/65536):=by
 conv=>lhs; unfold lim
 rw[dif_neg h]
theorem Nd (s:Bool×List Int) (neg:Bool):∀ (f:Nat) (n:Nat) (acc:List Int),n≤f→n<18446744073709551616→acc.length + (lim n).length≤10000 →
  loopM (fun (s:((Bool×(List Int))×((List Int)×(Bool×Int))))=>HA s.1 s.2.1 s.2.2.1 s.2.2.2) (s,(acc,(neg,(n:Int))))=some (s,(acc++lim n,neg)):=by
 intro f
 induction f with
 | zero =>
  intro n acc hn _ _
  have:n=0:=by omega
  subst this
  rw[Bh,List.append_nil]
  exact Am rfl
 | succ f ih =>
  intro n acc hn h64 h2
  by_cases h0:n=0
  ·subst h0
   rw[Bh,List.append_nil]
   exact Am rfl
  ·rw[T3 h0] at h2 ⊢
   simp only[List.length_cons] at h2
   have hstep:HA s acc neg (n:Int)=some (.inl (s,(acc ++ [((n%65536:Nat):Int)],(neg,((n/65536:Nat):Int))))):=by
    unfold HA
    rw[decide_eq_true (by omega),Int.tmod_eq_emod_of_nonneg (by omega),Int.tdiv_eq_ediv_of_nonneg (by omega),wrapI (by omega) (by omega),wrapU (by omega) (by omega)]
    simp only[cond_true]
    rw[app1 (by omega)]
    simp only[Option.bind_some]
    rw[show (n:Int)%65536=((n%65536:Nat):Int) by omega,show (n:Int)/65536=((n/65536:Nat):Int) by omega]
   have:=ih (n/65536) (acc ++ [((n%65536:Nat):Int)]) (by omega) (by omega) (by simp; omega)
   rw[AH hstep,this,List.append_assoc]
   rfl
theorem lim64 {n:Nat} (h:n<18446744073709551616):(lim n).length≤4:=Ah.2 (by have:B 4=18446744073709551616:=rfl; omega)
theorem M5 {n:Int} (h1 : -9223372036854775808≤n) (h2:n≤9223372036854775807):B2 n=some (big n):=by
 unfold B2
 have hl:=lim64 (n:=n.natAbs) (by omega)
 by_cases h:n<0
 ·have e:IntKind.wrap .u64 (0-IntKind.wrap .u64 n)=(n.natAbs:Int):=by rw[IntKind.wrap_u64,IntKind.wrap_u64]; omega
  rw[decide_eq_true h]
  simp only[cond_true,Option.bind_some,Sum.elim_inr]
  rw[e,Nd (false,[]) true n.natAbs n.natAbs [] (Nat.le_refl _) (by omega) (by simp; omega)]
  unfold big
  rw[decide_eq_true h]
  rfl
 ·have e:IntKind.wrap .u64 n=(n.natAbs:Int):=by rw[IntKind.wrap_u64]; omega
  rw[decide_eq_false h]
  simp only[cond_false,Option.bind_some,Sum.elim_inr]
  rw[e,Nd (false,[]) false n.natAbs n.natAbs [] (Nat.le_refl _) (by omega) (by simp; omega)]
  unfold big
  rw[decide_eq_false h]
  rfl
theorem Xx (s:Bool×List Int) (m:Int):∀ (f:Nat) (n:Int) (acc:List Int),n.natAbs≤f→-9223372036854775808≤n→n≤9223372036854775807→acc.length + (lim n.natAbs).length≤10000 →
  loopM (fun (s:((Bool×(List Int))×((List Int)×(Int×Int))))=>HF s.1 s.2.1 s.2.2.1 s.2.2.2) (s,(acc,(m,n)))=some (s,(acc++lim n.natAbs,m)):=by
 intro f
 induction f with
 | zero =>
  intro n acc hn _ _ _
  have:n=0:=by omega
  subst this
  rw[show (0:Int).natAbs=0 from rfl,Bh,List.append_nil]
  exact Am rfl
 | succ f ih =>
  intro n acc hn h1 h2 h3
  by_cases h0:n=0
  ·subst h0
   rw[show (0:Int).natAbs=0 from rfl,Bh,List.append_nil]
   exact Am rfl
  ·rw[T3 (show n.natAbs≠0 by omega)] at h3 ⊢
   simp only[List.length_cons] at h3
   have hq:(Int.tdiv n 65536).natAbs=n.natAbs/65536:=by rw[Int.natAbs_tdiv]; rfl
   have hq1 : -9223372036854775808≤Int.tdiv n 65536∧Int.tdiv n 65536≤9223372036854775807:=by omega
   have hr:((Int.tmod n 65536).natAbs:Int)=((n.natAbs%65536:Nat):Int):=by rw[Int.natAbs_tmod]; rfl
   have hstep:HF s acc m n=some (.inl (s,(acc ++ [((n.natAbs%65536:Nat):Int)],(m,Int.tdiv n 65536)))):=by
    unfold HF
    have:(n != 0)=true:=by simpa using h0
    rw[this,wrapI (n:=Int.tdiv n 65536) (by omega) (by omega)]
    simp only[cond_true]
    by_cases hneg:Int.tmod n 65536<0
    ·rw[decide_eq_true hneg,wrapI (by omega) (by omega)]
     simp only[cond_true]
     rw[app1 (by omega),show (0:Int)-Int.tmod n 65536=((n.natAbs%65536:Nat):Int) by omega]
     rfl
    ·rw[decide_eq_false hneg]
     simp only[cond_false]
     rw[app1 (by omega),show Int.tmod n 65536=((n.natAbs%65536:Nat):Int) by omega]
     rfl
   have:=ih (Int.tdiv n 65536) (acc ++ [((n.natAbs%65536:Nat):Int)]) (by omega) hq1.1 hq1.2 (by rw[hq]; simp; omega)
   rw[AH hstep,this,List.append_assoc,hq]
   rfl
theorem R6 {n:Int} (h1 : -9223372036854775808≤n) (h2:n≤9223372036854775807):Dt n=some (big n):=by
 unfold Dt
 have hl:=lim64 (n:=n.natAbs) (by omega)
 rw[Xx (false,[]) n n.natAbs n [] (Nat.le_refl _) h1 h2 (by simp; omega)]
 simp only[Option.bind_some,List.nil_append]
 rw[C6 (Aq _) (by unfold Brief; omega)]
 simp only[Option.bind_some,Aj,Int.toNat_natCast]
 unfold big
 by_cases h:n<0
 ·rw[decide_eq_true h,decide_eq_true (show n.natAbs≠0 by omega)]; rfl
 ·rw[decide_eq_false h]; rfl
theorem Af9 (z:Int):A0 (big z)=some (cmpZ z 0):=by
 unfold A0 big
 by_cases h0:z=0
 ·subst h0
  rw[show (0:Int).natAbs=0 from rfl,Bh]
  rfl
 ·have:((((lim z.natAbs).length:Nat):Int)==0)=false:=beq_eq_false_iff_ne.2 (by
   intro h
   have h2:lim z.natAbs = []:=List.eq_nil_of_length_eq_zero (by omega)
   have:=Ga.1 h2
   omega)
  rw[this]
  by_cases h:z<0
  ·rw[decide_eq_true h,C2 h]; rfl
  ·rw[decide_eq_false h,FB (by omega)]; rfl
theorem N2 {x y:Int} {k:Nat} (hk:k≤1000000) (hx:(x.natAbs:Int)<B k) (hy:(y.natAbs:Int)<B k):Cn (big x) (big y)=some (cmpZ x y):=by
 have lx:=Ek hx hk
 have ly:=Ek hy hk
 unfold Cn
 have e1:A0 ((big x).1,(big x).2)=some (cmpZ x 0):=Af9 x
 have e2:A0 ((big y).1,(big y).2)=some (cmpZ y 0):=Af9 y
 simp only[e1,e2,Option.bind_some,OT]
 have e3:Ba (big x).2 (big y).2=some (cmpZ (x.natAbs:Int) (y.natAbs:Int)):=GD (by unfold Brief; omega) (by unfold Brief; omega)
 rw[e3]
 have cx:=BO x 0
 have cy:=BO y 0
 have c3:=BO (x.natAbs:Int) (y.natAbs:Int)
 have cxy:=BO x y
 have cs:=BO (cmpZ x 0) (cmpZ y 0)
 by_cases h:cmpZ x 0=cmpZ y 0
 ·rw[h,bne_self_eq_false]
  simp only[cond_false,Option.bind_some]
  rcases cy with ⟨cy,_⟩ | ⟨cy,_⟩ | ⟨cy,_⟩ <;> rw[cy] at h⊢<;> rcases c3 with ⟨c3,_⟩ | ⟨c3,_⟩ | ⟨c3,_⟩ <;> rw[c3] <;> rw[wrapI (by omega) (by omega)] <;> congr 1 <;> omega
 ·have hb:(cmpZ x 0 != cmpZ y 0)=true:=by simpa using h
  rw[hb]
  simp only[cond_true]
  congr 1
  omega
end Go.Proofs.YthipdlhknbhiiaaGreat.Ev

end
section
namespace Go.Proofs.YthipdlhknbhiiaaGreat.Ev
open Go
theorem OJ {a q r by_:Int} (h:q*by_ + r=a) (h0 : 0≤r) (h1:r<by_):q=a/by_∧r=a%by_:=by
 have:a=r + by_*q:=by rw[←h,Int.mul_comm]; omega
 subst this
 constructor
 ·rw[Int.add_mul_ediv_left _ _ (by omega),Int.ediv_eq_zero_of_lt h0 h1]; omega
 ·rw[Int.add_mul_emod_self_left,Int.emod_eq_of_lt h0 h1]
theorem Rw {a:List Int} {d:Int} (ha:LB a) (hd : 1≤d∧d≤65536) (na:a.length≤10000000) :
  ∃ q r,loopM (fun (s:((List Int)×((List Int)×(Int×(Int×Int)))))=>C7 s.1 s.2.1 s.2.2.1 s.2.2.2.1 s.2.2.2.2) (List.replicate a.length 0,(a,(d,(0,(a.length:Int)-1))))=some (q,r)∧LB q∧q.length=a.length∧0≤r∧r<d∧val q*d + r=val a:=by
 obtain ⟨⟨q,r⟩,h1,h2⟩:=Ib (body:=fun (s:((List Int)×((List Int)×(Int×(Int×Int)))))=>C7 s.1 s.2.1 s.2.2.1 s.2.2.2.1 s.2.2.2.2)
  (st:=fun n (b:List Int×Int)=>(b.1,(a,(d,(b.2,(n:Int)-1))))) (fin:=fun b=>b)
  (I:=fun n b=>n≤a.length∧LB b.1∧b.1.length=a.length∧(∀ j,j<n→dg b.1 j=0)∧0≤b.2∧b.2<d∧val b.1*d + B n*b.2=B n*val (a.drop n))
  (by
   rintro n ⟨q,r⟩ ⟨h1,h2,h3,h4,h5,h6,h7⟩
   simp only at h2 h3 h4 h5 h6 h7
   have hn:n<a.length:=by omega
   have hg:=List.getElem?_eq_getElem hn
   have dx:=AI ha n
   have hx:a[n]=dg a n:=(Ec hg).symm
   have hq:q[n]? = some 0:=by rw[Ag (by omega),h4 n (by omega)]
   have ht0 : 0≤r*65536 + dg a n:=by omega
   have hdd:=Int.emod_add_mul_ediv (r*65536 + dg a n) d
   have m0:=Int.emod_nonneg (r*65536 + dg a n) (show d≠0 by omega)
   have m1:=Int.emod_lt_of_pos (r*65536 + dg a n) (show 0<d by omega)
   have q0:=Int.ediv_nonneg ht0 (show 0≤d by omega)
   have q1:(r*65536 + dg a n)/d<65536:=by
    refine Int.ediv_lt_of_lt_mul (by omega) ?_
    have:r*65536 + dg a n<d*65536:=by omega
    rw[Int.mul_comm 65536 d]
    exact this
   refine ⟨(q.set n ((r*65536 + dg a n)/d),(r*65536 + dg a n)%d),?_,by omega,h2.set ⟨q0,q1⟩,by simp[h3],fun j hj=>by simp only; rw[Bm (by omega)]; exact h4 j (by omega),m0,m1,?_⟩
   ·unfold C7 getN
    dsimp only
    have hz:(d==0)=false:=beq_eq_false_iff_ne.2 (by omega)
    have hs:((n + 1:Nat):Int)-1=(n:Int):=by omega
    have i1:idxI (n:Int) q.length=some n:=AN (by omega)
    rw[hs,decide_eq_true (by omega),Ak,hg]
    simp only[cond_true,Option.bind_some,hz,cond_false,i1,hq,hx]
    rw[wrapI (n:=r*65536) (by omega) (by omega),wrapI (n:=r*65536 + dg a n) (by omega) (by omega),Int.tdiv_eq_ediv_of_nonneg ht0,Int.tmod_eq_emod_of_nonneg ht0,wrapI (n:=(r*65536 + dg a n)/d) (by omega) (by omega),wrapI (n:=(n:Int)-1) (by omega) (by omega)]
   ·simp only
    rw[D1 hq,List.drop_eq_getElem_cons hn,hx]
    simp only[val,Int.sub_zero]
    have e1:B (n + 1)*r=B n*(r*65536):=by simp only[B]; grind
    have e2:B (n + 1)*val (a.drop (n + 1))=B n*(65536*val (a.drop (n + 1))):=by simp only[B]; grind
    rw[e1,e2] at h7
    have e3:B n*((r*65536 + dg a n)/d)*d + B n*((r*65536 + dg a n)%d)=B n*(r*65536) + B n*dg a n:=by
     rw[Int.mul_assoc,←Int.mul_add,←Int.mul_add]
     congr 1
     rw[Int.mul_comm _ d]
     omega
    rw[Int.add_mul,Int.mul_add]
    omega)
  (by
   rintro ⟨q,r⟩ _
   unfold C7
   rfl) a.length (List.replicate a.length 0,0) ⟨Nat.le_refl _,LB.zeros _,by simp,fun j _=>by
    unfold dg; rw[List.getD_eq_getElem?_getD,List.getElem?_replicate]; split <;> rfl,by omega,by simp only; omega,by simp[Dz,val]⟩
 obtain ⟨g1,g2,g3,g4,g5,g6,g7⟩:=h2
 simp only[B,Int.one_mul,List.drop_zero] at g7
 exact ⟨q,r,h1,g2,g3,g5,g6,g7⟩
theorem S5 {a:List Int} {d:Int} (ha:LB a) (hd : 1≤d∧d≤65536) (na:a.length≤10000000) :
  ∃ q r,loopM (fun (s:((List Int)×((List Int)×(Int×(Int×Int)))))=>DT s.1 s.2.1 s.2.2.1 s.2.2.2.1 s.2.2.2.2) (List.replicate a.length 0,(a,(d,(0,(a.length:Int)-1))))=some (q,r)∧LB q∧q.length=a.length∧0≤r∧r<d∧val q*d + r=val a:=by
 obtain ⟨⟨q,r⟩,h1,h2⟩:=Ib (body:=fun (s:((List Int)×((List Int)×(Int×(Int×Int)))))=>DT s.1 s.2.1 s.2.2.1 s.2.2.2.1 s.2.2.2.2)
  (st:=fun n (b:List Int×Int)=>(b.1,(a,(d,(b.2,(n:Int)-1))))) (fin:=fun b=>b)
  (I:=fun n b=>n≤a.length∧LB b.1∧b.1.length=a.length∧(∀ j,j<n→dg b.1 j=0)∧0≤b.2∧b.2<d∧val b.1*d + B n*b.2=B n*val (a.drop n))
  (by
   rintro n ⟨q,r⟩ ⟨h1,h2,h3,h4,h5,h6,h7⟩
   simp only at h2 h3 h4 h5 h6 h7
   have hn:n<a.length:=by omega
   have hg:=List.getElem?_eq_getElem hn
   have dx:=AI ha n
   have hx:a[n]=dg a n:=(Ec hg).symm
   have hq:q[n]? = some 0:=by rw[Ag (by omega),h4 n (by omega)]
   have ht0 : 0≤r*65536 + dg a n:=by omega
   have hdd:=Int.emod_add_mul_ediv (r*65536 + dg a n) d
   have m0:=Int.emod_nonneg (r*65536 + dg a n) (show d≠0 by omega)
   have m1:=Int.emod_lt_of_pos (r*65536 + dg a n) (show 0<d by omega)
   have q0:=Int.ediv_nonneg ht0 (show 0≤d by omega)
   have q1:(r*65536 + dg a n)/d<65536:=by
    refine Int.ediv_lt_of_lt_mul (by omega) ?_
    have:r*65536 + dg a n<d*65536:=by omega
    rw[Int.mul_comm 65536 d]
    exact this
   refine ⟨(q.set n ((r*65536 + dg a n)/d),(r*65536 + dg a n)%d),?_,by omega,h2.set ⟨q0,q1⟩,by simp[h3],fun j hj=>by simp only; rw[Bm (by omega)]; exact h4 j (by omega),m0,m1,?_⟩
   ·unfold DT getN
    dsimp only
    have hz:(d==0)=false:=beq_eq_false_iff_ne.2 (by omega)
    have hs:((n + 1:Nat):Int)-1=(n:Int):=by omega
    have i1:idxI (n:Int) q.length=some n:=AN (by omega)
    rw[hs,decide_eq_true (by omega),Ak,hg]
    simp only[cond_true,Option.bind_some,hz,cond_false,i1,hq,hx]
    rw[wrapI (n:=r*65536) (by omega) (by omega),wrapI (n:=r*65536 + dg a n) (by omega) (by omega),Int.tdiv_eq_ediv_of_nonneg ht0,Int.tmod_eq_emod_of_nonneg ht0,wrapI (n:=(r*65536 + dg a n)/d) (by omega) (by omega),wrapI (n:=(n:Int)-1) (by omega) (by omega)]
   ·simp only
    rw[D1 hq,List.drop_eq_getElem_cons hn,hx]
    simp only[val,Int.sub_zero]
    have e1:B (n + 1)*r=B n*(r*65536):=by simp only[B]; grind
    have e2:B (n + 1)*val (a.drop (n + 1))=B n*(65536*val (a.drop (n + 1))):=by simp only[B]; grind
    rw[e1,e2] at h7
    have e3:B n*((r*65536 + dg a n)/d)*d + B n*((r*65536 + dg a n)%d)=B n*(r*65536) + B n*dg a n:=by
     rw[Int.mul_assoc,←Int.mul_add,←Int.mul_add]
     congr 1
     rw[Int.mul_comm _ d]
     omega
    rw[Int.add_mul,Int.mul_add]
    omega)
  (by
   rintro ⟨q,r⟩ _
   unfold DT
   rfl) a.length (List.replicate a.length 0,0) ⟨Nat.le_refl _,LB.zeros _,by simp,fun j _=>by
    unfold dg; rw[List.getD_eq_getElem?_getD,List.getElem?_replicate]; split <;> rfl,by omega,by simp only; omega,by simp[Dz,val]⟩
 obtain ⟨g1,g2,g3,g4,g5,g6,g7⟩:=h2
 simp only[B,Int.one_mul,List.drop_zero] at g7
 exact ⟨q,r,h1,g2,g3,g5,g6,g7⟩
theorem Sn {n:Nat} {d:Int} (hd : 1≤d∧d≤65536) (hn:(lim n).length≤10000000):DE (lim n) d=some (lim (n/d.toNat),((n%d.toNat:Nat):Int)):=by
 obtain ⟨q,r,h1,h2,h3,h4,h5,h6⟩:=Rw (Aq n) hd hn
 rw[Aj] at h6
 unfold DE
 rw[FQ (by unfold maxBytes; omega) (by unfold maxBytes; omega),wrapI (by omega) (by omega)]
 simp only[Option.bind_some,h1]
 rw[VJ (by unfold Brief; omega)]
 simp only[Option.bind_some]
 rw[Bt h2]
 obtain ⟨e1,e2⟩:=OJ h6 h4 h5
 have hdn:d=(d.toNat:Int):=by omega
 have hv:=Ay h2
 have q1:(val q).toNat=n/d.toNat:=by
  have:val q=((n/d.toNat:Nat):Int):=by rw[e1,hdn]; simp
  omega
 have q2:r=((n%d.toNat:Nat):Int):=by rw[e2,hdn]; simp
 rw[q1,q2]
theorem Av9 {n:Nat} {d:Int} (hd : 1≤d∧d≤65535) (hn:(lim n).length≤10000000):FN (lim n) d=some (lim (n/d.toNat),lim (n%d.toNat)):=by
 obtain ⟨q,r,h1,h2,h3,h4,h5,h6⟩:=S5 (Aq n) (show 1≤d∧d≤65536 by omega) hn
 rw[Aj] at h6
 unfold FN
 rw[FQ (by unfold maxBytes; omega) (by unfold maxBytes; omega),wrapI (by omega) (by omega)]
 simp only[Option.bind_some,h1]
 rw[EY (by unfold Brief; omega)]
 simp only[Option.bind_some]
 rw[EY (by unfold Brief; simp)]
 simp only[Option.bind_some]
 rw[Bt h2,Bt (LB.cons (by omega) LB.nil)]
 obtain ⟨e1,e2⟩:=OJ h6 h4 h5
 have hdn:d=(d.toNat:Int):=by omega
 have hv:=Ay h2
 have q1:(val q).toNat=n/d.toNat:=by
  have:val q=((n/d.toNat:Nat):Int):=by rw[e1,hdn]; simp
  omega
 have q2:(val [r]).toNat=n%d.toNat:=by
  have:r=((n%d.toNat:Nat):Int):=by rw[e2,hdn]; simp
  simp only[val]
  omega
 rw[q1,q2]
end Go.Proofs.YthipdlhknbhiiaaGreat.Ev

end
section
namespace Go.Proofs.YthipdlhknbhiiaaGreat.Ev
open Go
section
variable {P v1 v2 vr top u2 ur q r v U:Int} (hP : 0<P) (hv1 : 1≤v1) (hv1':v1<65536) (hv2 : 0≤v2∧v2<65536) (hvr : 0≤vr∧vr<P) (hu2 : 0≤u2∧u2<65536) (hur : 0≤ur∧ur<P)
 (hv:v=(v1*65536 + v2)*P + vr) (hU:U=(top*65536 + u2)*P + ur) (hq:q*v1 + r=top) (hq0 : 0≤q)
include hP hv1 hv2 hvr hu2 hur hv hU hq hq0
theorem Sr (h:q*v2>r*65536 + u2):U<q*v:=by
 have h1:q*(v1*65536 + v2)=(q*v1)*65536 + q*v2:=by grind
 have h2:top*65536 + u2 + 1≤q*(v1*65536 + v2):=by omega
 have h3:=Int.mul_le_mul_of_nonneg_right h2 (Int.le_of_lt hP)
 have h4 : 0≤q*vr:=Int.mul_nonneg hq0 hvr.1
 have h5:q*v=q*(v1*65536 + v2)*P + q*vr:=by rw[hv]; grind
 rw[Int.add_mul] at h3
 omega
theorem VW (hq1:q<65536) (h:q*v2≤r*65536 + u2):q*v<U + v:=by
 have h1:q*(v1*65536 + v2)=(q*v1)*65536 + q*v2:=by grind
 have h2:q*(v1*65536 + v2)≤top*65536 + u2:=by omega
 have h3:=Int.mul_le_mul_of_nonneg_right h2 (Int.le_of_lt hP)
 have h4:q*vr≤65535*P:=Int.le_trans (Int.mul_le_mul_of_nonneg_left (Int.le_of_lt hvr.2) hq0) (Int.mul_le_mul_of_nonneg_right (by omega) (Int.le_of_lt hP))
 have h5:q*v=q*(v1*65536 + v2)*P + q*vr:=by rw[hv]; grind
 have h6 : 65536*P≤(v1*65536 + v2)*P:=Int.mul_le_mul_of_nonneg_right (by omega) (Int.le_of_lt hP)
 omega
theorem Tx (hq1:q<65536) (h : 65536≤r):q*v≤U:=by
 have h1:q*(v1*65536 + v2)=(q*v1)*65536 + q*v2:=by grind
 have h7:q*v2≤q*65535:=Int.mul_le_mul_of_nonneg_left (by omega) hq0
 have h2:q*(v1*65536 + v2) + 65536≤top*65536 + u2:=by omega
 have h3:=Int.mul_le_mul_of_nonneg_right h2 (Int.le_of_lt hP)
 have h4:q*vr≤65535*P:=Int.le_trans (Int.mul_le_mul_of_nonneg_left (Int.le_of_lt hvr.2) hq0) (Int.mul_le_mul_of_nonneg_right (by omega) (Int.le_of_lt hP))
 have h5:q*v=q*(v1*65536 + v2)*P + q*vr:=by rw[hv]; grind
 rw[Int.add_mul] at h3
 omega
end
theorem Zn {P' v1 vt top ut v U Q:Int} (hP : 0<P') (hv1 : 1≤v1) (hvt : 0≤vt) (hut:ut<P') (hv:v=v1*P' + vt) (hU:U=top*P' + ut) (hQ:Q*v≤U) (hQ0 : 0≤Q):Q≤top/v1:=by
 rw[Int.le_ediv_iff_mul_le (by omega)]
 by_cases h:Q*v1≤top
 ·exact h
 ·exfalso
  have h1:top + 1≤Q*v1:=by omega
  have h2:=Int.mul_le_mul_of_nonneg_right h1 (Int.le_of_lt hP)
  have h3 : 0≤Q*vt:=Int.mul_nonneg hQ0 hvt
  have h4:Q*v=Q*v1*P' + Q*vt:=by rw[hv]; grind
  rw[Int.add_mul] at h2
  omega
end Go.Proofs.YthipdlhknbhiiaaGreat.Ev

end
section
namespace Go.Proofs.YthipdlhknbhiiaaGreat.Ev
open Go
theorem Av8 {x c:Int} (hx:x<65536) (hlo : -4294967296≤x) (hc:c=if x<0 then (-x + 65536-1)/65536 else 0) :
  0≤x + c*65536∧x + c*65536<65536∧0≤c∧c≤65536:=by
 subst hc
 split <;> omega
structure Off (u0 u:List Int) (j k:Nat) (c q:Int) (v:List Int):Prop where
 len:u.length=u0.length
 lb:LB u
 hi:∀ i,j + k≤i→dg u i=dg u0 i
 c0 : 0≤c
 c1:c≤65536
 v:val u-B (j + k)*c=val u0-B j*(q*val (v.take k))
theorem Off.start {u0:List Int} (h:LB u0) (j:Nat) (q:Int) (v:List Int):Off u0 u0 j 0 0 q v:=⟨rfl,h,fun _ _=>rfl,by omega,by omega,by simp[val]⟩
theorem Off.next {u0 u:List Int} {j k:Nat} {c q:Int} {v:List Int} (h:Off u0 u j k c q v) (hv:LB v) (hq : 0≤q∧q<65536) (hk:j + k<u.length) {c':Int} (hc:c'=if dg u (j + k)-q*dg v k-c<0 then (-(dg u (j + k)-q*dg v k-c) + 65536-1)/65536 else 0) :
  Off u0 (u.set (j + k) (dg u (j + k)-q*dg v k-c + c'*65536)) j (k + 1) c' q v:=by
 have du:=AI h.lb (j + k)
 have dv:=AI hv k
 have m0 : 0≤q*dg v k:=Int.mul_nonneg hq.1 dv.1
 have m1:q*dg v k≤65535*65535:=Int.le_trans (Int.mul_le_mul_of_nonneg_left (show dg v k≤65535 by omega) hq.1) (Int.mul_le_mul_of_nonneg_right (show q≤65535 by omega) (by omega))
 have hc0:=h.c0
 have hc1:=h.c1
 obtain ⟨s1,s2,s3,s4⟩:=Av8 (x:=dg u (j + k)-q*dg v k-c) (by omega) (by omega) hc
 refine ⟨by rw[List.length_set]; exact h.len,h.lb.set ⟨s1,s2⟩,fun i hi=>by rw[Bm (by omega)]; exact h.hi i (by omega),s3,s4,?_⟩
 rw[D1 (Ag hk),Ax,show j + (k + 1)=j + k + 1 by omega]
 have hv2:=h.v
 have e1:B (j + k + 1)*c'=B (j + k)*(c'*65536):=by simp only[B]; grind
 have e2:B j*(q*(val (v.take k) + B k*dg v k))=B j*(q*val (v.take k)) + B (j + k)*(q*dg v k):=by rw[Oz]; grind
 have e3:B (j + k)*(dg u (j + k)-q*dg v k-c + c'*65536-dg u (j + k))=B (j + k)*(c'*65536)-B (j + k)*(q*dg v k)-B (j + k)*c:=by grind
 rw[e1,e2,e3]
 omega
theorem AS1 {u0 v out:List Int} {n by_ q:Int} {j:Nat} (hu:LB u0) (hv:LB v) (hq : 0≤q∧q<65536) (hn:n=(v.length:Int)) (hlen:j + v.length<u0.length) (hl:u0.length≤1000000) :
  ∃ u c,loopM (fun (s:((List Int)×((List Int)×((List Int)×(Int×(Int×(Int×(Int×(Int×(Int×Int))))))))))=>C5 s.1 s.2.1 s.2.2.1 s.2.2.2.1 s.2.2.2.2.1 s.2.2.2.2.2.1 s.2.2.2.2.2.2.1 s.2.2.2.2.2.2.2.1 s.2.2.2.2.2.2.2.2.1 s.2.2.2.2.2.2.2.2.2) (u0,(v,(out,(n,(by_,((j:Int),(q,(0,(n,0))))))))) =
   some (u,(v,(out,(n,(by_,((j:Int),(q,c)))))))∧Off u0 u j v.length c q v:=by
 subst hn
 obtain ⟨⟨u,c⟩,h1,h2⟩:=Fu (body:=fun (s:((List Int)×((List Int)×((List Int)×(Int×(Int×(Int×(Int×(Int×(Int×Int))))))))))=>C5 s.1 s.2.1 s.2.2.1 s.2.2.2.1 s.2.2.2.2.1 s.2.2.2.2.2.1 s.2.2.2.2.2.2.1 s.2.2.2.2.2.2.2.1 s.2.2.2.2.2.2.2.2.1 s.2.2.2.2.2.2.2.2.2)
  (st:=fun k (b:List Int×Int)=>(b.1,(v,(out,((v.length:Int),(by_,((j:Int),(q,(b.2,((v.length:Int),(k:Int))))))))))) (fin:=fun b=>(b.1,(v,(out,((v.length:Int),(by_,((j:Int),(q,b.2)))))))) (I:=fun k b=>Off u0 b.1 j k b.2 q v) (e:=v.length)
  (by
   rintro k ⟨u,c⟩ hk hI
   simp only at hI
   have hul:=hI.len
   have hp:j + k<u.length:=by omega
   have du:=AI hI.lb (j + k)
   have dv:=AI hv k
   have c0:=hI.c0
   have c1:=hI.c1
   have m0 : 0≤q*dg v k:=Int.mul_nonneg hq.1 dv.1
   have m1:q*dg v k≤65535*65535:=Int.le_trans (Int.mul_le_mul_of_nonneg_left (show dg v k≤65535 by omega) hq.1) (Int.mul_le_mul_of_nonneg_right (show q≤65535 by omega) (by omega))
   refine ⟨(u.set (j + k) (dg u (j + k)-q*dg v k-c + (if dg u (j + k)-q*dg v k-c<0 then (-(dg u (j + k)-q*dg v k-c) + 65536-1)/65536 else 0)*65536),if dg u (j + k)-q*dg v k-c<0 then (-(dg u (j + k)-q*dg v k-c) + 65536-1)/65536 else 0),?_,hI.next hv hq hp rfl⟩
   unfold C5 getN
   dsimp only
   have i1:idxI ((j:Int) + (k:Int)) u.length=some (j + k):=by rw[show (j:Int) + (k:Int)=((j + k:Nat):Int) by omega]; exact AN hp
   have hw1:=wrap1 (show k<4611686018427387904 by omega)
   have hjk:=wrapI (n:=(j:Int) + (k:Int)) (by omega) (by omega)
   rw[decide_eq_true (by omega),hjk]
   simp only[cond_true,i1,AN hk,Option.bind_some,Ag hp,Ag hk]
   rw[wrapI (n:=q*dg v k) (by omega) (by omega),wrapI (n:=dg u (j + k)-q*dg v k) (by omega) (by omega),wrapI (n:=dg u (j + k)-q*dg v k-c) (by omega) (by omega)]
   have hxb : -4294967296≤dg u (j + k)-q*dg v k-c∧dg u (j + k)-q*dg v k-c<65536:=by omega
   generalize dg u (j + k)-q*dg v k-c=x at *
   by_cases hx:x<0
   ·rw[decide_eq_true hx,if_pos hx,wrapI (n:=0-x) (by omega) (by omega),wrapI (n:=0-x + 65536) (by omega) (by omega),wrapI (n:=0-x + 65536-1) (by omega) (by omega),Int.tdiv_eq_ediv_of_nonneg (by omega),show 0-x + 65536-1 = -x + 65536-1 by omega]
    rw[wrapI (n:=(-x + 65536-1)/65536) (by omega) (by omega),wrapI (n:=(-x + 65536-1)/65536*65536) (by omega) (by omega),wrapI (n:=x + (-x + 65536-1)/65536*65536) (by omega) (by omega)]
    simp only[cond_true,Option.bind_some,Sum.elim_inr,hjk,i1,Ag hp,hw1]
   ·rw[decide_eq_false hx,if_neg hx]
    simp only[cond_false,Option.bind_some,Sum.elim_inr,hjk,i1,Ag hp,hw1,Int.zero_mul,Int.add_zero])
  (by
   rintro ⟨u,c⟩ _
   unfold C5
   dsimp only
   rw[decide_eq_false (Int.lt_irrefl _)]
   rfl) 0 (u0,0) (by omega) (Off.start hu j q v)
 exact ⟨u,c,h1,h2⟩
structure Back (u0 u:List Int) (j k:Nat) (c:Int) (v:List Int):Prop where
 len:u.length=u0.length
 lb:∀ i,i<j + v.length→0≤dg u i∧dg u i<65536
 hi:∀ i,j + k≤i→dg u i=dg u0 i
 c0 : 0≤c
 c1:c<65536
 v:val u + B (j + k)*c=val u0 + B j*val (v.take k)
theorem Ak1 {l:List Int} {k j:Nat} {x:Int} (hk:k<l.length):dg (l.set k x) j=if j=k then x else dg l j:=by
 split
 ·rename_i h; subst h; exact Ec (by rw[List.getElem?_set_self hk])
 ·rename_i h; exact Bm (fun hh=>h hh.symm)
theorem Back.next {u0 u:List Int} {j k:Nat} {c:Int} {v:List Int} (h:Back u0 u j k c v) (hv:LB v) (hkv:k<v.length) (hk:j + k<u.length) :
  Back u0 (u.set (j + k) ((dg u (j + k) + dg v k + c)%65536)) j (k + 1) ((dg u (j + k) + dg v k + c)/65536) v:=by
 have du:=h.lb (j + k) (by omega)
 have dv:=AI hv k
 have c0:=h.c0
 have c1:=h.c1
 refine ⟨by rw[List.length_set]; exact h.len,fun i hi=>?_,fun i hi=>by rw[Bm (by omega)]; exact h.hi i (by omega),by omega,by omega,?_⟩
 ·rw[Ak1 hk]
  split
  ·omega
  ·exact h.lb i hi
 ·have:=YQ (out:=u) (p:=j + k) (o:=dg u (j + k)) (d:=(dg u (j + k) + dg v k + c)%65536) (c:=c) (c':=(dg u (j + k) + dg v k + c)/65536) (t:=dg v k) (V:=val u0 + B j*val (v.take k)) (Ag hk) (by omega) h.v
  rw[show j + (k + 1)=j + k + 1 by omega,this,Ax,Int.mul_add]
  have:B (j + k)*dg v k=B j*(B k*dg v k):=by rw[Oz]; grind
  omega
theorem AP4 {u0 v out:List Int} {n by_ q:Int} {j:Nat} (hu:∀ i,i<j + v.length→0≤dg u0 i∧dg u0 i<65536) (hv:LB v) (hn:n=(v.length:Int)) (hlen:j + v.length<u0.length) (hl:u0.length≤1000000) :
  ∃ u c,loopM (fun (s:((List Int)×((List Int)×((List Int)×(Int×(Int×(Int×(Int×(Int×(Int×Int))))))))))=>Dd s.1 s.2.1 s.2.2.1 s.2.2.2.1 s.2.2.2.2.1 s.2.2.2.2.2.1 s.2.2.2.2.2.2.1 s.2.2.2.2.2.2.2.1 s.2.2.2.2.2.2.2.2.1 s.2.2.2.2.2.2.2.2.2) (u0,(v,(out,(n,(by_,((j:Int),(q,(0,(n,0))))))))) =
   some (u,(v,(out,(n,(by_,((j:Int),(q,c)))))))∧Back u0 u j v.length c v:=by
 subst hn
 obtain ⟨⟨u,c⟩,h1,h2⟩:=Fu (body:=fun (s:((List Int)×((List Int)×((List Int)×(Int×(Int×(Int×(Int×(Int×(Int×Int))))))))))=>Dd s.1 s.2.1 s.2.2.1 s.2.2.2.1 s.2.2.2.2.1 s.2.2.2.2.2.1 s.2.2.2.2.2.2.1 s.2.2.2.2.2.2.2.1 s.2.2.2.2.2.2.2.2.1 s.2.2.2.2.2.2.2.2.2)
  (st:=fun k (b:List Int×Int)=>(b.1,(v,(out,((v.length:Int),(by_,((j:Int),(q,(b.2,((v.length:Int),(k:Int))))))))))) (fin:=fun b=>(b.1,(v,(out,((v.length:Int),(by_,((j:Int),(q,b.2)))))))) (I:=fun k b=>Back u0 b.1 j k b.2 v) (e:=v.length)
  (by
   rintro k ⟨u,c⟩ hk hI
   simp only at hI
   have hul:=hI.len
   have hp:j + k<u.length:=by omega
   have du:=hI.lb (j + k) (by omega)
   have dv:=AI hv k
   have c0:=hI.c0
   have c1:=hI.c1
   refine ⟨(u.set (j + k) ((dg u (j + k) + dg v k + c)%65536),(dg u (j + k) + dg v k + c)/65536),?_,hI.next hv hk hp⟩
   unfold Dd getN
   dsimp only
   have i1:idxI ((j:Int) + (k:Int)) u.length=some (j + k):=by rw[show (j:Int) + (k:Int)=((j + k:Nat):Int) by omega]; exact AN hp
   have hw1:=wrap1 (show k<4611686018427387904 by omega)
   have hjk:=wrapI (n:=(j:Int) + (k:Int)) (by omega) (by omega)
   rw[decide_eq_true (by omega),hjk]
   simp only[cond_true,i1,AN hk,Option.bind_some,Ag hp,Ag hk]
   rw[wrapI (n:=dg u (j + k) + dg v k) (by omega) (by omega),wrapI (n:=c + (dg u (j + k) + dg v k)) (by omega) (by omega),show c + (dg u (j + k) + dg v k)=dg u (j + k) + dg v k + c by omega,Int.tmod_eq_emod_of_nonneg (by omega),Int.tdiv_eq_ediv_of_nonneg (by omega),wrapI (n:=(dg u (j + k) + dg v k + c)/65536) (by omega) (by omega),hw1])
  (by
   rintro ⟨u,c⟩ _
   unfold Dd
   dsimp only
   rw[decide_eq_false (Int.lt_irrefl _)]
   rfl) 0 (u0,0) (by omega) ⟨rfl,hu,fun _ _=>rfl,by simp only; omega,by simp only; omega,by simp[val]⟩
 exact ⟨u,c,h1,h2⟩
structure Guess (P v1 v2 vr top u2 ur V U Q:Int):Prop where
 hP : 0<P
 hv1 : 1≤v1
 hv1':v1<65536
 hv2 : 0≤v2∧v2<65536
 hvr : 0≤vr∧vr<P
 hu2 : 0≤u2∧u2<65536
 hur : 0≤ur∧ur<P
 hV:V=(v1*65536 + v2)*P + vr
 hU:U=(top*65536 + u2)*P + ur
 htop : 0≤top∧top<4294967296
 hQ:Q*V≤U
 hQ0 : 0≤Q
 hQ1:Q<65536
 hV0 : 0<V
theorem AJ8 {u v out:List Int} {n by_:Int} {j m:Nat} {P v1 v2 vr top u2 ur V U Q:Int} (G:Guess P v1 v2 vr top u2 ur V U Q) (hn:n=((m + 2:Nat):Int)) (hm:m≤1000000) (hj:j≤1000000)
  (hv:v.length=m + 2) (e1:dg v (m + 1)=v1) (e2:dg v m=v2) (hu:j + m<u.length) (e3:dg u (j + m)=u2) {q0 r0:Int} (h0:q0*v1 + r0=top) (hr0 : 0≤r0) (hq0:Q≤q0) (hq4:q0<4294967296) :
  ∃ q,loopM (fun (s:((List Int)×((List Int)×((List Int)×(Int×(Int×(Int×(Int×Int))))))))=>BZ s.1 s.2.1 s.2.2.1 s.2.2.2.1 s.2.2.2.2.1 s.2.2.2.2.2.1 s.2.2.2.2.2.2.1 s.2.2.2.2.2.2.2) (u,(v,(out,(n,(by_,((j:Int),(q0,r0)))))))=some (u,(v,(out,(n,(by_,((j:Int),q))))))∧Q≤q∧q<65536∧q*V<U + V:=by
 subst hn
 obtain ⟨r,h1,q,rfl,h2⟩:=EQ (f:=fun (s:((List Int)×((List Int)×((List Int)×(Int×(Int×(Int×(Int×Int))))))))=>BZ s.1 s.2.1 s.2.2.1 s.2.2.2.1 s.2.2.2.2.1 s.2.2.2.2.2.1 s.2.2.2.2.2.2.1 s.2.2.2.2.2.2.2)
  (I:=fun s=>∃ q r:Int,s=(u,(v,(out,(((m + 2:Nat):Int),(by_,((j:Int),(q,r)))))))∧q*v1 + r=top∧0≤r∧Q≤q∧q<4294967296)
  (R:=fun s=>∃ q:Int,s=(u,(v,(out,(((m + 2:Nat):Int),(by_,((j:Int),q))))))∧Q≤q∧q<65536∧q*V<U + V) (fun s=>s.2.2.2.2.2.2.1.toNat) (by
   rintro s ⟨q,r,rfl,g1,g2,g3,g4⟩
   simp only
   have hQ0:=G.hQ0
   have hQ1:=G.hQ1
   have hv1:=G.hv1
   have hv1':=G.hv1'
   have hv2:=G.hv2
   have hu2:=G.hu2
   have htop:=G.htop
   have hqv : 0≤q*v1:=Int.mul_nonneg (by omega) (by omega)
   have hqv2 : 0≤q*v2:=Int.mul_nonneg (by omega) hv2.1
   have hqv2':q*v2≤4294967296*65536:=Int.le_trans (Int.mul_le_mul_of_nonneg_left (show v2≤65536 by omega) (by omega)) (Int.mul_le_mul_of_nonneg_right (show q≤4294967296 by omega) (by omega))
   have iv1:idxI (((m + 2:Nat):Int)-1) v.length=some (m + 1):=by rw[show ((m + 2:Nat):Int)-1=((m + 1:Nat):Int) by omega]; exact AN (by omega)
   have iv2:idxI (((m + 2:Nat):Int)-2) v.length=some m:=by rw[show ((m + 2:Nat):Int)-2=((m:Nat):Int) by omega]; exact AN (by omega)
   have iu:idxI ((j:Int) + ((m + 2:Nat):Int)-2) u.length=some (j + m):=by rw[show (j:Int) + ((m + 2:Nat):Int)-2=((j + m:Nat):Int) by omega]; exact AN (by omega)
   have w1:=wrapI (n:=((m + 2:Nat):Int)-1) (by omega) (by omega)
   have w2:=wrapI (n:=((m + 2:Nat):Int)-2) (by omega) (by omega)
   have w3:=wrapI (n:=(j:Int) + ((m + 2:Nat):Int)) (by omega) (by omega)
   have w4:=wrapI (n:=(j:Int) + ((m + 2:Nat):Int)-2) (by omega) (by omega)
   have w5:=wrapI (n:=q*v2) (by omega) (by omega)
   have w6:=wrapI (n:=r*65536) (by omega) (by omega)
   have w7:=wrapI (n:=r*65536 + u2) (by omega) (by omega)
   have w8:=wrapI (n:=q-1) (by omega) (by omega)
   have w9:=wrapI (n:=r + v1) (by omega) (by omega)
   have less:∀ (hgo:Q≤q-1),∃ q' r':Int,(u,(v,(out,(((m + 2:Nat):Int),(by_,((j:Int),(q-1,r + v1)))))))=(u,(v,(out,(((m + 2:Nat):Int),(by_,((j:Int),(q',r')))))))∧q'*v1 + r'=top∧0≤r'∧Q≤q'∧q'<4294967296:=by
    intro hgo
    exact ⟨q-1,r + v1,rfl,by rw[Int.sub_mul]; omega,by omega,hgo,by omega⟩
   by_cases c1:q≥65536
   ·refine .inl ⟨(u,(v,(out,(((m + 2:Nat):Int),(by_,((j:Int),(q-1,r + v1))))))),?_,less (by omega),by simp only; omega⟩
    unfold BZ getN
    rw[decide_eq_true c1]
    simp only[cond_true,Option.bind_some,Sum.elim_inr,w1,iv1,Ag (show m + 1<v.length by omega),e1,w8,w9]
   ·by_cases c2:r<65536
    ·by_cases c3:q*v2>r*65536 + u2
     ·have hlt:=Sr G.hP G.hv1 G.hv2 G.hvr G.hu2 G.hur G.hV G.hU g1 (by omega) c3
      have hne:Q≤q-1:=by
       rcases Int.lt_or_le (q-1) Q with h | h
       ·have:q=Q:=by omega
        subst this
        have:=G.hQ
        omega
       ·exact h
      refine .inl ⟨(u,(v,(out,(((m + 2:Nat):Int),(by_,((j:Int),(q-1,r + v1))))))),?_,less hne,by simp only; omega⟩
      unfold BZ getN
      rw[decide_eq_false c1,decide_eq_true c2]
      simp only[cond_true,cond_false,Option.bind_some,w2,iv2,Ag (show m<v.length by omega),e2,w3,w4,iu,Ag hu,e3,w5,w6,w7,decide_eq_true c3,Sum.elim_inr,w1,iv1,Ag (show m + 1<v.length by omega),e1,w8,w9]
     ·refine .inr ⟨_,?_,q,rfl,g3,by omega,VW G.hP G.hv1 G.hv2 G.hvr G.hu2 G.hur G.hV G.hU g1 (by omega) (by omega) (by omega)⟩
      unfold BZ getN
      rw[decide_eq_false c1,decide_eq_true c2]
      simp only[cond_true,cond_false,Option.bind_some,w2,iv2,Ag (show m<v.length by omega),e2,w3,w4,iu,Ag hu,e3,w5,w6,w7,decide_eq_false c3,Sum.elim_inl]
    ·have hle:=Tx G.hP G.hv1 G.hv2 G.hvr G.hu2 G.hur G.hV G.hU g1 (by omega) (by omega) (by omega)
     have hV0:=G.hV0
     refine .inr ⟨_,?_,q,rfl,g3,by omega,by omega⟩
     unfold BZ getN
     rw[decide_eq_false c1,decide_eq_false c2]
     rfl) (u,(v,(out,(((m + 2:Nat):Int),(by_,((j:Int),(q0,r0))))))) ⟨q0,r0,rfl,h0,hr0,hq0,hq4⟩
 exact ⟨q,h1,h2⟩
end Go.Proofs.YthipdlhknbhiiaaGreat.Ev

end
section
namespace Go.Proofs.YthipdlhknbhiiaaGreat.Ev
open Go
theorem Mx {j:Nat} {a b X Y:Int} (ha : 0≤a∧a<B j) (hb : 0≤b∧b<B j) (h:a + B j*X=b + B j*Y):X=Y:=by
 rcases Int.lt_trichotomy X Y with g | g | g
 ·exfalso
  have:=Int.mul_le_mul_of_nonneg_left (show X + 1≤Y by omega) (Int.le_of_lt (EO j))
  rw[Int.mul_add] at this
  omega
 ·exact g
 ·exfalso
  have:=Int.mul_le_mul_of_nonneg_left (show Y + 1≤X by omega) (Int.le_of_lt (EO j))
  rw[Int.mul_add] at this
  omega
theorem R8 (l:List Int) (n k:Nat):dg (l.drop n) k=dg l (n + k):=by unfold dg; simp[List.getD_eq_getElem?_getD,List.getElem?_drop]
theorem BV (l:List Int) (k:Nat):val (l.drop k)=dg l k + 65536*val (l.drop (k + 1)):=by
 rcases Nat.lt_or_ge k l.length with h | h
 ·rw[List.drop_eq_getElem_cons h,Ec (List.getElem?_eq_getElem h)]; rfl
 ·rw[List.drop_eq_nil_of_le h,List.drop_eq_nil_of_le (by omega),F0 h]; simp[val]
theorem ST {l:List Int} (h:∀ i,i<l.length→0≤dg l i∧dg l i<65536):LB l:=fun x hx=>by
 obtain ⟨i,hi,rfl⟩:=List.getElem_of_mem hx
 have:=h i hi
 rwa [Ec (List.getElem?_eq_getElem hi)] at this
theorem AN2 {l:List Int} {k i:Nat} (h:i<k):dg (l.take k) i=dg l i:=by unfold dg; simp[List.getD_eq_getElem?_getD,List.getElem?_take,h]
theorem Am8 {l:List Int} {k:Nat} (h:∀ i,i<k→0≤dg l i∧dg l i<65536):LB (l.take k):=ST fun i hi=>by
 rw[List.length_take] at hi
 rw[AN2 (by omega)]
 exact h i (by omega)
theorem Kt:∀ {l:List Int},(∀ i,dg l i=0)→val l=0
 | [],_=>rfl
 | x::l,h=>by
  have h0:=h 0
  have h1:val l=0:=Kt fun i=>h (i + 1)
  simp only[val,h1]
  unfold dg at h0
  simp at h0
  omega
theorem BJ {l:List Int} (h:LB l) (k:Nat) : 0≤val (l.take k)∧val (l.take k)<B k:=by
 refine ⟨Ay (h.take k),?_⟩
 have:=Jo (h.take k)
 have:=G9 (show (l.take k).length≤k by rw[List.length_take]; omega)
 omega
theorem Al2 {l:List Int} (h:LB l) {n k:Nat} (hv:val l<B n) (hk:n≤k):dg l k=0∧val (l.drop k)=0:=by
 have h1:=Bx l k
 have h2:=Ay (h.take k)
 have h3:=Ay (h.drop k)
 have h4:=G9 hk
 have h5:val (l.drop k)=0:=by
  rcases Int.lt_or_le 0 (val (l.drop k)) with g | g
  ·have:=Int.mul_le_mul_of_nonneg_left (show 1≤val (l.drop k) by omega) (Int.le_of_lt (EO k))
   omega
  ·omega
 have h6:=BV l k
 have h7:=AI h k
 have h8:=Ay (h.drop (k + 1))
 exact ⟨by omega,h5⟩
structure Place (u v:List Int) (j m:Nat):Prop where
 lu:LB u
 lv:LB v
 hv:v.length=m + 2
 top : 1≤dg v (m + 1)
 len:j + m + 2<u.length
 less:val (u.drop (j + 1))<val v
section
variable {u v:List Int} {j m:Nat} (H:Place u v j m)
include H
theorem Place.pos : 0<val v:=by
 have h1:=Bx v (m + 1)
 have h2:=Ay (H.lv.take (m + 1))
 have h3:=BV v (m + 1)
 have h4:=Ay (H.lv.drop (m + 1 + 1))
 have h5:=H.top
 have h6:=Int.mul_le_mul_of_nonneg_left (show 1≤val (v.drop (m + 1)) by omega) (Int.le_of_lt (EO (m + 1)))
 have h7:=EO (m + 1)
 omega
theorem Place.lt:val v<B (m + 2):=by have:=Jo H.lv; rwa [H.hv] at this
theorem Place.high {k:Nat} (hk:j + m + 3≤k):dg u k=0∧val (u.drop k)=0:=by
 have h1:=Al2 (H.lu.drop (j + 1)) (n:=m + 2) (k:=k-(j + 1)) (by have:=H.less; have:=H.lt; omega) (by omega)
 rw[R8,List.drop_drop,show j + 1 + (k-(j + 1))=k by omega] at h1
 exact h1
theorem Place.rest : 0≤val (u.drop j)∧val (u.drop j)<65536*val v:=by
 refine ⟨Ay (H.lu.drop j),?_⟩
 have h1:=BV u j
 have h2:=AI H.lu j
 have h3:=H.less
 omega
theorem Place.quot : 0≤val (u.drop j)/val v∧val (u.drop j)/val v<65536:=by
 obtain ⟨h1,h2⟩:=H.rest
 have h3:=H.pos
 exact ⟨Int.ediv_nonneg h1 (by omega),Int.ediv_lt_of_lt_mul h3 h2⟩
theorem Place.mod : 0≤val (u.drop j)-val (u.drop j)/val v*val v∧val (u.drop j)-val (u.drop j)/val v*val v<val v:=by
 have h1:=Int.emod_add_mul_ediv (val (u.drop j)) (val v)
 have h2:=Int.emod_nonneg (val (u.drop j)) (show val v≠0 by have:=H.pos; omega)
 have h3:=Int.emod_lt_of_pos (val (u.drop j)) H.pos
 rw[Int.mul_comm] at h1
 omega
theorem Place.guess:Guess (B m) (dg v (m + 1)) (dg v m) (val (v.take m)) (dg u (j + m + 2)*65536 + dg u (j + m + 1)) (dg u (j + m)) (val ((u.drop j).take m)) (val v) (val (u.drop j)) (val (u.drop j)/val v):=by
 have d1:=AI H.lu (j + m + 1)
 have d2:=AI H.lu (j + m + 2)
 have hm:=H.mod
 have hq:=H.quot
 refine ⟨EO m,H.top,(AI H.lv _).2,AI H.lv _,BJ H.lv m,AI H.lu _,BJ (H.lu.drop j) m,?_,?_,by omega,by omega,hq.1,hq.2,H.pos⟩
 ·rw[Bx v m,BV v m,BV v (m + 1),List.drop_eq_nil_of_le (show v.length≤m + 1 + 1 by rw[H.hv]; omega)]
  simp only[val]
  grind
 ·rw[Bx (u.drop j) m,List.drop_drop,BV u (j + m),BV u (j + m + 1),BV u (j + m + 1 + 1),(H.high (k:=j + m + 1 + 1 + 1) (by omega)).2,show j + m + 1 + 1=j + m + 2 by omega]
  grind
theorem Place.after {u4:List Int} (hl:u4.length=u.length) (hg:∀ i,i<j + m + 2→0≤dg u4 i∧dg u4 i<65536) (hh:∀ i,j + m + 2<i→dg u4 i=dg u i) {x:Int} (hv:val u4=val u-B j*(x*val v)) :
  val (u4.drop j)=val (u.drop j)-x*val v∧∃ X,0≤X∧X<B (m + 2)∧val (u.drop j)-x*val v=X + B (m + 2)*dg u4 (j + m + 2):=by
 have e1:val (u4.drop j)=val (u.drop j)-x*val v:=by
  have h1:=Bx u4 j
  have h2:=Bx u j
  have h3:=BJ H.lu j
  have h4:LB (u4.take j):=Am8 fun i hi=>hg i (by omega)
  have h5:=BJ h4 j
  rw[List.take_take,Nat.min_self] at h5
  refine Mx (j:=j) h5 h3 ?_
  rw[Int.mul_sub]
  omega
 refine ⟨e1,val ((u4.drop j).take (m + 2)),?_⟩
 have h4:LB ((u4.drop j).take (m + 2)):=Am8 fun i hi=>by rw[R8]; exact hg _ (by omega)
 have h5:=BJ h4 (m + 2)
 rw[List.take_take,Nat.min_self] at h5
 refine ⟨h5.1,h5.2,?_⟩
 rw[←e1,Bx (u4.drop j) (m + 2),List.drop_drop,BV u4 (j + (m + 2)),Kt (l:=u4.drop (j + (m + 2) + 1)) fun i=>by rw[R8,hh _ (by omega)]; exact (H.high (by omega)).1]
 rw[show j + (m + 2)=j + m + 2 by omega,Int.mul_zero,Int.add_zero]
theorem Place.done {u4:List Int} (hl:u4.length=u.length) (hg:∀ i,i<j + m + 2→0≤dg u4 i∧dg u4 i<65536) (hh:∀ i,j + m + 2<i→dg u4 i=dg u i) {x:Int} (hv:val u4=val u-B j*(x*val v))
  (hx : 0≤val (u.drop j)-x*val v∧val (u.drop j)-x*val v<val v):dg u4 (j + m + 2)=0∧LB u4∧val (u4.drop j)<val v:=by
 obtain ⟨h1,X,h2,h3,h4⟩:=H.after hl hg hh hv
 have h0:dg u4 (j + m + 2)=0:=by
  have:=H.lt
  exact (Mx (j:=m + 2) (a:=val (u.drop j)-x*val v) (b:=X) (X:=0) (by omega) (by omega) (by rw[h4]; simp)).symm
 refine ⟨h0,ST fun i hi=>?_,by omega⟩
 rcases Nat.lt_trichotomy i (j + m + 2) with g | g | g
 ·exact hg i g
 ·rw[g,h0]; omega
 ·rw[hh i g]; exact AI H.lu i
theorem Place.one {q:Int} (h1:val (u.drop j)/val v≤q) (h2:q*val v<val (u.drop j) + val v):q=val (u.drop j)/val v∨q=val (u.drop j)/val v + 1:=by
 have hm:=H.mod
 have hp:=H.pos
 rcases Int.lt_or_le (val (u.drop j)/val v + 1) q with g | g
 ·exfalso
  have:=Int.mul_le_mul_of_nonneg_right (show val (u.drop j)/val v + 2≤q by omega) (Int.le_of_lt hp)
  rw[Int.add_mul] at this
  omega
 ·omega
end
end Go.Proofs.YthipdlhknbhiiaaGreat.Ev

end
section
namespace Go.Proofs.YthipdlhknbhiiaaGreat.Ev
open Go
theorem Place.start {u v:List Int} {j m:Nat} (H:Place u v j m):val (u.drop j)/val v≤(dg u (j + m + 2)*65536 + dg u (j + m + 1))/dg v (m + 1):=by
 have G:=H.guess
 have hu2:=G.hu2
 have hur:=G.hur
 have hP:=G.hP
 have hv2:=G.hv2
 have hvr:=G.hvr
 have h1:dg u (j + m)*B m≤65535*B m:=Int.mul_le_mul_of_nonneg_right (by omega) (by omega)
 have h2 : 0≤dg v m*B m:=Int.mul_nonneg hv2.1 (by omega)
 exact Zn (P':=65536*B m) (vt:=dg v m*B m + val (v.take m)) (ut:=dg u (j + m)*B m + val ((u.drop j).take m)) (v:=val v) (U:=val (u.drop j)) (by omega) G.hv1 (by omega) (by omega) (by rw[G.hV]; grind) (by rw[G.hU]; grind) G.hQ G.hQ0
set_option maxHeartbeats 1000000 in
theorem AL4 {u v out:List Int} {by_:Int} {j m:Nat} (H:Place u v j m) (hl:u.length≤1000000) (hj:j<out.length) :
  ∃ u',BS u v out ((m + 2:Nat):Int) by_ (j:Int)=some (.inl (u',(v,(out.set j (val (u.drop j)/val v),(((m + 2:Nat):Int),(by_,(j:Int)-1)))))) ∧
   u'.length=u.length∧LB u'∧val u'=val u-B j*(val (u.drop j)/val v*val v)∧val (u'.drop j)<val v:=by
 have hlen:=H.len
 have hvl:=H.hv
 have d1:=AI H.lu (j + m + 1)
 have d2:=AI H.lu (j + m + 2)
 have dv:=AI H.lv (m + 1)
 have htop:=H.top
 have G:=H.guess
 have hQ:=H.quot
 have hmod:=H.mod
 have hst:=H.start
 have hk:∀ l:List Int,l.length=u.length→idxI (IntKind.wrap .i64 ((j:Int) + ((m + 2:Nat):Int))) l.length=some (j + m + 2):=fun l h=>by
  rw[h,wrapI (by omega) (by omega),show (j:Int) + ((m + 2:Nat):Int)=((j + m + 2:Nat):Int) by omega]
  exact AN (by omega)
 have hk1:idxI (IntKind.wrap .i64 (IntKind.wrap .i64 ((j:Int) + ((m + 2:Nat):Int))-1)) u.length=some (j + m + 1):=by
  rw[wrapI (n:=(j:Int) + ((m + 2:Nat):Int)) (by omega) (by omega),wrapI (by omega) (by omega),show (j:Int) + ((m + 2:Nat):Int)-1=((j + m + 1:Nat):Int) by omega]
  exact AN (by omega)
 have hk2:idxI (IntKind.wrap .i64 (((m + 2:Nat):Int)-1)) v.length=some (m + 1):=by
  rw[wrapI (by omega) (by omega),show ((m + 2:Nat):Int)-1=((m + 1:Nat):Int) by omega]
  exact AN (by omega)
 have hj0:∀ l:List Int,l.length=out.length→idxI (j:Int) l.length=some j:=fun l h=>by rw[h]; exact AN hj
 have hge:decide ((j:Int)≥0)=true:=decide_eq_true (by omega)
 have hz:(dg v (m + 1)==0)=false:=beq_eq_false_iff_ne.2 (by omega)
 have w1:=wrapI (n:=dg u (j + m + 2)*65536) (by omega) (by omega)
 have w2:=wrapI (n:=dg u (j + m + 2)*65536 + dg u (j + m + 1)) (by omega) (by omega)
 have htop0 : 0≤dg u (j + m + 2)*65536 + dg u (j + m + 1):=by omega
 have e1:=Int.emod_add_mul_ediv (dg u (j + m + 2)*65536 + dg u (j + m + 1)) (dg v (m + 1))
 have e2:=Int.emod_nonneg (dg u (j + m + 2)*65536 + dg u (j + m + 1)) (show dg v (m + 1)≠0 by omega)
 have e3:(dg u (j + m + 2)*65536 + dg u (j + m + 1))/dg v (m + 1)≤dg u (j + m + 2)*65536 + dg u (j + m + 1):=Int.ediv_le_self _ htop0
 have w3:=wrapI (n:=(dg u (j + m + 2)*65536 + dg u (j + m + 1))/dg v (m + 1)) (by omega) (by omega)
 obtain ⟨q,hg1,hg2,hg3,hg4⟩:=AJ8 (out:=out) (by_:=by_) (u:=u) (v:=v) (j:=j) (m:=m) G rfl (by omega) (by omega) hvl rfl rfl (by omega) rfl (q0:=(dg u (j + m + 2)*65536 + dg u (j + m + 1))/dg v (m + 1)) (r0:=(dg u (j + m + 2)*65536 + dg u (j + m + 1))%dg v (m + 1)) (by rw[Int.mul_comm]; omega) e2 hst (by omega)
 obtain ⟨u1,c,ht1,O⟩:=AS1 (out:=out) (by_:=by_) (n:=((m + 2:Nat):Int)) (j:=j) H.lu H.lv (q:=q) ⟨by omega,hg3⟩ (by rw[hvl]) (by omega) hl
 have ol:=O.len
 have oc0:=O.c0
 have oc1:=O.c1
 have ohi:dg u1 (j + m + 2)=dg u (j + m + 2):=O.hi _ (by omega)
 have ov:=O.v
 rw[List.take_of_length_le (Nat.le_refl _),hvl,show j + (m + 2)=j + m + 2 by omega] at ov
 have gu1:getN u1 (j + m + 2)=some (dg u (j + m + 2)):=by unfold getN; rw[Ag (by omega),ohi]
 have w4:=wrapI (n:=dg u (j + m + 2)-c) (by omega) (by omega)
 have w5:=wrapI (n:=(j:Int)-1) (by omega) (by omega)
 have hset:val (u1.set (j + m + 2) (dg u (j + m + 2)-c))=val u-B j*(q*val v):=by
  rw[D1 (Ag (show j + m + 2<u1.length by omega)),ohi,show dg u (j + m + 2)-c-dg u (j + m + 2) = -c by omega,Int.mul_neg]
  omega
 have hsl:(u1.set (j + m + 2) (dg u (j + m + 2)-c)).length=u.length:=by rw[List.length_set]; exact ol
 have hsg:∀ i,i<j + m + 2→0≤dg (u1.set (j + m + 2) (dg u (j + m + 2)-c)) i∧dg (u1.set (j + m + 2) (dg u (j + m + 2)-c)) i<65536:=fun i hi=>by rw[Bm (by omega)]; exact AI O.lb i
 have hsh:∀ i,j + m + 2<i→dg (u1.set (j + m + 2) (dg u (j + m + 2)-c)) i=dg u i:=fun i hi=>by rw[Bm (by omega)]; exact O.hi i (by omega)
 have hsd:dg (u1.set (j + m + 2) (dg u (j + m + 2)-c)) (j + m + 2)=dg u (j + m + 2)-c:=by rw[Ak1 (by omega),if_pos rfl]
 have gs:getN (u1.set (j + m + 2) (dg u (j + m + 2)-c)) (j + m + 2)=some (dg u (j + m + 2)-c):=by unfold getN; rw[Ag (by omega),hsd]
 have gout:getN out j=some (dg out j):=Ag hj
 have gu0:getN u (j + m + 2)=some (dg u (j + m + 2)):=Ag (by omega)
 have gu00:getN u (j + m + 1)=some (dg u (j + m + 1)):=Ag (by omega)
 have gv0:getN v (m + 1)=some (dg v (m + 1)):=Ag (by omega)
 rcases H.one hg2 hg4 with hq | hq
 ·obtain ⟨f1,f2,f3⟩:=H.done hsl hsg hsh hset (by rw[hq]; exact hmod)
  rw[hsd] at f1
  rw[f1] at hset hsl hsg hsh hsd gs w4 f2 f3
  refine ⟨_,?_,hsl,f2,by rw[hset,hq],f3⟩
  unfold BS
  rw[hge]
  simp only[cond_true,cond_false,Option.bind_some,hk u rfl,gu0,hk1,gu00,hk2,gv0,hz,w1,w2,Int.tdiv_eq_ediv_of_nonneg htop0,Int.tmod_eq_emod_of_nonneg htop0,w3]
  rw[hg1]
  simp only[Option.bind_some]
  rw[ht1]
  simp only[Option.bind_some,hk u1 ol,gu1,f1,w4,hk _ hsl,gs,show decide ((0:Int)<0)=false from rfl,cond_false,hj0 out rfl,gout,w5,hq]
 ·obtain ⟨f1,X,f2,f3,f4⟩:=H.after hsl hsg hsh hset
  rw[hsd] at f4
  have hneg:dg u (j + m + 2)-c = -1:=by
   have hlt:=H.lt
   have hqv:q*val v=val (u.drop j)/val v*val v + val v:=by rw[hq,Int.add_mul,Int.one_mul]
   have:=Mx (j:=m + 2) (a:=val (u.drop j)-q*val v + B (m + 2)) (b:=X) (X:=-1) (Y:=dg u (j + m + 2)-c) (by omega) (by omega) (by rw[f4,Int.mul_neg,Int.mul_one]; omega)
   exact this.symm
  rw[hneg] at hset hsl hsg hsh hsd gs w4
  obtain ⟨u3,c3,hb1,K⟩:=AP4 (out:=out) (by_:=by_) (n:=((m + 2:Nat):Int)) (q:=val (u.drop j)/val v) (u0:=u1.set (j + m + 2) (-1)) (v:=v) (j:=j) (by rw[hvl]; exact hsg) H.lv (by rw[hvl]) (by omega) (by omega)
  have kl:u3.length=u.length:=K.len.trans hsl
  have kc0:=K.c0
  have kc1:=K.c1
  have khi:dg u3 (j + m + 2) = -1:=by rw[K.hi _ (by omega),hsd]
  have kv:=K.v
  rw[List.take_of_length_le (Nat.le_refl _),hvl,show j + (m + 2)=j + m + 2 by omega,hset] at kv
  have hset':val (u3.set (j + m + 2) (-1 + c3))=val u-B j*(val (u.drop j)/val v*val v):=by
   rw[D1 (Ag (show j + m + 2<u3.length by omega)),khi,show -1 + c3 - -1=c3 by omega]
   have:B j*(q*val v)=B j*(val (u.drop j)/val v*val v) + B j*val v:=by rw[hq,Int.add_mul,Int.one_mul,Int.mul_add]
   omega
  obtain ⟨f1,f2,f3⟩:=H.done (u4:=u3.set (j + m + 2) (-1 + c3)) (by rw[List.length_set]; exact kl) (fun i hi=>by rw[Bm (by omega)]; exact K.lb i (by omega)) (fun i hi=>by rw[Bm (by omega),K.hi i (by omega)]; exact hsh i hi) hset' hmod
  refine ⟨_,?_,by rw[List.length_set]; exact kl,f2,hset',f3⟩
  have gu3:getN u3 (j + m + 2)=some (-1):=by unfold getN; rw[Ag (by omega),khi]
  have w6:=wrapI (n:=-1 + c3) (by omega) (by omega)
  have w7:IntKind.wrap .i64 (q-1)=val (u.drop j)/val v:=by rw[wrapI (by omega) (by omega)]; omega
  unfold BS
  rw[hge]
  simp only[cond_true,cond_false,Option.bind_some,hk u rfl,gu0,hk1,gu00,hk2,gv0,hz,w1,w2,Int.tdiv_eq_ediv_of_nonneg htop0,Int.tmod_eq_emod_of_nonneg htop0,w3]
  rw[hg1]
  simp only[Option.bind_some]
  rw[ht1]
  simp only[Option.bind_some,hk u1 ol,gu1,hneg,w4,hk _ hsl,gs,show decide ((-1:Int)<0)=true from rfl,cond_true,w7]
  rw[hb1]
  simp only[Option.bind_some,hk u3 kl,gu3,hj0 out rfl,gout,w5,w6]
end Go.Proofs.YthipdlhknbhiiaaGreat.Ev

end
section
namespace Go.Proofs.YthipdlhknbhiiaaGreat.Ev
open Go
structure Places (u0 v:List Int) (m n:Nat) (u out:List Int):Prop where
 len:u.length=u0.length
 lu:LB u
 le:n + (m + 2)≤u0.length
 less:val (u.drop n)<val v
 lo:LB out
 olen:out.length + (m + 2)=u0.length
 zero:∀ i,i<n→dg out i=0
 v:val u + val v*val out=val u0
theorem Places.place {u0 v u out:List Int} {m n:Nat} (h:Places u0 v m (n + 1) u out) (hv:LB v) (hvl:v.length=m + 2) (ht : 1≤dg v (m + 1)):Place u v n m :=
 ⟨h.lu,hv,hvl,ht,by have:=h.le; have:=h.len; omega,h.less⟩
theorem Places.next {u0 v u out u':List Int} {m n:Nat} (h:Places u0 v m (n + 1) u out) (H:Place u v n m) (h1:u'.length=u.length) (h2:LB u') (h3:val u'=val u-B n*(val (u.drop n)/val v*val v)) (h4:val (u'.drop n)<val v) :
  Places u0 v m n u' (out.set n (val (u.drop n)/val v)):=by
 have hle:=h.le
 have hol:=h.olen
 refine ⟨h1.trans h.len,h2,by omega,h4,h.lo.set H.quot,by rw[List.length_set]; exact hol,fun i hi=>by rw[Bm (by omega)]; exact h.zero i (by omega),?_⟩
 have hz:=h.zero n (by omega)
 rw[D1 (Ag (show n<out.length by omega)),hz,h3,Int.sub_zero,Int.mul_add]
 have:=h.v
 have e:val v*(B n*(val (u.drop n)/val v))=B n*(val (u.drop n)/val v*val v):=by grind
 omega
theorem AH5 {u0 v:List Int} {m:Nat} {by_:Int} (hv:LB v) (hvl:v.length=m + 2) (ht : 1≤dg v (m + 1)) (hl:u0.length≤1000000) {n:Nat} {out:List Int} (h:Places u0 v m n u0 out) :
  ∃ u out',loopM (fun (s:((List Int)×((List Int)×((List Int)×(Int×(Int×Int))))))=>BS s.1 s.2.1 s.2.2.1 s.2.2.2.1 s.2.2.2.2.1 s.2.2.2.2.2) (u0,(v,(out,(((m + 2:Nat):Int),(by_,(n:Int)-1)))))=some (u,(out',(((m + 2:Nat):Int),by_)))∧Places u0 v m 0 u out':=by
 obtain ⟨⟨u,out'⟩,h1,h2⟩:=Ib (body:=fun (s:((List Int)×((List Int)×((List Int)×(Int×(Int×Int))))))=>BS s.1 s.2.1 s.2.2.1 s.2.2.2.1 s.2.2.2.2.1 s.2.2.2.2.2)
  (st:=fun n (b:List Int×List Int)=>(b.1,(v,(b.2,(((m + 2:Nat):Int),(by_,(n:Int)-1)))))) (fin:=fun b=>(b.1,(b.2,(((m + 2:Nat):Int),by_)))) (I:=fun n b=>Places u0 v m n b.1 b.2)
  (by
   rintro n ⟨u,out⟩ hI
   simp only at hI
   have H:=hI.place hv hvl ht
   have hle:=hI.le
   have hol:=hI.olen
   have hul:=hI.len
   obtain ⟨u',g1,g2,g3,g4,g5⟩:=AL4 (out:=out) (by_:=by_) H (by omega) (by omega)
   refine ⟨(u',out.set n (val (u.drop n)/val v)),?_,hI.next H g2 g3 g4 g5⟩
   simp only
   rw[show ((n + 1:Nat):Int)-1=(n:Int) by omega,g1])
  (by
   rintro ⟨u,out⟩ _
   unfold BS
   dsimp only
   rw[decide_eq_false (by omega)]
   rfl) n (u0,out) h
 exact ⟨u,out',h1,h2⟩
theorem Places.start {u0 v:List Int} {m n:Nat} (hu:LB u0) (hv:LB v) (hvl:v.length=m + 2) (ht : 1≤dg v (m + 1)) (hn:u0.length=n + (m + 2)) (h0:dg u0 (n + (m + 1))=0):Places u0 v m n u0 (List.replicate n 0):=by
 refine ⟨rfl,hu,by omega,?_,LB.zeros n,by simp; omega,fun i hi=>by unfold dg; rw[List.getD_eq_getElem?_getD,List.getElem?_replicate]; split <;> rfl,by rw[Dz]; omega⟩
 have h1:=Bx (u0.drop n) (m + 1)
 have h2:=BJ (hu.drop n) (m + 1)
 rw[List.drop_drop,BV u0 (n + (m + 1)),h0,List.drop_eq_nil_of_le (show u0.length≤n + (m + 1) + 1 by omega)] at h1
 simp only[val] at h1
 have h3:=Bx v (m + 1)
 have h4:=Ay (hv.take (m + 1))
 have h5:=BV v (m + 1)
 have h6:=Ay (hv.drop (m + 1 + 1))
 have h7:=Int.mul_le_mul_of_nonneg_left (show 1≤val (v.drop (m + 1)) by omega) (Int.le_of_lt (EO (m + 1)))
 omega
theorem Places.end {u0 v u out:List Int} {m:Nat} (h:Places u0 v m 0 u out) (hv:LB v):val out=val u0/val v∧val u=val u0%val v:=by
 have h1:=h.less
 rw[List.drop_zero] at h1
 exact OJ (by rw[Int.mul_comm]; have:=h.v; omega) (Ay h.lu) h1
theorem R0 {n:Nat} (h:n≠0) : 1≤dg (lim n) ((lim n).length-1)∧dg (lim n) ((lim n).length-1)<65536∧B ((lim n).length-1)*dg (lim n) ((lim n).length-1)≤n∧(n:Int)<B ((lim n).length-1)*(dg (lim n) ((lim n).length-1) + 1):=by
 have hne:(lim n).length≠0:=fun hh=>h (Ga.1 (List.eq_nil_of_length_eq_zero hh))
 have h1:=Bx (lim n) ((lim n).length-1)
 have h2:=BJ (Aq n) ((lim n).length-1)
 rw[BV,List.drop_eq_nil_of_le (show (lim n).length≤(lim n).length-1 + 1 by omega),Aj] at h1
 simp only[val,Int.mul_zero,Int.add_zero] at h1
 have h3:=AI (Aq n) ((lim n).length-1)
 refine ⟨?_,h3.2,by omega,by rw[Int.mul_add]; omega⟩
 rcases Int.lt_or_le 0 (dg (lim n) ((lim n).length-1)) with g | g
 ·omega
 ·exfalso
  have g0:dg (lim n) ((lim n).length-1)=0:=by omega
  refine PE n _ (List.getLast?_eq_getElem? .. ▸ Ag (show (lim n).length-1<(lim n).length by omega)) g0
end Go.Proofs.YthipdlhknbhiiaaGreat.Ev

end
section
namespace Go.Proofs.YthipdlhknbhiiaaGreat.Ev
open Go
theorem Jb {l:List Int} {n:Int} {i:Nat} (hn:n=(i:Int)) (h:i<l.length):getI l n=some (dg l i):=by rw[hn,Ak]; exact Ag h
theorem Av1 {n m:Int} {a b k:Nat} (hn:n=(a:Int)) (hm:m=(b:Int)) (h1:a≤b) (h2:b≤k):subI n m k=some (a,b):=by
 subst hn hm; unfold subI; simp[h1,h2]
theorem Ap5 {b:Nat} (h:(lim b).length=1):(lim b) = [(b:Int)]∧b<65536∧b≠0:=by
 match hl:lim b with
 | []=>rw[hl] at h; simp at h
 | [x] =>
  have hv:=Aj b
  have hb:=Aq b
  rw[hl] at hv hb
  have h0:=hb.head
  simp only[val] at hv
  have:b≠0:=fun h0=>by rw[h0,Bh] at hl; simp at hl
  exact ⟨by congr 1; omega,by omega,this⟩
 | x::y::l=>rw[hl] at h; simp at h
theorem S7 {a b c:Nat} (hc : 0<c):a*c/(b*c)=a/b∧a*c%(b*c)=a%b*c:=⟨Nat.mul_div_mul_right _ _ hc,Nat.mul_mod_mul_right _ _ _⟩
theorem scale {t by_:Int} (h1 : 1≤t) (h2:t<65536) (hb:by_=65536/(t + 1)) : 1≤by_∧by_≤32768∧by_*(t + 1)≤65536:=by
 have e1:=Int.emod_add_mul_ediv 65536 (t + 1)
 have e2:=Int.emod_nonneg 65536 (show t + 1≠0 by omega)
 have e3:=Int.emod_lt_of_pos 65536 (show 0<t + 1 by omega)
 rw[←hb] at e1
 have e4 : 1≤by_:=by
  rw[hb]
  exact (Int.le_ediv_iff_mul_le (by omega)).2 (by omega)
 have e5:by_*2≤by_*(t + 1):=Int.mul_le_mul_of_nonneg_left (by omega) (by omega)
 rw[Int.mul_comm] at e1
 exact ⟨e4,by omega,by omega⟩
set_option maxHeartbeats 1000000 in
theorem Ti {a b:Nat} (hb0:b≠0) (ha:(lim a).length≤90000) (hb:(lim b).length≤90000):Dq (lim a) (lim b)=some (lim (a/b),lim (a%b)):=by
 unfold Dq
 rw[GD (by unfold Brief; omega) (by unfold Brief; omega)]
 simp only[Option.bind_some]
 by_cases hab:a<b
 ·rw[C2 (by omega)]
  simp only[show decide ((-1:Int)<0)=true from rfl,cond_true]
  rw[Nat.div_eq_of_lt hab,Nat.mod_eq_of_lt hab,Bh]
 have hc:decide (cmpZ (a:Int) b<0)=false:=by
  rcases BO (a:Int) b with ⟨h,g⟩ | ⟨h,_⟩ | ⟨h,_⟩
  ·omega
  ·rw[h]; rfl
  ·rw[h]; rfl
 simp only[hc,cond_false]
 have hbl:(lim b).length≠0:=fun h=>hb0 (Ga.1 (List.eq_nil_of_length_eq_zero h))
 by_cases h1:(lim b).length=1
 ·obtain ⟨e1,e2,e3⟩:=Ap5 h1
  rw[e1]
  simp only[List.length_singleton,show (((1:Nat):Int)==1)=true from rfl,cond_true]
  rw[show getI [(b:Int)] 0=some (b:Int) from rfl]
  simp only[Option.bind_some]
  rw[Sn (by omega) (by omega)]
  simp only[Option.bind_some,Int.toNat_natCast]
  rw[VJ (by unfold Brief; simp)]
  have hm:=Nat.mod_lt a (show b>0 by omega)
  simp only[Option.bind_some,Bt (LB.cons (show (0:Int)≤((a%b:Nat):Int)∧((a%b:Nat):Int)<65536 by omega) LB.nil),val]
  congr 3
 have hn1:((((lim b).length:Nat):Int)==1)=false:=beq_eq_false_iff_ne.2 (by omega)
 obtain ⟨m,hm⟩:∃ m,(lim b).length=m + 2:=⟨(lim b).length-2,by omega⟩
 obtain ⟨t1,t2,t3,t4⟩:=R0 hb0
 rw[hm,show m + 2-1=m + 1 by omega] at t1 t2 t3 t4
 have hg:=Jb (l:=lim b) (n:=IntKind.wrap .i64 (((lim b).length:Int)-1)) (i:=m + 1) (by rw[wrapI (by omega) (by omega)]; omega) (by omega)
 generalize ht:dg (lim b) (m + 1)=t at *
 have wt:IntKind.wrap .i64 (t + 1)=t + 1:=wrapI (by omega) (by omega)
 have hz:(t + 1==0)=false:=beq_eq_false_iff_ne.2 (by omega)
 obtain ⟨s1,s2,s3⟩:=scale t1 t2 rfl
 have hby:IntKind.wrap .i64 (Int.tdiv 65536 (t + 1))=65536/(t + 1):=by rw[Int.tdiv_eq_ediv_of_nonneg (by omega)]; exact wrapI (by omega) (by omega)
 generalize hby2 : 65536/(t + 1)=by_ at *
 obtain ⟨c,rfl⟩:∃ c:Nat,by_=(c:Int):=⟨by_.toNat,by omega⟩
 have hb40:(lim a).length≤90000:=ha
 have hBa:(a:Int)<B (lim a).length:=Ah.1 (Nat.le_refl _)
 have hBb:(b:Int)<B (lim b).length:=Ah.1 (Nat.le_refl _)
 have hB1:B 1=65536:=rfl
 have fitc:∀ k,1≤k→(((c:Int)).natAbs:Int)<B k:=fun k hk=>by
  have:=G9 hk
  omega
 have hk1 : 1≤(lim a).length:=by
  rcases Nat.eq_zero_or_pos (lim a).length with h | h
  ·have:=Ga.1 (List.eq_nil_of_length_eq_zero h); omega
  ·exact h
 obtain ⟨ra,hra,era⟩:=Cr (x:=(a:Int)) (y:=(c:Int)) (k:=(lim a).length) (by omega) (by rw[Int.natAbs_natCast]; exact hBa) (fitc _ hk1)
 obtain ⟨rb,hrb,erb⟩:=Cr (x:=(b:Int)) (y:=(c:Int)) (k:=(lim b).length) (by omega) (by rw[Int.natAbs_natCast]; exact hBb) (fitc _ (by omega))
 have bn:∀ n:Nat,big (n:Int)=(false,lim n):=fun n=>by unfold big; rw[decide_eq_false (by omega),Int.natAbs_natCast]
 have ra1:ra.1=lim (a*c):=by rw[show (a:Int)*c=((a*c:Nat):Int) by simp,bn] at era; exact (Prod.ext_iff.1 era).2
 have rb1:rb.1=lim (b*c):=by rw[show (b:Int)*c=((b*c:Nat):Int) by simp,bn] at erb; exact (Prod.ext_iff.1 erb).2
 rw[bn,bn] at hra hrb
 have mkb:∀ n:Nat,(lim n).length≤90000→AO false (lim n)=some (lim n,false):=fun n hn=>by
  rw[FA (Aq n) (by unfold Brief; omega),Aj]; simp
 simp only[hn1,cond_false,hg,Option.bind_some,wt,hz,hby,mkb a ha,mkb b hb,M5 (n:=(c:Int)) (by omega) (by omega),bn,hra,hrb,ra1,rb1]
 have hc0 : 0<c:=by omega
 have la:(lim a).length≤(lim (a*c)).length:=by
  rw[Ah]
  have h1:((a*c:Nat):Int)<B (lim (a*c)).length:=Ah.1 (Nat.le_refl _)
  have:a*1≤a*c:=Nat.mul_le_mul_left _ (by omega)
  omega
 have la2:(lim (a*c)).length≤(lim a).length + 1:=by
  rw[Ah]
  rw[show ((a*c:Nat):Int)=(a:Int)*c by simp]
  have e1:(a:Int)*c≤a*65536:=Int.mul_le_mul_of_nonneg_left (by omega) (by omega)
  simp only[B]
  omega
 have lb:(lim (b*c)).length=m + 2:=by
  apply Nat.le_antisymm
  ·rw[Ah]
   rw[show ((b*c:Nat):Int)=(b:Int)*c by simp]
   have e1:(b:Int)*c<B (m + 1)*(t + 1)*c:=Int.mul_lt_mul_of_pos_right t4 (by omega)
   have e2:B (m + 1)*((c:Int)*(t + 1))≤B (m + 1)*65536:=Int.mul_le_mul_of_nonneg_left s3 (Int.le_of_lt (EO _))
   have e3:B (m + 1)*(t + 1)*c=B (m + 1)*((c:Int)*(t + 1)):=by rw[Int.mul_assoc,Int.mul_comm (t + 1)]
   have e4:B (m + 2)=B (m + 1)*65536:=by simp only[B]; omega
   omega
  ·rw[←hm,Ah]
   have h1:((b*c:Nat):Int)<B (lim (b*c)).length:=Ah.1 (Nat.le_refl _)
   have:b*1≤b*c:=Nat.mul_le_mul_left _ (by omega)
   omega
 have happ:appL 8 1 (lim (a*c)) [0]=some (lim (a*c) ++ [0]):=app1 (by omega)
 have hle:(lim b).length≤(lim a).length:=by
  rw[Ah]; omega
 simp only[happ,Option.bind_some]
 rw[Am (r:=(lim (a*c) ++ [0],(lim (b*c),(((lim b).length:Int),(c:Int))))) (by
  unfold J2
  dsimp only
  rw[wrapI (by omega) (by omega),decide_eq_false (by simp; omega)]
  rfl)]
 simp only[Option.bind_some]
 have hlu:(lim (a*c) ++ [(0:Int)]).length=((lim (a*c)).length-(m + 1)) + (m + 2):=by simp; omega
 have wl:IntKind.wrap .i64 (((lim (a*c) ++ [(0:Int)]).length:Int)-((lim b).length:Int))=(((lim (a*c)).length-(m + 1):Nat):Int):=by
  rw[wrapI (by omega) (by omega)]; omega
 generalize hn:(lim (a*c)).length-(m + 1)=n at *
 rw[wl,FQ (by unfold maxBytes; omega) (by unfold maxBytes; omega)]
 simp only[Option.bind_some]
 have hval0:val (lim (a*c) ++ [(0:Int)])=((a*c:Nat):Int):=by rw[It,Aj]; omega
 have hlb0:LB (lim (a*c) ++ [(0:Int)]):=(Aq _).append (LB.cons (by omega) LB.nil)
 have hbc0:b*c≠0:=Nat.mul_ne_zero hb0 (by omega)
 have htop:=(R0 hbc0).1
 rw[lb,show m + 2-1=m + 1 by omega] at htop
 obtain ⟨u,out,hp,P⟩:=AH5 (by_:=(c:Int)) (Aq (b*c)) lb htop (by omega) (Places.start hlb0 (Aq _) lb htop hlu (by
  unfold dg
  rw[List.getD_eq_getElem?_getD,List.getElem?_append_right (by omega),show n + (m + 1)-(lim (a*c)).length=0 by omega]
  rfl))
 rw[show ((lim b).length:Int)=((m + 2:Nat):Int) by omega,wrapI (by omega) (by omega),hp]
 simp only[Option.bind_some]
 obtain ⟨p1,p2⟩:=P.end (Aq _)
 rw[hval0,Aj] at p1 p2
 obtain ⟨q1,q2⟩:=S7 (a:=a) (b:=b) hc0
 have p1':val out=((a/b:Nat):Int):=by rw[p1,←q1]; simp
 have p2':val u=((a%b*c:Nat):Int):=by rw[p2,←q2]; simp
 have hul:=P.len
 have hol:=P.olen
 rw[Av1 (a:=0) (b:=m + 2) (by rfl) rfl (by omega) (by omega)]
 simp only[Option.bind_some,List.drop_zero,Nat.sub_zero,Nat.zero_add]
 have hless:=P.less
 rw[List.drop_zero,Aj] at hless
 have hbc:((b*c:Nat):Int)<B (m + 2):=by rw[←lb]; exact Ah.1 (Nat.le_refl _)
 have hvt:val (u.take (m + 2))=val u:=by
  have h1:=Bx u (m + 2)
  have h2:=(Al2 P.lu (n:=m + 2) (k:=m + 2) (by omega) (Nat.le_refl _)).2
  rw[h2] at h1
  omega
 rw[VJ (by unfold Brief; rw[List.length_take]; omega)]
 simp only[Option.bind_some]
 rw[Bt (P.lu.take _),hvt,p2',Int.toNat_natCast,Sn (by omega) (by
  have:(lim (a%b*c)).length≤m + 2:=by
   rw[Ah]
   have:=Nat.mul_lt_mul_of_pos_right (Nat.mod_lt a (show b>0 by omega)) hc0
   omega
  omega)]
 simp only[Option.bind_some]
 rw[VJ (by unfold Brief; omega)]
 simp only[Option.bind_some]
 rw[Bt P.lo,p1',Int.toNat_natCast,Int.toNat_natCast,Nat.mul_div_cancel _ hc0]
end Go.Proofs.YthipdlhknbhiiaaGreat.Ev

end
section
namespace Go.Proofs.YthipdlhknbhiiaaGreat.Ev
open Go
theorem Yu (v:List Int) (k:Nat):dg (v ++ [0]) k=dg v k:=by
 unfold dg
 simp only[List.getD_eq_getElem?_getD]
 rcases Nat.lt_or_ge k v.length with h | h
 ·rw[List.getElem?_append_left h]
 ·rw[List.getElem?_append_right h,List.getElem?_eq_none h]
  rcases Nat.eq_zero_or_pos (k-v.length) with g | g
  ·rw[g]; rfl
  ·rw[List.getElem?_eq_none (by simp; omega)]
theorem Wu (v:List Int):val (v ++ [0])=val v:=by rw[It]; omega
theorem ZU {v:List Int} (h:LB v):LB (v ++ [0]):=h.append (LB.cons (by omega) LB.nil)
theorem AQ3 {u0 v:List Int} {q:Int} {j:Nat} (hu:LB u0) (hv:LB v) (hq : 0≤q∧q<65536) (hlen:j + v.length<u0.length) (hl:u0.length≤1000000) :
  ∃ u c,GI u0 v (j:Int) q=some (u,c)∧Off u0 u j (v.length + 1) c q (v ++ [0]):=by
 obtain ⟨⟨u,c⟩,h1,h2⟩:=Fu (body:=fun (s:((List Int)×((List Int)×(Int×(Int×(Int×Int))))))=>F9 s.1 s.2.1 s.2.2.1 s.2.2.2.1 s.2.2.2.2.1 s.2.2.2.2.2)
  (st:=fun k (b:List Int×Int)=>(b.1,(v,((j:Int),(q,(b.2,(k:Int))))))) (fin:=fun b=>(b.1,b.2)) (I:=fun k b=>Off u0 b.1 j k b.2 q (v ++ [0])) (e:=v.length + 1)
  (by
   rintro k ⟨u,c⟩ hk hI
   simp only at hI
   have hul:=hI.len
   have hp:j + k<u.length:=by omega
   have du:=AI hI.lb (j + k)
   have dv:=AI hv k
   have c0:=hI.c0
   have c1:=hI.c1
   have m0 : 0≤q*dg v k:=Int.mul_nonneg hq.1 dv.1
   have m1:q*dg v k≤65535*65535:=Int.le_trans (Int.mul_le_mul_of_nonneg_left (show dg v k≤65535 by omega) hq.1) (Int.mul_le_mul_of_nonneg_right (show q≤65535 by omega) (by omega))
   have hnx:=hI.next (ZU hv) hq hp rfl
   rw[Yu] at hnx
   refine ⟨(u.set (j + k) (dg u (j + k)-q*dg v k-c + (if dg u (j + k)-q*dg v k-c<0 then (-(dg u (j + k)-q*dg v k-c) + 65536-1)/65536 else 0)*65536),if dg u (j + k)-q*dg v k-c<0 then (-(dg u (j + k)-q*dg v k-c) + 65536-1)/65536 else 0),?_,hnx⟩
   unfold F9 getN
   dsimp only
   have i1:idxI ((j:Int) + (k:Int)) u.length=some (j + k):=by rw[show (j:Int) + (k:Int)=((j + k:Nat):Int) by omega]; exact AN hp
   have hw1:=wrap1 (show k<4611686018427387904 by omega)
   have hjk:=wrapI (n:=(j:Int) + (k:Int)) (by omega) (by omega)
   rw[decide_eq_true (by omega),hjk]
   simp only[cond_true,i1,Option.bind_some,Ag hp,HZ]
   rw[wrapI (n:=q*dg v k) (by omega) (by omega),wrapI (n:=dg u (j + k)-q*dg v k) (by omega) (by omega),wrapI (n:=dg u (j + k)-q*dg v k-c) (by omega) (by omega)]
   have hxb : -4294967296≤dg u (j + k)-q*dg v k-c∧dg u (j + k)-q*dg v k-c<65536:=by omega
   generalize dg u (j + k)-q*dg v k-c=x at *
   by_cases hx:x<0
   ·rw[decide_eq_true hx,if_pos hx,wrapI (n:=0-x) (by omega) (by omega),wrapI (n:=0-x + 65536) (by omega) (by omega),wrapI (n:=0-x + 65536-1) (by omega) (by omega),Int.tdiv_eq_ediv_of_nonneg (by omega),show 0-x + 65536-1 = -x + 65536-1 by omega]
    rw[wrapI (n:=(-x + 65536-1)/65536) (by omega) (by omega),wrapI (n:=(-x + 65536-1)/65536*65536) (by omega) (by omega),wrapI (n:=x + (-x + 65536-1)/65536*65536) (by omega) (by omega)]
    simp only[cond_true,Option.bind_some,Sum.elim_inr,hjk,i1,Ag hp,hw1]
   ·rw[decide_eq_false hx,if_neg hx]
    simp only[cond_false,Option.bind_some,Sum.elim_inr,hjk,i1,Ag hp,hw1,Int.zero_mul,Int.add_zero])
  (by
   rintro ⟨u,c⟩ _
   unfold F9
   dsimp only
   rw[decide_eq_false (by omega)]
   rfl) 0 (u0,0) (by omega) (Off.start hu j q (v ++ [0]))
 refine ⟨u,c,?_,h2⟩
 unfold GI
 dsimp only at h1
 rw[show ((0:Nat):Int)=0 from rfl] at h1
 rw[h1]
 rfl
theorem AO9 {u0 v:List Int} {j:Nat} (hu:LB u0) (hv:LB v) (hlen:j + v.length<u0.length) (hl:u0.length≤1000000) :
  ∃ u c,Gw u0 v (j:Int)=some u∧Back u0 u j (v.length + 1) c (v ++ [0]):=by
 obtain ⟨⟨u,c⟩,h1,h2⟩:=Fu (body:=fun (s:((List Int)×((List Int)×(Int×(Int×Int)))))=>Gc s.1 s.2.1 s.2.2.1 s.2.2.2.1 s.2.2.2.2)
  (st:=fun k (b:List Int×Int)=>(b.1,(v,((j:Int),(b.2,(k:Int)))))) (fin:=fun b=>b.1) (I:=fun k b=>Back u0 b.1 j k b.2 (v ++ [0])) (e:=v.length + 1)
  (by
   rintro k ⟨u,c⟩ hk hI
   simp only at hI
   have hul:=hI.len
   have hp:j + k<u.length:=by omega
   have du:=hI.lb (j + k) (by simp; omega)
   have dv:=AI hv k
   have c0:=hI.c0
   have c1:=hI.c1
   have hnx:=hI.next (ZU hv) (by simp; omega) hp
   rw[Yu] at hnx
   refine ⟨⟨_,_⟩,?_,hnx⟩
   unfold Gc getN
   dsimp only
   have i1:idxI ((j:Int) + (k:Int)) u.length=some (j + k):=by rw[show (j:Int) + (k:Int)=((j + k:Nat):Int) by omega]; exact AN hp
   have hw1:=wrap1 (show k<4611686018427387904 by omega)
   have hjk:=wrapI (n:=(j:Int) + (k:Int)) (by omega) (by omega)
   rw[decide_eq_true (by omega),hjk]
   simp only[cond_true,i1,Option.bind_some,Ag hp,HZ]
   rw[wrapI (n:=dg u (j + k) + dg v k) (by omega) (by omega),wrapI (n:=dg u (j + k) + dg v k + c) (by omega) (by omega),Int.tmod_eq_emod_of_nonneg (by omega),Int.tdiv_eq_ediv_of_nonneg (by omega),wrapI (n:=(dg u (j + k) + dg v k + c)/65536) (by omega) (by omega),hw1])
  (by
   rintro ⟨u,c⟩ _
   unfold Gc
   dsimp only
   rw[decide_eq_false (by omega)]
   rfl) 0 (u0,0) (by omega) ⟨rfl,fun i _=>AI hu i,fun _ _=>rfl,by simp only; omega,by simp only; omega,by simp[val]⟩
 refine ⟨u,c,?_,h2⟩
 unfold Gw
 dsimp only at h1
 rw[show ((0:Nat):Int)=0 from rfl] at h1
 rw[h1]
 rfl
theorem AO0 {u v:List Int} {j m:Nat} (H:Place u v j m) (hl:u.length≤1000000) :
  ∃ q,FI u v (j:Int)=some q∧val (u.drop j)/val v≤q∧q<65536∧q*val v<val (u.drop j) + val v:=by
 have G:=H.guess
 have hv:=H.hv
 have hlen:=H.len
 have hrest:=H.rest
 have hst:=H.start
 have d1:=AI H.lu (j + m + 1)
 have d2:=AI H.lu (j + m + 2)
 have hu:j + m<u.length:=by omega
 have htop65:dg u (j + m + 2)*65536 + dg u (j + m + 1)<65536*(dg v (m + 1) + 1):=by
  have hP:=G.hP
  have hU:=G.hU
  have hV:=G.hV
  have hv2:=G.hv2
  have hvr:=G.hvr
  have hu2:=G.hu2
  have hur:=G.hur
  rcases Int.lt_or_le (dg u (j + m + 2)*65536 + dg u (j + m + 1)) (65536*(dg v (m + 1) + 1)) with h | h
  ·exact h
  ·exfalso
   generalize dg u (j + m + 2)*65536 + dg u (j + m + 1)=top at *
   generalize dg v (m + 1)=v1 at *
   generalize dg v m=v2 at *
   generalize dg u (j + m)=u2 at *
   generalize val (v.take m)=vr at *
   generalize val ((u.drop j).take m)=ur at *
   have e1:=Int.mul_le_mul_of_nonneg_right (show 65536*(v1 + 1)*65536≤top*65536 + u2 by omega) (Int.le_of_lt hP)
   have e2:=Int.mul_le_mul_of_nonneg_right (show v1*65536 + v2 + 1≤(v1 + 1)*65536 by omega) (Int.le_of_lt hP)
   rw[Int.add_mul,Int.one_mul] at e2
   have e3 : 65536*(v1 + 1)*65536*B m=65536*((v1 + 1)*65536*B m):=by grind
   omega
 have hv1:=G.hv1
 have hv1':=G.hv1'
 have htop0 : 0≤dg u (j + m + 2)*65536 + dg u (j + m + 1):=by omega
 have e1:=Int.emod_add_mul_ediv (dg u (j + m + 2)*65536 + dg u (j + m + 1)) (dg v (m + 1))
 have e2:=Int.emod_nonneg (dg u (j + m + 2)*65536 + dg u (j + m + 1)) (show dg v (m + 1)≠0 by omega)
 have e3:(dg u (j + m + 2)*65536 + dg u (j + m + 1))/dg v (m + 1)≤dg u (j + m + 2)*65536 + dg u (j + m + 1):=Int.ediv_le_self _ htop0
 have e4:=Int.ediv_nonneg htop0 (show 0≤dg v (m + 1) by omega)
 have w1:=wrapI (n:=dg u (j + m + 2)*65536) (by omega) (by omega)
 have w2:=wrapI (n:=dg u (j + m + 2)*65536 + dg u (j + m + 1)) (by omega) (by omega)
 have w3:=wrapI (n:=(dg u (j + m + 2)*65536 + dg u (j + m + 1))/dg v (m + 1)) (by omega) (by omega)
 have g1:getI u (IntKind.wrap .i64 ((j:Int) + (v.length:Int)))=some (dg u (j + m + 2)):=Jb (by rw[wrapI (by omega) (by omega)]; omega) (by omega)
 have g2:getI u (IntKind.wrap .i64 (IntKind.wrap .i64 ((j:Int) + (v.length:Int))-1))=some (dg u (j + m + 1)):=Jb (by rw[wrapI (n:=(j:Int) + (v.length:Int)) (by omega) (by omega),wrapI (by omega) (by omega)]; omega) (by omega)
 have g3:getI v (IntKind.wrap .i64 ((v.length:Int)-1))=some (dg v (m + 1)):=Jb (by rw[wrapI (by omega) (by omega)]; omega) (by omega)
 have g4:getI v (IntKind.wrap .i64 ((v.length:Int)-2))=some (dg v m):=Jb (by rw[wrapI (by omega) (by omega)]; omega) (by omega)
 have g5:getI u (IntKind.wrap .i64 (IntKind.wrap .i64 ((j:Int) + (v.length:Int))-2))=some (dg u (j + m)):=Jb (by rw[wrapI (n:=(j:Int) + (v.length:Int)) (by omega) (by omega),wrapI (by omega) (by omega)]; omega) (by omega)
 have hz:(dg v (m + 1)==0)=false:=beq_eq_false_iff_ne.2 (by omega)
 obtain ⟨r,h1,h2⟩:=EQ (f:=fun (s:((List Int)×((List Int)×(Int×(Int×(Int×Int))))))=>CT s.1 s.2.1 s.2.2.1 s.2.2.2.1 s.2.2.2.2.1 s.2.2.2.2.2)
  (I:=fun s=>∃ q r:Int,s=(u,(v,((j:Int),((v.length:Int),(q,r)))))∧q*dg v (m + 1) + r=dg u (j + m + 2)*65536 + dg u (j + m + 1)∧0≤r∧val (u.drop j)/val v≤q∧q<4294967296)
  (R:=fun q=>val (u.drop j)/val v≤q∧q<65536∧q*val v<val (u.drop j) + val v) (fun s=>s.2.2.2.2.1.toNat) (by
   rintro s ⟨q,r,rfl,f1,f2,f3,f4⟩
   simp only
   have hQ0:=G.hQ0
   have hQ1:=G.hQ1
   have hv2:=G.hv2
   have hu2:=G.hu2
   have htop:=G.htop
   have hqv : 0≤q*dg v (m + 1):=Int.mul_nonneg (by omega) (by omega)
   have hqv2 : 0≤q*dg v m:=Int.mul_nonneg (by omega) hv2.1
   have hqv2':q*dg v m≤4294967296*65536:=Int.le_trans (Int.mul_le_mul_of_nonneg_left (show dg v m≤65536 by omega) (by omega)) (Int.mul_le_mul_of_nonneg_right (show q≤4294967296 by omega) (by omega))
   have w5:=wrapI (n:=q*dg v m) (by omega) (by omega)
   have w6:=wrapI (n:=r*65536) (by omega) (by omega)
   have w7:=wrapI (n:=r*65536 + dg u (j + m)) (by omega) (by omega)
   have w8:=wrapI (n:=q-1) (by omega) (by omega)
   have w9:=wrapI (n:=r + dg v (m + 1)) (by omega) (by omega)
   have less:∀ (hgo:val (u.drop j)/val v≤q-1),∃ q' r':Int,(u,(v,((j:Int),((v.length:Int),(q-1,r + dg v (m + 1))))))=(u,(v,((j:Int),((v.length:Int),(q',r')))))∧q'*dg v (m + 1) + r'=dg u (j + m + 2)*65536 + dg u (j + m + 1)∧0≤r'∧val (u.drop j)/val v≤q'∧q'<4294967296:=by
    intro hgo
    exact ⟨q-1,r + dg v (m + 1),rfl,by rw[Int.sub_mul]; omega,by omega,hgo,by omega⟩
   by_cases c2:r<65536
   ·by_cases c1:q≥65536
    ·refine .inl ⟨(u,(v,((j:Int),((v.length:Int),(q-1,r + dg v (m + 1)))))),?_,less (by omega),by simp only; omega⟩
     unfold CT
     rw[decide_eq_true c2,decide_eq_true c1]
     simp only[cond_true,Option.bind_some,Sum.elim_inl,Sum.elim_inr,g3,w8,w9]
    ·by_cases c3:q*dg v m>r*65536 + dg u (j + m)
     ·have hlt:=Sr G.hP G.hv1 G.hv2 G.hvr G.hu2 G.hur G.hV G.hU f1 (by omega) c3
      have hne:val (u.drop j)/val v≤q-1:=by
       rcases Int.lt_or_le (q-1) (val (u.drop j)/val v) with h | h
       ·have:q=val (u.drop j)/val v:=by omega
        have:=G.hQ
        subst q
        omega
       ·exact h
      refine .inl ⟨(u,(v,((j:Int),((v.length:Int),(q-1,r + dg v (m + 1)))))),?_,less hne,by simp only; omega⟩
      unfold CT
      rw[decide_eq_true c2,decide_eq_false c1]
      simp only[cond_true,cond_false,Option.bind_some,g4,g5,w5,w6,w7,decide_eq_true c3,Sum.elim_inr,g3,w8,w9]
     ·refine .inr ⟨q,?_,f3,by omega,VW G.hP G.hv1 G.hv2 G.hvr G.hu2 G.hur G.hV G.hU f1 (by omega) (by omega) (by omega)⟩
      unfold CT
      rw[decide_eq_true c2,decide_eq_false c1]
      simp only[cond_true,cond_false,Option.bind_some,g4,g5,w5,w6,w7,decide_eq_false c3,Sum.elim_inl]
   ·have hq65:q<65536:=by
     rcases Int.lt_or_le q 65536 with h | h
     ·exact h
     ·exfalso
      have:=Int.mul_le_mul_of_nonneg_right h (show 0≤dg v (m + 1) by omega)
      omega
    have hle:=Tx G.hP G.hv1 G.hv2 G.hvr G.hu2 G.hur G.hV G.hU f1 (by omega) hq65 (by omega)
    have hV0:=G.hV0
    refine .inr ⟨q,?_,f3,hq65,by omega⟩
    unfold CT
    rw[decide_eq_false c2]
    rfl) (u,(v,((j:Int),((v.length:Int),((dg u (j + m + 2)*65536 + dg u (j + m + 1))/dg v (m + 1),(dg u (j + m + 2)*65536 + dg u (j + m + 1))%dg v (m + 1)))))) ⟨_,_,rfl,by rw[Int.mul_comm]; omega,e2,hst,by omega⟩
 refine ⟨r,?_,h2⟩
 unfold FI
 simp only[g1,g2,g3,Option.bind_some,hz,cond_false,w1,w2,Int.tdiv_eq_ediv_of_nonneg htop0,Int.tmod_eq_emod_of_nonneg htop0,w3]
 rw[h1]
 rfl
theorem Place.part {u v u':List Int} {j m:Nat} (H:Place u v j m) (h1:u'.length=u.length) (h2:LB u') (h3:∀ i,j + m + 3≤i→dg u' i=dg u i) {W e:Int} (h4:val u'=val u-B j*W + B (j + m + 3)*e) :
  val (u'.drop j)=val (u.drop j)-W + B (m + 3)*e∧0≤val (u'.drop j)∧val (u'.drop j)<B (m + 3):=by
 have hz:val (u'.drop (j + (m + 3)))=0:=Kt fun i=>by rw[R8,h3 _ (by omega)]; exact (H.high (by omega)).1
 have p1:=Bx (u'.drop j) (m + 3)
 rw[List.drop_drop,hz] at p1
 have p2:=BJ (h2.drop j) (m + 3)
 have p3:=Bx u' j
 have p4:=Bx u j
 have p5:=BJ h2 j
 have p6:=BJ H.lu j
 refine ⟨?_,by omega,by omega⟩
 refine Mx p5 p6 ?_
 have e1:B (j + m + 3)*e=B j*(B (m + 3)*e):=by rw[show j + m + 3=j + (m + 3) by omega,Oz]; grind
 rw[Int.mul_add,Int.mul_sub]
 omega
set_option maxHeartbeats 1000000 in
theorem AL0 {u v out:List Int} {bits:Int} {j m:Nat} (H:Place u v j m) (hl:u.length≤1000000) (hj:j<out.length) :
  ∃ u',Bu u v out bits (j:Int)=some (.inl (u',(v,(out.set j (val (u.drop j)/val v),(bits,(j:Int)-1))))) ∧
   u'.length=u.length∧LB u'∧val u'=val u-B j*(val (u.drop j)/val v*val v)∧val (u'.drop j)<val v:=by
 have hlen:=H.len
 have hvl:=H.hv
 have hQ:=H.quot
 have hmod:=H.mod
 have hlt:=H.lt
 have hpos:=H.pos
 have hB3:B (m + 3)=65536*B (m + 2):=rfl
 obtain ⟨q,hg1,hg2,hg3,hg4⟩:=AO0 H hl
 obtain ⟨u1,c,ht1,O⟩:=AQ3 (j:=j) (q:=q) H.lu H.lv ⟨by omega,hg3⟩ (by omega) hl
 have ov:=O.v
 have ol:=O.len
 have oc0:=O.c0
 rw[List.take_of_length_le (by simp),Wu,hvl,show j + (m + 2 + 1)=j + m + 3 by omega] at ov
 have oh:=O.hi
 rw[hvl,show j + (m + 2 + 1)=j + m + 3 by omega] at oh
 obtain ⟨p1,p2,p3⟩:=H.part ol O.lb oh (W:=q*val v) (e:=c) (by omega)
 have hge:decide ((j:Int)≥0)=true:=decide_eq_true (by omega)
 have w5:=wrapI (n:=(j:Int)-1) (by omega) (by omega)
 have hj0:idxI (j:Int) out.length=some j:=AN hj
 have gout:getN out j=some (dg out j):=Ag hj
 have hBp:=EO (m + 3)
 rcases H.one hg2 hg4 with hq | hq
 ·have hc:c=0:=by
   rw[hq] at p1
   have:=Mx (j:=m + 3) (a:=val (u1.drop j)) (b:=val (u.drop j)-val (u.drop j)/val v*val v) (X:=0) (Y:=c) ⟨p2,p3⟩ (by omega) (by omega)
   exact this.symm
  subst hc
  refine ⟨u1,?_,ol,O.lb,by rw[hq] at ov; omega,by rw[hq] at p1; omega⟩
  unfold Bu
  simp only[hge,cond_true,hg1,ht1,Option.bind_some,ol,decide_true,show decide ((0:Int)>0)=false from rfl,cond_false,hj0,gout,w5]
  rw[hq]
 ·have hqv:q*val v=val (u.drop j)/val v*val v + val v:=by rw[hq,Int.add_mul,Int.one_mul]
  have hc:c=1:=by
   have:=Mx (j:=m + 3) (a:=val (u1.drop j)) (b:=val (u.drop j)-q*val v + B (m + 3)) (X:=1) (Y:=c) ⟨p2,p3⟩ (by omega) (by omega)
   exact this.symm
  subst hc
  obtain ⟨u2,c2,hb1,K⟩:=AO9 (u0:=u1) (v:=v) (j:=j) O.lb H.lv (by omega) (by omega)
  have kl:=K.len
  have kh:=K.hi
  have kv:=K.v
  rw[List.take_of_length_le (by simp),Wu,hvl,show j + (m + 2 + 1)=j + m + 3 by omega] at kv
  rw[hvl,show j + (m + 2 + 1)=j + m + 3 by omega] at kh
  have klb:LB u2:=ST fun i hi=>by
   rcases Nat.lt_or_ge i (j + m + 3) with g | g
   ·exact K.lb i (by simp; omega)
   ·rw[kh i g]; exact AI O.lb i
  have e1:B j*(q*val v)=B j*(val (u.drop j)/val v*val v) + B j*val v:=by rw[hqv,Int.mul_add]
  have hall:val u2=val u-B j*(val (u.drop j)/val v*val v) + B (j + m + 3)*(1-c2):=by
   rw[Int.mul_sub]; omega
  obtain ⟨k1,k2,k3⟩:=H.part (kl.trans ol) klb (fun i hi=>(kh i hi).trans (oh i hi)) hall
  have hc2:c2=1:=by
   have:=Mx (j:=m + 3) (a:=val (u2.drop j)) (b:=val (u.drop j)-val (u.drop j)/val v*val v) (X:=0) (Y:=1-c2) ⟨k2,k3⟩ (by omega) (by omega)
   omega
  subst hc2
  refine ⟨u2,?_,kl.trans ol,klb,by omega,by omega⟩
  have w7:IntKind.wrap .i64 (q-1)=val (u.drop j)/val v:=by rw[wrapI (by omega) (by omega)]; omega
  unfold Bu
  simp only[hge,cond_true,hg1,ht1,Option.bind_some,ol,decide_true,show decide ((1:Int)>0)=true from rfl,hb1,kl,hj0,gout,w5,w7]
end Go.Proofs.YthipdlhknbhiiaaGreat.Ev

end
section
namespace Go.Proofs.YthipdlhknbhiiaaGreat.Ev
open Go
theorem An2 {s o t:Nat} (ho:o<2 ^ s) (h : 2 ^ s*t + o<4611686018427387904):orI .i64 (o:Int) ((2 ^ s*t:Nat):Int)=((o + 2 ^ s*t:Nat):Int):=by
 unfold orI
 rw[BitVec.ofInt_natCast,BitVec.ofInt_natCast,BitVec.toNat_or,BitVec.toNat_ofNat,BitVec.toNat_ofNat]
 have h64:IntKind.bits .i64=64:=rfl
 rw[h64,Nat.mod_eq_of_lt (by omega),Nat.mod_eq_of_lt (by omega),Nat.or_comm,←Nat.two_pow_add_eq_or_of_lt ho,wrapI (by omega) (by omega)]
 omega
theorem SY {x:Int} {s:Nat} (hs:s≤63) (h0 : -9223372036854775808≤x*2 ^ s) (h1:x*2 ^ s≤9223372036854775807):shlI .i64 x (IntKind.wrap .u64 (s:Int))=x*2 ^ s:=by
 unfold shlI
 rw[wrapU (by omega) (by omega),show min ((s:Int).toNat) (IntKind.bits .i64)=s by simp[IntKind.bits]; omega,wrapI h0 h1]
theorem AF6 {x:Int} {s:Nat} (hs:s≤63):shrI .i64 x (IntKind.wrap .u64 (s:Int))=x/2 ^ s:=by
 unfold shrI
 rw[wrapU (by omega) (by omega),show min ((s:Int).toNat) (IntKind.bits .i64)=s by simp[IntKind.bits]; omega]
 exact Int.fdiv_eq_ediv_of_nonneg _ (Int.le_of_lt (Int.pow_pos (by decide)))
theorem LF {s:Nat} (hs:s≤16):∃ S T:Nat,S=2 ^ s∧T=2 ^ (16-s)∧S*T=65536∧1≤S∧1≤T∧S≤65536:=by
 refine ⟨2 ^ s,2 ^ (16-s),rfl,rfl,?_,Nat.one_le_two_pow,Nat.one_le_two_pow,?_⟩
 ·rw[←Nat.pow_add,show s + (16-s)=16 by omega]
 ·exact Nat.pow_le_pow_right (by decide) hs
theorem SX {S T x:Int} (hST:S*T=65536) (hS : 1≤S) (hT : 1≤T) (hx : 0≤x∧x<65536) :
  x*S%65536=S*(x%T)∧x*S/65536=x/T∧0≤x/T∧x/T<S∧0≤x%T∧x%T<T∧S*(x%T) + 65536*(x/T)=x*S∧S*(x%T) + S≤65536:=by
 have e1:=Int.emod_add_mul_ediv x T
 have e2:=Int.emod_nonneg x (show T≠0 by omega)
 have e3:=Int.emod_lt_of_pos x (show 0<T by omega)
 have e4:=Int.ediv_nonneg hx.1 (show 0≤T by omega)
 have e5:x/T<S:=Int.ediv_lt_of_lt_mul (by omega) (by rw[hST]; exact hx.2)
 have e6:x*S=S*(x%T) + 65536*(x/T):=by
  have h2:S*(x%T + T*(x/T))=S*(x%T) + (S*T)*(x/T):=by rw[Int.mul_add,Int.mul_assoc]
  rw[e1,hST] at h2
  rw[←h2,Int.mul_comm]
 have e7:S*(x%T) + S≤65536:=by
  have h2:=Int.mul_le_mul_of_nonneg_left (show x%T + 1≤T by omega) (show 0≤S by omega)
  rw[Int.mul_add,hST] at h2
  omega
 have e8 : 0≤S*(x%T):=Int.mul_nonneg (by omega) e2
 rw[e6]
 refine ⟨?_,?_,e4,e5,e2,e3,rfl,e7⟩ <;> omega
theorem Ac0 {S T x y R:Int} (hST:S*T=65536) (hS : 1≤S) (hT : 1≤T) (hx : 0≤x∧x<65536):(x + 65536*(y + 65536*R))/S=(x + 65536*y)/S%65536 + 65536*((y + 65536*R)/S):=by
 have e1:x + 65536*(y + 65536*R)=(x + 65536*y) + S*(T*65536*R):=by
  have:S*(T*65536*R)=(S*T)*(65536*R):=by grind
  rw[this,hST]; omega
 have e2:(x + 65536*(y + 65536*R))/S=(x + 65536*y)/S + T*65536*R:=by rw[e1,Int.add_mul_ediv_left _ _ (by omega)]
 have e3:(x + 65536*(y + 65536*R))/S%65536=(x + 65536*y)/S%65536:=by
  rw[e2,show T*65536*R=65536*(T*R) by grind,Int.add_mul_emod_self_left]
 have e4:(x + 65536*(y + 65536*R))/S/65536=(y + 65536*R)/S:=by
  rw[Int.ediv_ediv_of_nonneg (by omega),Int.mul_comm S,←Int.ediv_ediv_of_nonneg (by decide)]
  congr 1
  omega
 have e5:=Int.emod_add_mul_ediv ((x + 65536*(y + 65536*R))/S) 65536
 rw[e3,e4] at e5
 omega
structure Up (l out:List Int) (s i:Nat):Prop where
 lb:LB out
 len:out.length=l.length + 1
 c:dg out i<2 ^ s
 z:∀ k,i<k→dg out k=0
 v:val out=val (l.take i)*2 ^ s
theorem Up.next {l out:List Int} {s i:Nat} (h:Up l out s i) (hl:LB l) (hs:s≤15) (hi:i<l.length) :
  Up l ((out.set i (dg out i + dg l i*2 ^ s%65536)).set (i + 1) (dg l i*2 ^ s/65536)) s (i + 1):=by
 obtain ⟨S,T,eS,eT,hST,hS,hT,hS2⟩:=LF (show s≤16 by omega)
 have hSi:((S:Nat):Int)=2 ^ s:=by rw[eS]; simp
 have hc:=h.c
 rw[←hSi] at hc ⊢
 have hx:=AI hl i
 obtain ⟨d1,d2,d3,d4,d5,d6,d7,d8⟩:=SX (S:=(S:Int)) (T:=(T:Int)) (by rw[←Int.natCast_mul,hST]; rfl) (by omega) (by omega) hx
 have ho:=AI h.lb i
 have hol:=h.len
 have hv:=h.v
 rw[←hSi] at hv
 have m0 : 0≤(S:Int)*(dg l i%T):=Int.mul_nonneg (by omega) d5
 rw[d1,d2]
 have hz:=h.z (i + 1) (by omega)
 refine ⟨?_,by simp[hol],?_,fun k hk=>?_,?_⟩
 ·refine (h.lb.set ⟨by omega,by omega⟩).set ⟨d3,by omega⟩
 ·rw[Ak1 (by simp; omega),if_pos rfl,←hSi]; exact d4
 ·rw[Bm (by omega),Bm (by omega)]; exact h.z k (by omega)
 ·rw[D1 (Ag (by simp; omega)),Bm (by omega),hz,D1 (Ag (show i<out.length by omega)),hv,Ax,←hSi]
  have e1:B (i + 1)*(dg l i/T-0)=B i*(65536*(dg l i/T)):=by simp only[B]; grind
  have e2:(val (l.take i) + B i*dg l i)*S=val (l.take i)*S + B i*(dg l i*S):=by grind
  rw[e1,e2,←d7,Int.mul_add]
  have e3:B i*(dg out i + S*(dg l i%T)-dg out i)=B i*(S*(dg l i%T)):=by congr 1; omega
  omega
theorem AF2 {l:List Int} {s:Nat} (hl:LB l) (hs:s≤15) (hn:l.length≤1000000):∃ out,Ia l (s:Int)=some out∧LB out∧out.length=l.length + 1∧val out=val l*2 ^ s:=by
 obtain ⟨out,h1,h2⟩:=Fu (body:=fun (s:((List Int)×(Int×((List Int)×(Int×Int)))))=>Iz s.1 s.2.1 s.2.2.1 s.2.2.2.1 s.2.2.2.2)
  (st:=fun k (b:List Int)=>(b,((s:Int),(l,((l.length:Int),(k:Int)))))) (fin:=fun b=>b) (I:=fun k b=>Up l b s k) (e:=l.length)
  (by
   rintro k out hk hI
   refine ⟨_,?_,hI.next hl hs hk⟩
   obtain ⟨S,T,eS,eT,hST,hS,hT,hS2⟩:=LF (show s≤16 by omega)
   have hSi:((S:Nat):Int)=2 ^ s:=by rw[eS]; simp
   have hx:=AI hl k
   have ho:=AI hI.lb k
   have hol:=hI.len
   have hc:=hI.c
   rw[←hSi] at hc ⊢
   obtain ⟨d1,d2,d3,d4,d5,d6,d7,d8⟩:=SX (S:=(S:Int)) (T:=(T:Int)) (by rw[←Int.natCast_mul,hST]; rfl) (by omega) (by omega) hx
   have hxS : 0≤dg l k*(S:Int)∧dg l k*(S:Int)≤65536*65536:=⟨Int.mul_nonneg hx.1 (by omega),Int.le_trans (Int.mul_le_mul_of_nonneg_left (show (S:Int)≤65536 by omega) hx.1) (Int.mul_le_mul_of_nonneg_right (by omega) (by decide))⟩
   have hsh:shlI .i64 (dg l k) (IntKind.wrap .u64 (s:Int))=dg l k*S:=by rw[hSi]; exact SY (by omega) (by rw[←hSi]; omega) (by rw[←hSi]; omega)
   have hor:orI .i64 (dg out k) (dg l k*S%65536)=dg out k + dg l k*S%65536:=by
    obtain ⟨o,eo⟩:∃ o:Nat,dg out k=(o:Int):=⟨(dg out k).toNat,by omega⟩
    obtain ⟨t,et⟩:∃ t:Nat,dg l k%T=(t:Int):=⟨(dg l k%T).toNat,by omega⟩
    rw[d1,et,eo,←Int.natCast_mul,eS,An2 (by rw[←eS]; omega) (by
     rw[←eS]
     have:((S*t:Nat):Int)≤65536:=by rw[Int.natCast_mul,←et]; omega
     omega)]
    simp
   have hu:IntKind.wrap .u64 (s:Int)=(s:Int):=wrapU (by omega) (by omega)
   unfold Iz getN
   dsimp only
   rw[decide_eq_true (by omega),wrap1 (by omega)]
   have i1:idxI (k:Int) out.length=some k:=AN (by omega)
   have hd:decide (IntKind.wrap .u64 (s:Int)<0)=false:=by rw[hu]; exact decide_eq_false (by omega)
   simp only[cond_true,Ak,Ag hk,Option.bind_some,hd,cond_false,i1,Ag (show k<out.length by omega),hsh,Int.tmod_eq_emod_of_nonneg hxS.1,Int.tdiv_eq_ediv_of_nonneg hxS.1,hor,List.length_set]
   rw[AN (by omega)]
   simp only[Option.bind_some]
   rw[Ag (by simp; omega)]
   simp only[Option.bind_some]
   rw[wrapI (n:=dg l k*S/65536) (by omega) (by omega)])
  (by
   rintro out _
   unfold Iz
   dsimp only
   rw[decide_eq_false (Int.lt_irrefl _)]
   rfl) 0 (List.replicate (l.length + 1) 0) (by omega) ⟨LB.zeros _,by simp,by
    rw[show dg (List.replicate (l.length + 1) (0:Int)) 0=0 from rfl]
    exact Int.pow_pos (by decide),fun k _=>by unfold dg; rw[List.getD_eq_getElem?_getD,List.getElem?_replicate]; split <;> rfl,by simp[Dz,val]⟩
 have hv:=h2.v
 rw[List.take_length] at hv
 refine ⟨out,?_,h2.lb,h2.len,hv⟩
 unfold Ia
 rw[wrap1 (by omega),FQ (by unfold maxBytes; omega) (by unfold maxBytes; omega)]
 simp only[Option.bind_some]
 rw[show ((0:Nat):Int)=0 from rfl] at h1
 rw[h1]
 rfl
theorem AC8 {l:List Int} {s:Nat} (hl:LB l) (hs:s≤15) (hn:l.length≤1000000):G5 l (s:Int)=some (lim (val l/2 ^ s).toNat):=by
 obtain ⟨S,T,eS,eT,hST,hS,hT,hS2⟩:=LF (show s≤16 by omega)
 have hSi:((S:Nat):Int)=2 ^ s:=by rw[eS]; simp
 have hSTi:(S:Int)*T=65536:=by rw[←Int.natCast_mul,hST]; rfl
 obtain ⟨out,h1,h2⟩:=Fu (body:=fun (s:((List Int)×((List Int)×(Int×(Int×Int)))))=>Gd s.1 s.2.1 s.2.2.1 s.2.2.2.1 s.2.2.2.2)
  (st:=fun k (b:List Int)=>(b,(l,((s:Int),((l.length:Int),(k:Int)))))) (fin:=fun b=>b)
  (I:=fun k b=>LB b∧b.length=l.length∧(∀ i,k≤i→dg b i=0)∧val b + B k*(val (l.drop k)/S)=val l/S) (e:=l.length)
  (by
   rintro k out hk ⟨g1,g2,g3,g4⟩
   have hx:=AI hl k
   have hy:=AI hl (k + 1)
   have hm0 : 0≤(dg l k + 65536*dg l (k + 1))/(S:Int)%65536∧(dg l k + 65536*dg l (k + 1))/(S:Int)%65536<65536:=by omega
   refine ⟨out.set k ((dg l k + 65536*dg l (k + 1))/(S:Int)%65536),?_,g1.set hm0,by simp[g2],fun i hi=>by rw[Bm (by omega)]; exact g3 i (by omega),?_⟩
   ·have hor:orI .i64 (dg l k) (shlI .i64 (dg l (k + 1)) 16)=dg l k + 65536*dg l (k + 1):=by
     obtain ⟨o,eo⟩:∃ o:Nat,dg l k=(o:Int):=⟨(dg l k).toNat,by omega⟩
     obtain ⟨t,et⟩:∃ t:Nat,dg l (k + 1)=(t:Int):=⟨(dg l (k + 1)).toNat,by omega⟩
     have h16:shlI .i64 (dg l (k + 1)) 16=((2 ^ 16*t:Nat):Int):=by
      have:=SY (x:=dg l (k + 1)) (s:=16) (by omega) (by omega) (by omega)
      rw[show IntKind.wrap .u64 ((16:Nat):Int)=16 by decide] at this
      rw[this,et]; omega
     rw[h16,eo,An2 (by omega) (by omega),et]
     omega
    have hu:IntKind.wrap .u64 (s:Int)=(s:Int):=wrapU (by omega) (by omega)
    unfold Gd getN
    dsimp only
    rw[decide_eq_true (by omega),wrap1 (by omega)]
    have i1:idxI (k:Int) out.length=some k:=AN (by omega)
    have hd:decide (IntKind.wrap .u64 (s:Int)<0)=false:=by rw[hu]; exact decide_eq_false (by omega)
    have hsr:shrI .i64 (dg l k + 65536*dg l (k + 1)) (IntKind.wrap .u64 (s:Int))=(dg l k + 65536*dg l (k + 1))/(S:Int):=by rw[AF6 (by omega),hSi]
    have hq0 : 0≤(dg l k + 65536*dg l (k + 1))/(S:Int):=Int.ediv_nonneg (by omega) (by omega)
    simp only[cond_true,Ak,Ag hk,Option.bind_some,HZ,hd,cond_false,i1,Ag (show k<out.length by omega),hor,hsr,Int.tmod_eq_emod_of_nonneg hq0]
   ·rw[D1 (Ag (show k<out.length by omega)),g3 k (Nat.le_refl _),Int.sub_zero]
    rw[BV l k,BV l (k + 1),Ac0 hSTi (by omega) (by omega) hx,←BV l (k + 1),Int.mul_add] at g4
    have e:B (k + 1)*(val (l.drop (k + 1))/S)=B k*(65536*(val (l.drop (k + 1))/S)):=by simp only[B]; grind
    omega)
  (by
   rintro out _
   unfold Gd
   dsimp only
   rw[decide_eq_false (Int.lt_irrefl _)]
   rfl) 0 (List.replicate l.length 0) (by omega) ⟨LB.zeros _,by simp,fun i _=>by unfold dg; rw[List.getD_eq_getElem?_getD,List.getElem?_replicate]; split <;> rfl,by rw[Dz,List.drop_zero]; simp[B]⟩
 obtain ⟨g1,g2,g3,g4⟩:=h2
 rw[List.drop_length,show val []=0 from rfl,Int.zero_ediv,Int.mul_zero,Int.add_zero] at g4
 unfold G5
 rw[FQ (by unfold maxBytes; omega) (by unfold maxBytes; omega)]
 simp only[Option.bind_some]
 rw[show ((0:Nat):Int)=0 from rfl] at h1
 rw[h1]
 simp only[Option.bind_some]
 rw[EY (by unfold Brief; omega)]
 simp only[Option.bind_some]
 rw[Bt g1,g4,hSi]
theorem AP2 {a b:List Int} {t:Int} {m:Nat} (hm:b.length=m + 1) (hml:m≤1000000) (ht:dg b m=t) (h1 : 1≤t) (h2:t<65536) :
  ∃ s:Nat,s≤15∧t*2 ^ s<65536∧loopM (fun (s:((List Int)×((List Int)×Int)))=>Cs s.1 s.2.1 s.2.2) (a,(b,0))=some (a,(b,(s:Int))):=by
 have bound:∀ s:Nat,t*2 ^ s<65536→s≤15:=fun s h=>by
  have h3:(2:Int) ^ s<2 ^ 16:=by
   have h4:(1:Int)*2 ^ s≤t*2 ^ s:=Int.mul_le_mul_of_nonneg_right h1 (Int.le_of_lt (Int.pow_pos (by decide)))
   have h5:(2:Int) ^ 16=65536:=by decide
   omega
  have h5:((2 ^ s:Nat):Int)<((2 ^ 16:Nat):Int):=by simpa using h3
  have h6 : 2 ^ s<2 ^ 16:=by omega
  have:=(Nat.pow_lt_pow_iff_right (show 1<2 by decide)).1 h6
  omega
 obtain ⟨r,g1,s,rfl,g2⟩:=EQ (f:=fun (s:((List Int)×((List Int)×Int)))=>Cs s.1 s.2.1 s.2.2)
  (I:=fun x=>∃ s:Nat,x=(a,(b,(s:Int)))∧t*2 ^ s<65536) (R:=fun x=>∃ s:Nat,x=(a,(b,(s:Int)))∧t*2 ^ s<65536) (fun x=>100-x.2.2.toNat) (by
   rintro x ⟨s,rfl,hs⟩
   have hb:=bound s hs
   have p0:(0:Int)<2 ^ s:=Int.pow_pos (by decide)
   have p1 : 0≤t*2 ^ s:=Int.mul_nonneg (by omega) (by omega)
   have hsh:shlI .i64 t (IntKind.wrap .u64 (s:Int))=t*2 ^ s:=SY (by omega) (by omega) (by omega)
   have hu:IntKind.wrap .u64 (s:Int)=(s:Int):=wrapU (by omega) (by omega)
   have hd:decide (IntKind.wrap .u64 (s:Int)<0)=false:=by rw[hu]; exact decide_eq_false (by omega)
   have hg:getI b (IntKind.wrap .i64 ((b.length:Int)-1))=some t:=by rw[←ht]; exact Jb (by rw[wrapI (by omega) (by omega)]; omega) (by omega)
   simp only
   by_cases hc:t*2 ^ s<32768
   ·refine .inl ⟨(a,(b,((s + 1:Nat):Int))),?_,⟨s + 1,rfl,by rw[Int.pow_succ,←Int.mul_assoc]; omega⟩,by simp only; omega⟩
    unfold Cs
    simp only[hg,Option.bind_some,hd,cond_false,hsh,decide_eq_true hc,cond_true]
    rw[wrap1 (by omega)]
   ·refine .inr ⟨(a,(b,(s:Int))),?_,s,rfl,hs⟩
    unfold Cs
    simp only[hg,Option.bind_some,hd,cond_false,hsh,decide_eq_false hc]) (a,(b,0)) ⟨0,rfl,by simp; omega⟩
 exact ⟨s,bound s g2,g2,g1⟩
theorem AC1 {u0 v:List Int} {m:Nat} {bits:Int} (hv:LB v) (hvl:v.length=m + 2) (ht : 1≤dg v (m + 1)) (hl:u0.length≤1000000) {n:Nat} {out:List Int} (h:Places u0 v m n u0 out) :
  ∃ u out',loopM (fun (s:((List Int)×((List Int)×((List Int)×(Int×Int)))))=>Bu s.1 s.2.1 s.2.2.1 s.2.2.2.1 s.2.2.2.2) (u0,(v,(out,(bits,(n:Int)-1))))=some (u,(out',bits))∧Places u0 v m 0 u out':=by
 obtain ⟨⟨u,out'⟩,h1,h2⟩:=Ib (body:=fun (s:((List Int)×((List Int)×((List Int)×(Int×Int)))))=>Bu s.1 s.2.1 s.2.2.1 s.2.2.2.1 s.2.2.2.2)
  (st:=fun n (b:List Int×List Int)=>(b.1,(v,(b.2,(bits,(n:Int)-1))))) (fin:=fun b=>(b.1,(b.2,bits))) (I:=fun n b=>Places u0 v m n b.1 b.2)
  (by
   rintro n ⟨u,out⟩ hI
   simp only at hI
   have H:=hI.place hv hvl ht
   have hle:=hI.le
   have hol:=hI.olen
   have hul:=hI.len
   obtain ⟨u',g1,g2,g3,g4,g5⟩:=AL0 (out:=out) (bits:=bits) H (by omega) (by omega)
   refine ⟨(u',out.set n (val (u.drop n)/val v)),?_,hI.next H g2 g3 g4 g5⟩
   simp only
   rw[show ((n + 1:Nat):Int)-1=(n:Int) by omega,g1])
  (by
   rintro ⟨u,out⟩ _
   unfold Bu
   dsimp only
   rw[decide_eq_false (by omega)]
   rfl) n (u0,out) h
 exact ⟨u,out',h1,h2⟩
theorem Places.start2 {u0 v:List Int} {m n:Nat} (hu:LB u0) (hn:u0.length=n + (m + 2)) (h0:val (u0.drop n)<val v):Places u0 v m n u0 (List.replicate n 0) :=
 ⟨rfl,hu,by omega,h0,LB.zeros n,by simp; omega,fun i hi=>by unfold dg; rw[List.getD_eq_getElem?_getD,List.getElem?_replicate]; split <;> rfl,by rw[Dz]; omega⟩
set_option maxHeartbeats 1000000 in
theorem NU {a b:Nat} (hb0:b≠0) (ha:(lim a).length≤90000) (hb:(lim b).length≤90000):Cq (lim a) (lim b)=some (lim (a/b),lim (a%b)):=by
 unfold Cq
 rw[EY (by unfold Brief; omega)]
 simp only[Option.bind_some]
 rw[J4 (PE a),OF (by unfold Brief; omega) (by unfold Brief; omega)]
 simp only[Option.bind_some]
 by_cases hab:a<b
 ·rw[C2 (by omega)]
  simp only[show decide ((-1:Int)<0)=true from rfl,cond_true]
  rw[Nat.div_eq_of_lt hab,Nat.mod_eq_of_lt hab,Bh]
 have hc:decide (cmpZ (a:Int) b<0)=false:=by
  rcases BO (a:Int) b with ⟨h,g⟩ | ⟨h,_⟩ | ⟨h,_⟩
  ·omega
  ·rw[h]; rfl
  ·rw[h]; rfl
 simp only[hc,cond_false]
 have hbl:(lim b).length≠0:=fun h=>hb0 (Ga.1 (List.eq_nil_of_length_eq_zero h))
 by_cases h1:(lim b).length=1
 ·obtain ⟨e1,e2,e3⟩:=Ap5 h1
  rw[e1]
  simp only[List.length_singleton,show (((1:Nat):Int)==1)=true from rfl,cond_true]
  rw[show getI [(b:Int)] 0=some (b:Int) from rfl]
  simp only[Option.bind_some]
  rw[Av9 (by omega) (by omega)]
  simp only[Option.bind_some,Int.toNat_natCast]
 have hn1:((((lim b).length:Nat):Int)==1)=false:=beq_eq_false_iff_ne.2 (by omega)
 obtain ⟨m,hm⟩:∃ m,(lim b).length=m + 2:=⟨(lim b).length-2,by omega⟩
 obtain ⟨t1,t2,t3,t4⟩:=R0 hb0
 rw[hm,show m + 2-1=m + 1 by omega] at t1 t2 t3 t4
 generalize ht:dg (lim b) (m + 1)=t at *
 obtain ⟨s,hs1,hs2,hs3⟩:=AP2 (a:=lim a) (b:=lim b) (m:=m + 1) (by omega) (by omega) ht t1 t2
 obtain ⟨S,T,eS,eT,hST,hS,hT,hS2⟩:=LF (show s≤16 by omega)
 have hSi:((S:Nat):Int)=2 ^ s:=by rw[eS]; simp
 obtain ⟨u,hu1,hu2,hu3,hu4⟩:=AF2 (Aq a) hs1 (by omega)
 obtain ⟨v,hv1,hv2,hv3,hv4⟩:=AF2 (Aq b) hs1 (by omega)
 rw[Aj,←hSi,←Int.natCast_mul] at hu4 hv4
 simp only[hn1,cond_false,hs3,Option.bind_some,hu1,hv1]
 rw[EY (by unfold Brief; omega)]
 simp only[Option.bind_some]
 rw[Bt hv2,hv4,Int.toNat_natCast]
 have hBa:(a:Int)<B (lim a).length:=Ah.1 (Nat.le_refl _)
 have lb:(lim (b*S)).length=m + 2:=by
  apply Nat.le_antisymm
  ·rw[Ah]
   rw[show ((b*S:Nat):Int)=(b:Int)*S by simp]
   rw[←hSi] at hs2
   have e1:(b:Int)*S<B (m + 1)*(t + 1)*S:=Int.mul_lt_mul_of_pos_right t4 (by omega)
   have hts:(t + 1)*(S:Int)≤65536:=by
    obtain ⟨d1,d2,d3,d4,d5,d6,d7,d8⟩:=SX (S:=(S:Int)) (T:=(T:Int)) (by rw[←Int.natCast_mul,hST]; rfl) (by omega) (by omega) (show 0≤t∧t<65536 by omega)
    have d9:t*S%65536=t*S:=Int.emod_eq_of_lt (Int.mul_nonneg (by omega) (by omega)) hs2
    rw[Int.add_mul,Int.one_mul,←d9,d1]
    exact d8
   have e2:B (m + 1)*((t + 1)*(S:Int))≤B (m + 1)*65536:=Int.mul_le_mul_of_nonneg_left hts (Int.le_of_lt (EO _))
   have e3:B (m + 1)*(t + 1)*S=B (m + 1)*((t + 1)*(S:Int)):=Int.mul_assoc ..
   have e4:B (m + 2)=B (m + 1)*65536:=by simp only[B]; omega
   omega
  ·rw[←hm,Ah]
   have h1:((b*S:Nat):Int)<B (lim (b*S)).length:=Ah.1 (Nat.le_refl _)
   have:b*1≤b*S:=Nat.mul_le_mul_left _ (by omega)
   omega
 have hle:(lim b).length≤(lim a).length:=by rw[Ah]; omega
 have hbS0:b*S≠0:=Nat.mul_ne_zero hb0 (by omega)
 have htop:=(R0 hbS0).1
 rw[lb,show m + 2-1=m + 1 by omega] at htop
 generalize hn:(lim a).length-(lim b).length + 1=n at *
 have w0:IntKind.wrap .i64 (((lim a).length:Int)-((lim b).length:Int))=(n:Int)-1:=by rw[wrapI (by omega) (by omega)]; omega
 rw[w0,wrapI (n:=(n:Int)-1 + 1) (by omega) (by omega),show (n:Int)-1 + 1=(n:Int) by omega,FQ (by unfold maxBytes; omega) (by unfold maxBytes; omega)]
 simp only[Option.bind_some]
 have hless:val (u.drop n)<val (lim (b*S)):=by
  rw[Aj]
  have h1:=Bx u n
  have h2:=Ay (hu2.take n)
  rw[hu4] at h1
  have h3:B n*val (u.drop n)≤((a*S:Nat):Int):=by omega
  have h4:((a*S:Nat):Int)<B (lim a).length*S:=by rw[Int.natCast_mul]; exact Int.mul_lt_mul_of_pos_right hBa (by omega)
  have h5:(lim a).length=n + (m + 1):=by omega
  rw[h5,Oz] at h4
  have h6:B (m + 1)*S≤((b*S:Nat):Int):=by
   rw[Int.natCast_mul]
   have:B (m + 1)*1≤B (m + 1)*t:=Int.mul_le_mul_of_nonneg_left t1 (Int.le_of_lt (EO _))
   exact Int.mul_le_mul_of_nonneg_right (by omega) (by omega)
  have h7:B n*(val (u.drop n))<B n*(B (m + 1)*S):=by rw[←Int.mul_assoc]; omega
  have h8:=Int.lt_of_mul_lt_mul_left h7 (Int.le_of_lt (EO n))
  omega
 obtain ⟨u',out,hp,P⟩:=AC1 (bits:=(s:Int)) (Aq (b*S)) lb htop (by omega) (Places.start2 (n:=n) hu2 (by omega) hless)
 rw[hp]
 simp only[Option.bind_some]
 obtain ⟨p1,p2⟩:=P.end (Aq _)
 rw[hu4,Aj] at p1 p2
 obtain ⟨q1,q2⟩:=S7 (a:=a) (b:=b) (c:=S) (by omega)
 have p1':val out=((a/b:Nat):Int):=by rw[p1,←q1]; simp
 have p2':val u'=((a%b*S:Nat):Int):=by rw[p2,←q2]; simp
 have hul:=P.len
 have hol:=P.olen
 rw[EY (by unfold Brief; omega)]
 simp only[Option.bind_some]
 rw[EY (by unfold Brief; omega)]
 simp only[Option.bind_some]
 rw[Bt P.lo,Bt P.lu,p1',p2',Int.toNat_natCast,Int.toNat_natCast,AC8 (Aq _) hs1 (by
  have:(lim (a%b*S)).length≤m + 2:=by
   rw[←lb,Ah]
   have h1:((b*S:Nat):Int)<B (lim (b*S)).length:=Ah.1 (Nat.le_refl _)
   have:=Nat.mul_lt_mul_of_pos_right (Nat.mod_lt a (show b>0 by omega)) (show S>0 by omega)
   omega
  omega),Aj]
 simp only[Option.bind_some]
 rw[←hSi,Int.natCast_mul,Int.mul_ediv_cancel _ (by omega),Int.toNat_natCast]
end Go.Proofs.YthipdlhknbhiiaaGreat.Ev

end
