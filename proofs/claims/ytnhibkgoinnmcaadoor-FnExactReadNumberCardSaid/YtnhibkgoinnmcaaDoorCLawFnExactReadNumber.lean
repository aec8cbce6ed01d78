/- The functions that the law FnExactReadNumber reaches: their types, forms and typed texts (made by wip/gen/mk.py). -/
import Derived.Test.YtnhibkgoinnmcaaDoorEvMd
import Derived.Test.YtnhibkgoinnmcaaDoorEvMc
import Derived.Test.YtnhibkgoinnmcaaDoorEvMe
import Derived.Test.YtnhibkgoinnmcaaDoorShc
import Derived.Test.YtnhibkgoinnmcaaDoorProg
import Derived.KernelRfl
namespace Go.Proofs.YtnhibkgoinnmcaaDoor.Ev
open Go
set_option maxRecDepth 100000
set_option linter.unusedVariables false
def tyD3 : TyD := ⟨1, 8, false, [(.v (.int .i64 0))], none, false, (some .i64), [], false⟩
def tyD4 : TyD := ⟨1, 1, false, [(.v (.bool false))], none, false, none, [], false⟩
def tyD5 : TyD := ⟨1, 1, false, [(.v (.int .u8 0))], none, false, (some .u8), [], false⟩
def tyD9 : TyD := ⟨1, 16, false, [(.v (.string ⟨#[]⟩))], none, true, none, [], false⟩
def tyD82 : TyD := ⟨1, 16, false, [(.v .nilIface)], none, false, none, [], true⟩
theorem ty3 : tyOf Tryd.prog 3 = some tyD3 := by kernel_rfl
theorem ty4 : tyOf Tryd.prog 4 = some tyD4 := by kernel_rfl
theorem ty5 : tyOf Tryd.prog 5 = some tyD5 := by kernel_rfl
theorem ty9 : tyOf Tryd.prog 9 = some tyD9 := by kernel_rfl
theorem ty82 : tyOf Tryd.prog 82 = some tyD82 := by kernel_rfl
def tyTab : List (Nat × TyD) := [(3, tyD3), (4, tyD4), (5, tyD5), (9, tyD9), (82, tyD82)]
def codTab : List (Nat × Ty) := []
theorem tyOK : ∀ t d, getD tyTab t = some d → tyOf Tryd.prog t = some d := tab_ok (by unfold tyTab; exact ⟨ty3, ⟨ty4, ⟨ty5, ⟨ty9, ⟨ty82, trivial⟩⟩⟩⟩⟩)
theorem bool4 : Tryd.prog.underlying 4 = some .bool := by kernel_rfl
theorem boolOK : ∀ t, ([4] : List Nat).contains t = true → Tryd.prog.underlying t = some .bool := by
  intro t h
  simp at h
  rcases h with rfl
  all_goals first | exact bool4
theorem eqOK : ∀ t, ([] : List Nat).contains t = true → EqOK Tryd.prog t := by
  intro t h
  simp at h
  try exact h.elim
def a_s_l15Int : FAnn := ⟨84, 0, [.slot 0 (.cell (.str)), .slot 1 (.cell (.int .i64))], [.slot 0 (.cell (.int .i64)), .slot 1 (.cell (.int .i64))],
  [(3, [.slot 0 (.cell (.str)), .slot 1 (.cell (.int .i64)), .slot 6 (.cell (.int .i64)), .slot 7 (.cell (.int .i64))])],
  [(3, [(.exit 0, [.slot 0 (.cell (.str)), .slot 1 (.cell (.int .i64)), .slot 6 (.cell (.int .i64)), .slot 7 (.cell (.int .i64))])])],
  []⟩
def a_s_ReadNumber : FAnn := ⟨37, 0, [.slot 0 (.cell (.str))], [.slot 0 (.cell (.int .i64)), .slot 1 (.cell (.bool))],
  [],
  [],
  [(2, [.slot 0 (.cell (.str)), .slot 4 (.cell (.bool))]), (5, [.slot 4 (.cell (.bool)), .slot 5 (.cell (.str))]), (8, [.slot 4 (.cell (.bool)), .slot 6 (.cell (.int .i64))])]⟩
def a_strconv_Atoi : FAnn := ⟨85, 0, [.slot 0 (.cell (.str))], [.slot 0 (.cell (.int .i64)), .slot 1 (.cell (.err))],
  [],
  [],
  []⟩
def a_i_within : FAnn := ⟨61, 0, [.slot 0 (.cell (.int .i64)), .slot 1 (.cell (.int .i64)), .slot 2 (.cell (.int .i64))], [.slot 0 (.cell (.bool))],
  [],
  [],
  []⟩
def a_i_isNumber : FAnn := ⟨54, 0, [.slot 0 (.cell (.int .i64))], [.slot 0 (.cell (.bool))],
  [],
  [],
  []⟩
def a_strconv_Itoa : FAnn := ⟨55, 0, [.slot 0 (.cell (.int .i64))], [.slot 0 (.cell (.str))],
  [],
  [],
  []⟩
def a_i_ReadNumber : FAnn := ⟨38, 0, [.slot 0 (.cell (.str))], [.slot 0 (.cell (.int .i64)), .slot 1 (.cell (.bool))],
  [],
  [],
  []⟩
def a_l_FnExactReadNumber : FAnn := ⟨9, 0, [.slot 0 (.cell (.str))], [.slot 0 (.cell (.bool))],
  [],
  [],
  []⟩
def annTab : List FAnn := [a_s_l15Int, a_s_ReadNumber, a_strconv_Atoi, a_i_within, a_i_isNumber, a_strconv_Itoa, a_i_ReadNumber, a_l_FnExactReadNumber]
def noExt : Rel := fun _ _ _ _ _ => False
def ext0 : Rel := fun g args blks r blks' => atoiRel 85 g args blks r blks' ∨ itoaRel 55 g args blks r blks'
theorem ent_atoi : Ent0 Tryd.prog 85 := ⟨Tryd.f85, Tryd.func85, by kernel_rfl, by kernel_rfl⟩
theorem ent_itoa : Ent0 Tryd.prog 55 := ⟨Tryd.f55, Tryd.func55, by kernel_rfl, by kernel_rfl⟩
structure LibJ (J : Tabs) : Prop where
  tab : JTab Tryd.prog J "internal/strconv.uint64pow10" .u64 Lib.pow10Tab
  syn : JVar Tryd.prog J "strconv.ErrSyntax"
  rng : JVar Tryd.prog J "strconv.ErrRange"
theorem ext_spec {J : Tabs} (hJ : LibJ J) : ∀ g args blks r blks', ext0 g args blks r blks' → CSpec Tryd.prog J g args blks r blks' := by
  intro g args blks r blks' h
  rcases h with h | h
  · exact atoi_spec ent_atoi Tryd.strconv_Atoi_ok Tryd.strconv_Atoi_syntax_var Tryd.strconv_Atoi_range_var hJ.syn hJ.rng _ _ _ _ _ h
  · exact itoa_spec ent_itoa Tryd.strconv_Itoa hJ.tab _ _ _ _ _ h
def cf0 : Cfg := cfOf annTab fun g => ([85, 55] : List Nat).contains g
abbrev RR : Rel := Runs Tryd.prog cf0 ext0

/-- loop.example/g00409/spec.l15Int -/
noncomputable def B_s_l15Int_0 (s0 : (List UInt8)) (s1 : Int) (s2 : Int) (s3 : Int) : Option (((List UInt8) × (Int × (Int × Int))) ⊕ ((List UInt8) × (Int × (Int × Int)))) :=
  bif decide (s3 < (((List.length s0) : Nat) : Int)) then
    bif decide (s3 < (Go.IntKind.wrap Go.IntKind.i64 (s1 + (4 : Int)))) then
      ((getI s0 s3)).bind fun x0 =>
      bif decide ((((UInt8.toNat x0) : Nat) : Int) ≥ (48 : Int)) then
        ((getI s0 s3)).bind fun x1 =>
        bif decide ((((UInt8.toNat x1) : Nat) : Int) ≤ (57 : Int)) then
          ((getI s0 s3)).bind fun x2 =>
          some (Sum.inl (s0, (s1, ((Go.IntKind.wrap Go.IntKind.i64 ((Go.IntKind.wrap Go.IntKind.i64 ((10 : Int) * s2)) + (Go.IntKind.wrap Go.IntKind.i64 (Go.IntKind.wrap Go.IntKind.u8 ((((UInt8.toNat x2) : Nat) : Int) - (48 : Int)))))), (Go.IntKind.wrap Go.IntKind.i64 (s3 + (1 : Int)))))))
        else
        some (Sum.inr (s0, (s1, (s2, s3))))
      else
      some (Sum.inr (s0, (s1, (s2, s3))))
    else
    some (Sum.inr (s0, (s1, (s2, s3))))
  else
  some (Sum.inr (s0, (s1, (s2, s3))))
noncomputable def F_s_l15Int (a0 : (List UInt8)) (a1 : Int) : Option (Int × Int) :=
  (loopM (fun (s : ((List UInt8) × (Int × (Int × Int)))) => B_s_l15Int_0 s.1 s.2.1 s.2.2.1 s.2.2.2) (a0, (a1, ((0 : Int), a1)))).bind fun x0 =>
  bif (x0.2.2.2 == x0.2.1) then
    some ((-(1 : Int)), x0.2.1)
  else
  ((getI x0.1 x0.2.1)).bind fun x1 =>
  bif ((((UInt8.toNat x1) : Nat) : Int) == (48 : Int)) then
    bif decide (x0.2.2.2 > (Go.IntKind.wrap Go.IntKind.i64 (x0.2.1 + (1 : Int)))) then
      some ((-(1 : Int)), x0.2.1)
    else
    some (x0.2.2.1, x0.2.2.2)
  else
  some (x0.2.2.1, x0.2.2.2)
noncomputable def E_s_l15Int : Ent := ⟨a_s_l15Int, fun x => F_s_l15Int x.1 x.2⟩
noncomputable def X_s_l15Int : TX := ⟨tyTab, codTab, [], [4], [], a_s_l15Int⟩
set_option maxHeartbeats 2000000 in
theorem W_s_l15Int (a0 : List UInt8) (a1 : Int) : wtF X_s_l15Int Tryd.f84 (a0, a1) = F_s_l15Int a0 a1 := by kernel_rfl
theorem OK_s_l15Int : EntOK RR E_s_l15Int := fn_done (X := X_s_l15Int) ⟨tyOK, boolOK, eqOK⟩ (ents_of (by exact trivial)) (cf_ok (by kernel_rfl)) ⟨Tryd.func84, rfl, by kernel_rfl, rfl⟩ (fun x => by exact W_s_l15Int x.1 x.2)

/-- loop.example/g00409/spec.ReadNumber -/
noncomputable def F_s_ReadNumber (a0 : (List UInt8)) : Option (Int × Bool) :=
  (bif decide ((((List.length a0) : Nat) : Int) > (0 : Int)) then
      ((getI a0 (0 : Int))).bind fun x0 =>
      some (Sum.inr (a0, ((((UInt8.toNat x0) : Nat) : Int) == (45 : Int))))
    else
    some (Sum.inr (a0, false))).bind fun x1 =>
  Sum.elim
    (fun x2 =>
    some x2)
    (fun x3 =>
    (bif x3.2 then
        ((subI (1 : Int) (((List.length x3.1) : Nat) : Int) (List.length x3.1))).bind fun x4 =>
        some (Sum.inr (x3.2, (List.drop x4.1 (List.take x4.2 x3.1))))
      else
      some (Sum.inr (x3.2, x3.1))).bind fun x5 =>
    Sum.elim
      (fun x6 =>
      some x6)
      (fun x7 =>
      ((F_s_l15Int x7.2 (0 : Int))).bind fun x8 =>
      (bif decide (x8.1 < (0 : Int)) then
          some (Sum.inl ((0 : Int), false))
        else
        bif decide (x8.2 < (((List.length x7.2) : Nat) : Int)) then
          some (Sum.inl ((0 : Int), false))
        else
        bif x7.1 then
          bif (x8.1 == (0 : Int)) then
            some (Sum.inl ((0 : Int), false))
          else
          some (Sum.inr (x7.1, x8.1))
        else
        some (Sum.inr (x7.1, x8.1))).bind fun x9 =>
      Sum.elim
        (fun x10 =>
        some x10)
        (fun x11 =>
        bif x11.1 then
          some ((Go.IntKind.wrap Go.IntKind.i64 ((0 : Int) - x11.2)), true)
        else
        some (x11.2, true))
        x9)
      x5)
    x1
noncomputable def E_s_ReadNumber : Ent := ⟨a_s_ReadNumber, fun x => F_s_ReadNumber x⟩
noncomputable def X_s_ReadNumber : TX := ⟨tyTab, codTab, [], [4], [E_s_l15Int], a_s_ReadNumber⟩
set_option maxHeartbeats 2000000 in
theorem W_s_ReadNumber (a0 : List UInt8) : wtF X_s_ReadNumber Tryd.f37 (a0) = F_s_ReadNumber a0 := by kernel_rfl
theorem OK_s_ReadNumber : EntOK RR E_s_ReadNumber := fn_done (X := X_s_ReadNumber) ⟨tyOK, boolOK, eqOK⟩ (ents_of (by exact ⟨⟨OK_s_l15Int, rfl⟩, trivial⟩)) (cf_ok (by kernel_rfl)) ⟨Tryd.func37, rfl, by kernel_rfl, rfl⟩ (fun x => by exact W_s_ReadNumber x)

/-- strconv.Atoi -/
noncomputable def F_strconv_Atoi (a0 : List UInt8) : Option (Int × Bool) := F_atoi a0
noncomputable def E_strconv_Atoi : Ent := ⟨a_strconv_Atoi, fun x => F_strconv_Atoi x⟩
theorem OK_strconv_Atoi : EntOK RR E_strconv_Atoi := atoi_ent fun _ _ _ _ _ h => Or.inl h

/-- loop.example/g00409/impl.within -/
noncomputable def F_i_within (a0 : Int) (a1 : Int) (a2 : Int) : Option (Bool) :=
  bif decide (a0 ≥ a1) then
    some (decide (a0 ≤ a2))
  else
  some false
noncomputable def E_i_within : Ent := ⟨a_i_within, fun x => F_i_within x.1 x.2.1 x.2.2⟩
noncomputable def X_i_within : TX := ⟨tyTab, codTab, [], [4], [], a_i_within⟩
set_option maxHeartbeats 2000000 in
theorem W_i_within (a0 : Int) (a1 : Int) (a2 : Int) : wtF X_i_within Tryd.f61 (a0, a1, a2) = F_i_within a0 a1 a2 := by kernel_rfl
theorem OK_i_within : EntOK RR E_i_within := fn_done (X := X_i_within) ⟨tyOK, boolOK, eqOK⟩ (ents_of (by exact trivial)) (cf_ok (by kernel_rfl)) ⟨Tryd.func61, rfl, by kernel_rfl, rfl⟩ (fun x => by exact W_i_within x.1 x.2.1 x.2.2)

/-- loop.example/g00409/impl.isNumber -/
noncomputable def F_i_isNumber (a0 : Int) : Option (Bool) :=
  ((F_i_within a0 (-(9999 : Int)) (9999 : Int))).bind fun x0 =>
  some x0
noncomputable def E_i_isNumber : Ent := ⟨a_i_isNumber, fun x => F_i_isNumber x⟩
noncomputable def X_i_isNumber : TX := ⟨tyTab, codTab, [], [4], [E_i_within], a_i_isNumber⟩
set_option maxHeartbeats 2000000 in
theorem W_i_isNumber (a0 : Int) : wtF X_i_isNumber Tryd.f54 (a0) = F_i_isNumber a0 := by kernel_rfl
theorem OK_i_isNumber : EntOK RR E_i_isNumber := fn_done (X := X_i_isNumber) ⟨tyOK, boolOK, eqOK⟩ (ents_of (by exact ⟨⟨OK_i_within, rfl⟩, trivial⟩)) (cf_ok (by kernel_rfl)) ⟨Tryd.func54, rfl, by kernel_rfl, rfl⟩ (fun x => by exact W_i_isNumber x)

/-- strconv.Itoa -/
noncomputable def F_strconv_Itoa (a0 : Int) : Option (List UInt8) := F_itoa a0
noncomputable def E_strconv_Itoa : Ent := ⟨a_strconv_Itoa, fun x => F_strconv_Itoa x⟩
theorem OK_strconv_Itoa : EntOK RR E_strconv_Itoa := itoa_ent fun _ _ _ _ _ h => Or.inr (h)

/-- loop.example/g00409/impl.ReadNumber -/
noncomputable def F_i_ReadNumber (a0 : (List UInt8)) : Option (Int × Bool) :=
  ((F_strconv_Atoi a0)).bind fun x0 =>
  bif x0.2 then
    some ((0 : Int), false)
  else
  ((F_i_isNumber x0.1)).bind fun x1 =>
  bif (!x1) then
    some ((0 : Int), false)
  else
  ((F_strconv_Itoa x0.1)).bind fun x2 =>
  bif (!(x2 == a0)) then
    some ((0 : Int), false)
  else
  some (x0.1, true)
noncomputable def E_i_ReadNumber : Ent := ⟨a_i_ReadNumber, fun x => F_i_ReadNumber x⟩
noncomputable def X_i_ReadNumber : TX := ⟨tyTab, codTab, [], [4], [E_strconv_Atoi, E_i_isNumber, E_strconv_Itoa], a_i_ReadNumber⟩
set_option maxHeartbeats 2000000 in
theorem W_i_ReadNumber (a0 : List UInt8) : wtF X_i_ReadNumber Tryd.f38 (a0) = F_i_ReadNumber a0 := by kernel_rfl
theorem OK_i_ReadNumber : EntOK RR E_i_ReadNumber := fn_done (X := X_i_ReadNumber) ⟨tyOK, boolOK, eqOK⟩ (ents_of (by exact ⟨⟨OK_strconv_Atoi, rfl⟩, ⟨⟨OK_i_isNumber, rfl⟩, ⟨⟨OK_strconv_Itoa, rfl⟩, trivial⟩⟩⟩)) (cf_ok (by kernel_rfl)) ⟨Tryd.func38, rfl, by kernel_rfl, rfl⟩ (fun x => by exact W_i_ReadNumber x)

/-- loop.example/g00409/laws.FnExactReadNumber -/
noncomputable def F_l_FnExactReadNumber (a0 : (List UInt8)) : Option (Bool) :=
  bif decide ((((List.length a0) : Nat) : Int) > (1048576 : Int)) then
    some true
  else
  ((F_s_ReadNumber a0)).bind fun x0 =>
  ((F_i_ReadNumber a0)).bind fun x1 =>
  bif (x1.1 != x0.1) then
    some false
  else
  bif (!(x1.2 == x0.2)) then
    some false
  else
  some true
noncomputable def E_l_FnExactReadNumber : Ent := ⟨a_l_FnExactReadNumber, fun x => F_l_FnExactReadNumber x⟩
noncomputable def X_l_FnExactReadNumber : TX := ⟨tyTab, codTab, [], [4], [E_s_ReadNumber, E_i_ReadNumber], a_l_FnExactReadNumber⟩
set_option maxHeartbeats 2000000 in
theorem W_l_FnExactReadNumber (a0 : List UInt8) : wtF X_l_FnExactReadNumber Tryd.f9 (a0) = F_l_FnExactReadNumber a0 := by kernel_rfl
theorem OK_l_FnExactReadNumber : EntOK RR E_l_FnExactReadNumber := fn_done (X := X_l_FnExactReadNumber) ⟨tyOK, boolOK, eqOK⟩ (ents_of (by exact ⟨⟨OK_s_ReadNumber, rfl⟩, ⟨⟨OK_i_ReadNumber, rfl⟩, trivial⟩⟩)) (cf_ok (by kernel_rfl)) ⟨Tryd.func9, rfl, by kernel_rfl, rfl⟩ (fun x => by exact W_l_FnExactReadNumber x)
end Go.Proofs.YtnhibkgoinnmcaaDoor.Ev
