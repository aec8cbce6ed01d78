/- The functions that the law FnExactNumberText reaches: their types, forms and typed texts (made by wip/gen/mk.py). -/
import Derived.Test.YtnhibkgoinnmcaaDoorEvMd
import Derived.Test.YtnhibkgoinnmcaaDoorEvMc
import Derived.Test.YtnhibkgoinnmcaaDoorEvMe
import Derived.Test.YtnhibkgoinnmcaaDoorShc
import Derived.Test.YtnhibkgoinnmcaaDoorProg
import Derived.KernelRfl
namespace Go.Proofs.YtnhibkgoinnmcaaDoor.Ev
open Go
set_option maxRecDepth 100000
set_option linter.unusedVariables false
def tyD3 : TyD := ⟨1, 8, false, [(.v (.int .i64 0))], none, false, (some .i64), [], false⟩
def tyD4 : TyD := ⟨1, 1, false, [(.v (.bool false))], none, false, none, [], false⟩
def tyD5 : TyD := ⟨1, 1, false, [(.v (.int .u8 0))], none, false, (some .u8), [], false⟩
def tyD9 : TyD := ⟨1, 16, false, [(.v (.string ⟨#[]⟩))], none, true, none, [], false⟩
def tyD41 : TyD := ⟨1, 24, false, [.em], (some 5), false, none, [], false⟩
theorem ty3 : tyOf Tryd.prog 3 = some tyD3 := by kernel_rfl
theorem ty4 : tyOf Tryd.prog 4 = some tyD4 := by kernel_rfl
theorem ty5 : tyOf Tryd.prog 5 = some tyD5 := by kernel_rfl
theorem ty9 : tyOf Tryd.prog 9 = some tyD9 := by kernel_rfl
theorem ty41 : tyOf Tryd.prog 41 = some tyD41 := by kernel_rfl
def tyTab : List (Nat × TyD) := [(3, tyD3), (4, tyD4), (5, tyD5), (9, tyD9), (41, tyD41)]
def codTab : List (Nat × Ty) := [(5, .int .u8)]
theorem tyOK : ∀ t d, getD tyTab t = some d → tyOf Tryd.prog t = some d := tab_ok (by unfold tyTab; exact ⟨ty3, ⟨ty4, ⟨ty5, ⟨ty9, ⟨ty41, trivial⟩⟩⟩⟩⟩)
theorem bool4 : Tryd.prog.underlying 4 = some .bool := by kernel_rfl
theorem boolOK : ∀ t, ([4] : List Nat).contains t = true → Tryd.prog.underlying t = some .bool := by
  intro t h
  simp at h
  rcases h with rfl
  all_goals first | exact bool4
theorem eqOK : ∀ t, ([] : List Nat).contains t = true → EqOK Tryd.prog t := by
  intro t h
  simp at h
  try exact h.elim
def a_s_l1In : FAnn := ⟨52, 0, [.slot 0 (.cell (.int .i64)), .slot 1 (.cell (.int .i64)), .slot 2 (.cell (.int .i64))], [.slot 0 (.cell (.bool))],
  [],
  [],
  []⟩
def a_s_l1Num : FAnn := ⟨96, 0, [.slot 0 (.cell (.int .i64))], [.slot 0 (.cell (.str))],
  [],
  [],
  []⟩
def a_s_l16Num : FAnn := ⟨53, 0, [.slot 0 (.cell (.int .i64))], [.slot 0 (.cell (.str))],
  [],
  [],
  []⟩
def a_s_NumberText : FAnn := ⟨14, 0, [.slot 0 (.cell (.int .i64))], [.slot 0 (.cell (.str)), .slot 1 (.cell (.bool))],
  [],
  [],
  []⟩
def a_i_within : FAnn := ⟨61, 0, [.slot 0 (.cell (.int .i64)), .slot 1 (.cell (.int .i64)), .slot 2 (.cell (.int .i64))], [.slot 0 (.cell (.bool))],
  [],
  [],
  []⟩
def a_i_isNumber : FAnn := ⟨54, 0, [.slot 0 (.cell (.int .i64))], [.slot 0 (.cell (.bool))],
  [],
  [],
  []⟩
def a_strconv_Itoa : FAnn := ⟨55, 0, [.slot 0 (.cell (.int .i64))], [.slot 0 (.cell (.str))],
  [],
  [],
  []⟩
def a_i_NumberText : FAnn := ⟨15, 0, [.slot 0 (.cell (.int .i64))], [.slot 0 (.cell (.str)), .slot 1 (.cell (.bool))],
  [],
  [],
  []⟩
def a_l_FnExactNumberText : FAnn := ⟨3, 0, [.slot 0 (.cell (.int .i64))], [.slot 0 (.cell (.bool))],
  [],
  [],
  []⟩
def annTab : List FAnn := [a_s_l1In, a_s_l1Num, a_s_l16Num, a_s_NumberText, a_i_within, a_i_isNumber, a_strconv_Itoa, a_i_NumberText, a_l_FnExactNumberText]
def noExt : Rel := fun _ _ _ _ _ => False
def ext0 : Rel := fun g args blks r blks' => itoaRel 55 g args blks r blks'
theorem ent_itoa : Ent0 Tryd.prog 55 := ⟨Tryd.f55, Tryd.func55, by kernel_rfl, by kernel_rfl⟩
structure LibJ (J : Tabs) : Prop where
  tab : JTab Tryd.prog J "internal/strconv.uint64pow10" .u64 Lib.pow10Tab
theorem ext_spec {J : Tabs} (hJ : LibJ J) : ∀ g args blks r blks', ext0 g args blks r blks' → CSpec Tryd.prog J g args blks r blks' := by
  intro g args blks r blks' h
  exact itoa_spec ent_itoa Tryd.strconv_Itoa hJ.tab _ _ _ _ _ h
def cf0 : Cfg := cfOf annTab fun g => ([55] : List Nat).contains g
abbrev RR : Rel := Runs Tryd.prog cf0 ext0

/-- loop.example/g00409/spec.l1In -/
noncomputable def F_s_l1In (a0 : Int) (a1 : Int) (a2 : Int) : Option (Bool) :=
  bif decide (a0 ≥ a1) then
    some (decide (a0 ≤ a2))
  else
  some false
noncomputable def E_s_l1In : Ent := ⟨a_s_l1In, fun x => F_s_l1In x.1 x.2.1 x.2.2⟩
noncomputable def X_s_l1In : TX := ⟨tyTab, codTab, [], [4], [], a_s_l1In⟩
set_option maxHeartbeats 2000000 in
theorem W_s_l1In (a0 : Int) (a1 : Int) (a2 : Int) : wtF X_s_l1In Tryd.f52 (a0, a1, a2) = F_s_l1In a0 a1 a2 := by kernel_rfl
theorem OK_s_l1In : EntOK RR E_s_l1In := fn_done (X := X_s_l1In) ⟨tyOK, boolOK, eqOK⟩ (ents_of (by exact trivial)) (cf_ok (by kernel_rfl)) ⟨Tryd.func52, rfl, by kernel_rfl, rfl⟩ (fun x => by exact W_s_l1In x.1 x.2.1 x.2.2)

/-- loop.example/g00409/spec.l1Num -/
noncomputable def G_s_l1Num (self : (Int) → Option (List UInt8)) (a0 : Int) : Option (List UInt8) :=
  bif decide (a0 < (10 : Int)) then
    some (strOf (List.cons (Go.IntKind.wrap Go.IntKind.u8 (Go.IntKind.wrap Go.IntKind.i64 ((48 : Int) + a0))) List.nil))
  else
  ((self (Go.IntKind.wrap Go.IntKind.i64 (Int.tdiv a0 (10 : Int))))).bind fun x0 =>
  ((catS x0 (strOf (List.cons (Go.IntKind.wrap Go.IntKind.u8 (Go.IntKind.wrap Go.IntKind.i64 ((48 : Int) + (Int.tmod a0 (10 : Int))))) List.nil)))).bind fun x1 =>
  some x1
noncomputable def R_s_l1Num : Nat → (Int) → Option (List UInt8)
  | 0 => fun _ => none
  | n + 1 => G_s_l1Num (R_s_l1Num n)
noncomputable def Ea_s_l1Num (self : (Int) → Option (List UInt8)) : Ent := ⟨a_s_l1Num, fun x => self x⟩
noncomputable def X_s_l1Num (self : (Int) → Option (List UInt8)) : TX := ⟨tyTab, codTab, [], [4], [Ea_s_l1Num self], a_s_l1Num⟩
set_option maxHeartbeats 2000000 in
theorem W_s_l1Num (self : (Int) → Option (List UInt8)) (a0 : Int) : wtF (X_s_l1Num self) Tryd.f96 (a0) = G_s_l1Num self a0 := by kernel_rfl
theorem OKr_s_l1Num : ∀ n, EntOK RR (Ea_s_l1Num (R_s_l1Num n))
  | 0 => fun x y _ _ _ h => by cases h
  | n + 1 => fn_done (X := X_s_l1Num (R_s_l1Num n)) ⟨tyOK, boolOK, eqOK⟩ (ents_of (by exact ⟨⟨OKr_s_l1Num n, rfl⟩, trivial⟩)) (cf_ok (by kernel_rfl)) ⟨Tryd.func96, rfl, by kernel_rfl, rfl⟩ (fun x => by exact W_s_l1Num (R_s_l1Num n) x)
noncomputable def F_s_l1Num (a0 : Int) : Option (List UInt8) := R_s_l1Num (a0.toNat + 1) a0
noncomputable def E_s_l1Num : Ent := ⟨a_s_l1Num, fun x => F_s_l1Num x⟩
theorem OK_s_l1Num : EntOK RR E_s_l1Num := fun x => OKr_s_l1Num _ x

/-- loop.example/g00409/spec.l16Num -/
noncomputable def F_s_l16Num (a0 : Int) : Option (List UInt8) :=
  bif decide (a0 < (0 : Int)) then
    ((F_s_l1Num (Go.IntKind.wrap Go.IntKind.i64 ((0 : Int) - a0)))).bind fun x0 =>
    ((catS (List.cons 45 List.nil) x0)).bind fun x1 =>
    some x1
  else
  ((F_s_l1Num a0)).bind fun x2 =>
  some x2
noncomputable def E_s_l16Num : Ent := ⟨a_s_l16Num, fun x => F_s_l16Num x⟩
noncomputable def X_s_l16Num : TX := ⟨tyTab, codTab, [], [4], [E_s_l1Num], a_s_l16Num⟩
set_option maxHeartbeats 2000000 in
theorem W_s_l16Num (a0 : Int) : wtF X_s_l16Num Tryd.f53 (a0) = F_s_l16Num a0 := by kernel_rfl
theorem OK_s_l16Num : EntOK RR E_s_l16Num := fn_done (X := X_s_l16Num) ⟨tyOK, boolOK, eqOK⟩ (ents_of (by exact ⟨⟨OK_s_l1Num, rfl⟩, trivial⟩)) (cf_ok (by kernel_rfl)) ⟨Tryd.func53, rfl, by kernel_rfl, rfl⟩ (fun x => by exact W_s_l16Num x)

/-- loop.example/g00409/spec.NumberText -/
noncomputable def F_s_NumberText (a0 : Int) : Option (List UInt8 × Bool) :=
  ((F_s_l1In a0 (-(9999 : Int)) (9999 : Int))).bind fun x0 =>
  bif (!x0) then
    some (List.nil, false)
  else
  ((F_s_l16Num a0)).bind fun x1 =>
  some (x1, true)
noncomputable def E_s_NumberText : Ent := ⟨a_s_NumberText, fun x => F_s_NumberText x⟩
noncomputable def X_s_NumberText : TX := ⟨tyTab, codTab, [], [4], [E_s_l1In, E_s_l16Num], a_s_NumberText⟩
set_option maxHeartbeats 2000000 in
theorem W_s_NumberText (a0 : Int) : wtF X_s_NumberText Tryd.f14 (a0) = F_s_NumberText a0 := by kernel_rfl
theorem OK_s_NumberText : EntOK RR E_s_NumberText := fn_done (X := X_s_NumberText) ⟨tyOK, boolOK, eqOK⟩ (ents_of (by exact ⟨⟨OK_s_l1In, rfl⟩, ⟨⟨OK_s_l16Num, rfl⟩, trivial⟩⟩)) (cf_ok (by kernel_rfl)) ⟨Tryd.func14, rfl, by kernel_rfl, rfl⟩ (fun x => by exact W_s_NumberText x)

/-- loop.example/g00409/impl.within -/
noncomputable def F_i_within (a0 : Int) (a1 : Int) (a2 : Int) : Option (Bool) :=
  bif decide (a0 ≥ a1) then
    some (decide (a0 ≤ a2))
  else
  some false
noncomputable def E_i_within : Ent := ⟨a_i_within, fun x => F_i_within x.1 x.2.1 x.2.2⟩
noncomputable def X_i_within : TX := ⟨tyTab, codTab, [], [4], [], a_i_within⟩
set_option maxHeartbeats 2000000 in
theorem W_i_within (a0 : Int) (a1 : Int) (a2 : Int) : wtF X_i_within Tryd.f61 (a0, a1, a2) = F_i_within a0 a1 a2 := by kernel_rfl
theorem OK_i_within : EntOK RR E_i_within := fn_done (X := X_i_within) ⟨tyOK, boolOK, eqOK⟩ (ents_of (by exact trivial)) (cf_ok (by kernel_rfl)) ⟨Tryd.func61, rfl, by kernel_rfl, rfl⟩ (fun x => by exact W_i_within x.1 x.2.1 x.2.2)

/-- loop.example/g00409/impl.isNumber -/
noncomputable def F_i_isNumber (a0 : Int) : Option (Bool) :=
  ((F_i_within a0 (-(9999 : Int)) (9999 : Int))).bind fun x0 =>
  some x0
noncomputable def E_i_isNumber : Ent := ⟨a_i_isNumber, fun x => F_i_isNumber x⟩
noncomputable def X_i_isNumber : TX := ⟨tyTab, codTab, [], [4], [E_i_within], a_i_isNumber⟩
set_option maxHeartbeats 2000000 in
theorem W_i_isNumber (a0 : Int) : wtF X_i_isNumber Tryd.f54 (a0) = F_i_isNumber a0 := by kernel_rfl
theorem OK_i_isNumber : EntOK RR E_i_isNumber := fn_done (X := X_i_isNumber) ⟨tyOK, boolOK, eqOK⟩ (ents_of (by exact ⟨⟨OK_i_within, rfl⟩, trivial⟩)) (cf_ok (by kernel_rfl)) ⟨Tryd.func54, rfl, by kernel_rfl, rfl⟩ (fun x => by exact W_i_isNumber x)

/-- strconv.Itoa -/
noncomputable def F_strconv_Itoa (a0 : Int) : Option (List UInt8) := F_itoa a0
noncomputable def E_strconv_Itoa : Ent := ⟨a_strconv_Itoa, fun x => F_strconv_Itoa x⟩
theorem OK_strconv_Itoa : EntOK RR E_strconv_Itoa := itoa_ent fun _ _ _ _ _ h => h

/-- loop.example/g00409/impl.NumberText -/
noncomputable def F_i_NumberText (a0 : Int) : Option (List UInt8 × Bool) :=
  ((F_i_isNumber a0)).bind fun x0 =>
  bif (!x0) then
    some (List.nil, false)
  else
  ((F_strconv_Itoa a0)).bind fun x1 =>
  some (x1, true)
noncomputable def E_i_NumberText : Ent := ⟨a_i_NumberText, fun x => F_i_NumberText x⟩
noncomputable def X_i_NumberText : TX := ⟨tyTab, codTab, [], [4], [E_i_isNumber, E_strconv_Itoa], a_i_NumberText⟩
set_option maxHeartbeats 2000000 in
theorem W_i_NumberText (a0 : Int) : wtF X_i_NumberText Tryd.f15 (a0) = F_i_NumberText a0 := by kernel_rfl
theorem OK_i_NumberText : EntOK RR E_i_NumberText := fn_done (X := X_i_NumberText) ⟨tyOK, boolOK, eqOK⟩ (ents_of (by exact ⟨⟨OK_i_isNumber, rfl⟩, ⟨⟨OK_strconv_Itoa, rfl⟩, trivial⟩⟩)) (cf_ok (by kernel_rfl)) ⟨Tryd.func15, rfl, by kernel_rfl, rfl⟩ (fun x => by exact W_i_NumberText x)

/-- loop.example/g00409/laws.FnExactNumberText -/
noncomputable def F_l_FnExactNumberText (a0 : Int) : Option (Bool) :=
  ((F_s_NumberText a0)).bind fun x0 =>
  ((F_i_NumberText a0)).bind fun x1 =>
  bif (!(x1.1 == x0.1)) then
    some false
  else
  bif (!(x1.2 == x0.2)) then
    some false
  else
  some true
noncomputable def E_l_FnExactNumberText : Ent := ⟨a_l_FnExactNumberText, fun x => F_l_FnExactNumberText x⟩
noncomputable def X_l_FnExactNumberText : TX := ⟨tyTab, codTab, [], [4], [E_s_NumberText, E_i_NumberText], a_l_FnExactNumberText⟩
set_option maxHeartbeats 2000000 in
theorem W_l_FnExactNumberText (a0 : Int) : wtF X_l_FnExactNumberText Tryd.f3 (a0) = F_l_FnExactNumberText a0 := by kernel_rfl
theorem OK_l_FnExactNumberText : EntOK RR E_l_FnExactNumberText := fn_done (X := X_l_FnExactNumberText) ⟨tyOK, boolOK, eqOK⟩ (ents_of (by exact ⟨⟨OK_s_NumberText, rfl⟩, ⟨⟨OK_i_NumberText, rfl⟩, trivial⟩⟩)) (cf_ok (by kernel_rfl)) ⟨Tryd.func3, rfl, by kernel_rfl, rfl⟩ (fun x => by exact W_l_FnExactNumberText x)
end Go.Proofs.YtnhibkgoinnmcaaDoor.Ev
