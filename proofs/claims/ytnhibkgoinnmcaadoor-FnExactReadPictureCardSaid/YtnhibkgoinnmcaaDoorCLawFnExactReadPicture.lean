/- The functions that the law FnExactReadPicture reaches: their types, forms and typed texts (made by wip/gen/mk.py). -/
import Derived.Test.YtnhibkgoinnmcaaDoorEvMd
import Derived.Test.YtnhibkgoinnmcaaDoorEvMc
import Derived.Test.YtnhibkgoinnmcaaDoorEvMe
import Derived.Test.YtnhibkgoinnmcaaDoorShc
import Derived.Test.YtnhibkgoinnmcaaDoorProg
import Derived.KernelRfl
namespace Go.Proofs.YtnhibkgoinnmcaaDoor.Ev
open Go
set_option maxRecDepth 100000
set_option linter.unusedVariables false
def tyD3 : TyD := ⟨1, 8, false, [(.v (.int .i64 0))], none, false, (some .i64), [], false⟩
def tyD4 : TyD := ⟨1, 1, false, [(.v (.bool false))], none, false, none, [], false⟩
def tyD5 : TyD := ⟨1, 1, false, [(.v (.int .u8 0))], none, false, (some .u8), [], false⟩
def tyD9 : TyD := ⟨1, 16, false, [(.v (.string ⟨#[]⟩))], none, true, none, [], false⟩
def tyD25 : TyD := ⟨1, 24, false, [.em], (some 3), false, none, [], false⟩
def tyD41 : TyD := ⟨1, 24, false, [.em], (some 5), false, none, [], false⟩
theorem ty3 : tyOf Tryd.prog 3 = some tyD3 := by kernel_rfl
theorem ty4 : tyOf Tryd.prog 4 = some tyD4 := by kernel_rfl
theorem ty5 : tyOf Tryd.prog 5 = some tyD5 := by kernel_rfl
theorem ty9 : tyOf Tryd.prog 9 = some tyD9 := by kernel_rfl
theorem ty25 : tyOf Tryd.prog 25 = some tyD25 := by kernel_rfl
theorem ty41 : tyOf Tryd.prog 41 = some tyD41 := by kernel_rfl
def tyTab : List (Nat × TyD) := [(3, tyD3), (4, tyD4), (5, tyD5), (9, tyD9), (25, tyD25), (41, tyD41)]
def codTab : List (Nat × Ty) := [(3, .int .i64), (5, .int .u8)]
theorem tyOK : ∀ t d, getD tyTab t = some d → tyOf Tryd.prog t = some d := tab_ok (by unfold tyTab; exact ⟨ty3, ⟨ty4, ⟨ty5, ⟨ty9, ⟨ty25, ⟨ty41, trivial⟩⟩⟩⟩⟩⟩)
theorem bool4 : Tryd.prog.underlying 4 = some .bool := by kernel_rfl
theorem boolOK : ∀ t, ([4] : List Nat).contains t = true → Tryd.prog.underlying t = some .bool := by
  intro t h
  simp at h
  rcases h with rfl
  all_goals first | exact bool4
theorem eqOK : ∀ t, ([] : List Nat).contains t = true → EqOK Tryd.prog t := by
  intro t h
  simp at h
  try exact h.elim
def a_s_l15Int : FAnn := ⟨84, 0, [.slot 0 (.cell (.str)), .slot 1 (.cell (.int .i64))], [.slot 0 (.cell (.int .i64)), .slot 1 (.cell (.int .i64))],
  [(3, [.slot 0 (.cell (.str)), .slot 1 (.cell (.int .i64)), .slot 6 (.cell (.int .i64)), .slot 7 (.cell (.int .i64))])],
  [(3, [(.exit 0, [.slot 0 (.cell (.str)), .slot 1 (.cell (.int .i64)), .slot 6 (.cell (.int .i64)), .slot 7 (.cell (.int .i64))])])],
  []⟩
def a_s_l15Pair : FAnn := ⟨56, 0, [.slot 0 (.cell (.str)), .slot 1 (.cell (.int .i64)), .slot 2 (.cell (.int .u8))], [.slot 0 (.cell (.int .i64)), .slot 1 (.cell (.int .i64)), .slot 2 (.cell (.int .i64))],
  [],
  [],
  []⟩
def a_s_l1In : FAnn := ⟨52, 0, [.slot 0 (.cell (.int .i64)), .slot 1 (.cell (.int .i64)), .slot 2 (.cell (.int .i64))], [.slot 0 (.cell (.bool))],
  [],
  [],
  []⟩
def a_s_ReadPicture : FAnn := ⟨16, 0, [.slot 0 (.cell (.str))], [.blk (.arr 3 true (.int .i64)), .slot 0 (.cell (.int .i64)), .slot 1 (.cell (.int .i64)), .slot 2 (.ref 0 false), .slot 3 (.cell (.bool))],
  [(8, [.blk (.arr 3 true (.int .i64)), .slot 0 (.cell (.str)), .slot 6 (.cell (.int .i64)), .slot 7 (.cell (.int .i64)), .slot 9 (.ref 0 false), .slot 10 (.cell (.int .i64))])],
  [(8, [(.exit 0, [.blk (.arr 3 true (.int .i64)), .slot 6 (.cell (.int .i64)), .slot 7 (.cell (.int .i64)), .slot 9 (.ref 0 false)])])],
  []⟩
def a_strconv_Itoa : FAnn := ⟨55, 0, [.slot 0 (.cell (.int .i64))], [.slot 0 (.cell (.str))],
  [],
  [],
  []⟩
def a_i_head : FAnn := ⟨58, 0, [.slot 0 (.cell (.int .i64)), .slot 1 (.cell (.int .i64))], [.slot 0 (.cell (.str))],
  [],
  [],
  []⟩
def a_strings_CutPrefix : FAnn := ⟨57, 0, [.slot 0 (.cell (.str)), .slot 1 (.cell (.str))], [.slot 0 (.cell (.str)), .slot 1 (.cell (.bool))],
  [],
  [],
  []⟩
def a_i_ReadPicture : FAnn := ⟨17, 0, [.slot 0 (.cell (.str))], [.blk (.arr 3 true (.int .i64)), .slot 0 (.cell (.int .i64)), .slot 1 (.cell (.int .i64)), .slot 2 (.ref 0 false), .slot 3 (.cell (.bool))],
  [(2, [.slot 0 (.cell (.str)), .slot 6 (.cell (.int .i64))]), (5, [.slot 0 (.cell (.str)), .slot 6 (.cell (.int .i64)), .slot 7 (.cell (.int .i64))]), (11, [.blk (.arr 3 true (.int .i64)), .slot 6 (.cell (.int .i64)), .slot 7 (.cell (.int .i64)), .slot 10 (.ref 0 false), .slot 41 (.cell (.im (.int .u8))), .slot 42 (.cell (.int .i64)), .slot 43 (.cell (.int .i64))])],
  [(2, [(.exit 0, []), (.ret, [.blk (.arr 3 true (.int .i64)), .slot 2 (.cell (.int .i64)), .slot 3 (.cell (.int .i64)), .slot 4 (.ref 0 false), .slot 5 (.cell (.bool))])]), (5, [(.exit 2, [.slot 0 (.cell (.str)), .slot 6 (.cell (.int .i64))]), (.ret, [.blk (.arr 3 true (.int .i64)), .slot 2 (.cell (.int .i64)), .slot 3 (.cell (.int .i64)), .slot 4 (.ref 0 false), .slot 5 (.cell (.bool))])]), (11, [(.exit 4, [.blk (.arr 3 true (.int .i64)), .slot 6 (.cell (.int .i64)), .slot 7 (.cell (.int .i64)), .slot 10 (.ref 0 false)])])],
  []⟩
def a_l_eqIntS : FAnn := ⟨18, 0, [.slot 0 (.cell (.im (.int .i64))), .slot 1 (.cell (.im (.int .i64)))], [.slot 0 (.cell (.bool))],
  [(4, [.slot 0 (.cell (.im (.int .i64))), .slot 1 (.cell (.im (.int .i64))), .slot 5 (.cell (.int .i64))])],
  [(4, [(.exit 0, []), (.ret, [.slot 4 (.cell (.bool))])])],
  []⟩
def a_l_markIntS : FAnn := ⟨19, 1, [.blk (.arr 3 true (.int .i64)), .slot 0 (.ref 0 false), .slot 1 (.cell (.int .i64))], [.blk (.arr 3 true (.int .i64)), .slot 0 (.cell (.int .i64))],
  [(2, [.blk (.arr 3 true (.int .i64)), .slot 0 (.ref 0 false), .slot 1 (.cell (.int .i64)), .slot 5 (.cell (.int .i64))])],
  [(2, [(.exit 0, [.blk (.arr 3 true (.int .i64)), .slot 1 (.cell (.int .i64))])])],
  []⟩
def a_l_heldIntS : FAnn := ⟨20, 0, [.slot 0 (.cell (.im (.int .i64))), .slot 1 (.cell (.int .i64))], [.slot 0 (.cell (.int .i64))],
  [(2, [.slot 0 (.cell (.im (.int .i64))), .slot 1 (.cell (.int .i64)), .slot 5 (.cell (.int .i64))])],
  [(2, [(.exit 0, [.slot 1 (.cell (.int .i64))]), (.ret, [.slot 4 (.cell (.int .i64))])])],
  []⟩
def a_l_FnExactReadPicture : FAnn := ⟨4, 0, [.slot 0 (.cell (.str))], [.slot 0 (.cell (.bool))],
  [],
  [],
  []⟩
def annTab : List FAnn := [a_s_l15Int, a_s_l15Pair, a_s_l1In, a_s_ReadPicture, a_strconv_Itoa, a_i_head, a_strings_CutPrefix, a_i_ReadPicture, a_l_eqIntS, a_l_markIntS, a_l_heldIntS, a_l_FnExactReadPicture]
def noExt : Rel := fun _ _ _ _ _ => False
def ext0 : Rel := fun g args blks r blks' => itoaRel 55 g args blks r blks' ∨ cutpRel 57 g args blks r blks'
theorem ent_itoa : Ent0 Tryd.prog 55 := ⟨Tryd.f55, Tryd.func55, by kernel_rfl, by kernel_rfl⟩
theorem ent_cutp : Ent0 Tryd.prog 57 := ⟨Tryd.f57, Tryd.func57, by kernel_rfl, by kernel_rfl⟩
structure LibJ (J : Tabs) : Prop where
  tab : JTab Tryd.prog J "internal/strconv.uint64pow10" .u64 Lib.pow10Tab
theorem ext_spec {J : Tabs} (hJ : LibJ J) : ∀ g args blks r blks', ext0 g args blks r blks' → CSpec Tryd.prog J g args blks r blks' := by
  intro g args blks r blks' h
  rcases h with h | h
  · exact itoa_spec ent_itoa Tryd.strconv_Itoa hJ.tab _ _ _ _ _ h
  · exact cutp_spec ent_cutp Tryd.strings_CutPrefix _ _ _ _ _ h
def cf0 : Cfg := cfOf annTab fun g => ([55, 57] : List Nat).contains g
abbrev RR : Rel := Runs Tryd.prog cf0 ext0

/-- loop.example/g00409/spec.l15Int -/
noncomputable def B_s_l15Int_0 (s0 : (List UInt8)) (s1 : Int) (s2 : Int) (s3 : Int) : Option (((List UInt8) × (Int × (Int × Int))) ⊕ ((List UInt8) × (Int × (Int × Int)))) :=
  bif decide (s3 < (((List.length s0) : Nat) : Int)) then
    bif decide (s3 < (Go.IntKind.wrap Go.IntKind.i64 (s1 + (4 : Int)))) then
      ((getI s0 s3)).bind fun x0 =>
      bif decide ((((UInt8.toNat x0) : Nat) : Int) ≥ (48 : Int)) then
        ((getI s0 s3)).bind fun x1 =>
        bif decide ((((UInt8.toNat x1) : Nat) : Int) ≤ (57 : Int)) then
          ((getI s0 s3)).bind fun x2 =>
          some (Sum.inl (s0, (s1, ((Go.IntKind.wrap Go.IntKind.i64 ((Go.IntKind.wrap Go.IntKind.i64 ((10 : Int) * s2)) + (Go.IntKind.wrap Go.IntKind.i64 (Go.IntKind.wrap Go.IntKind.u8 ((((UInt8.toNat x2) : Nat) : Int) - (48 : Int)))))), (Go.IntKind.wrap Go.IntKind.i64 (s3 + (1 : Int)))))))
        else
        some (Sum.inr (s0, (s1, (s2, s3))))
      else
      some (Sum.inr (s0, (s1, (s2, s3))))
    else
    some (Sum.inr (s0, (s1, (s2, s3))))
  else
  some (Sum.inr (s0, (s1, (s2, s3))))
noncomputable def F_s_l15Int (a0 : (List UInt8)) (a1 : Int) : Option (Int × Int) :=
  (loopM (fun (s : ((List UInt8) × (Int × (Int × Int)))) => B_s_l15Int_0 s.1 s.2.1 s.2.2.1 s.2.2.2) (a0, (a1, ((0 : Int), a1)))).bind fun x0 =>
  bif (x0.2.2.2 == x0.2.1) then
    some ((-(1 : Int)), x0.2.1)
  else
  ((getI x0.1 x0.2.1)).bind fun x1 =>
  bif ((((UInt8.toNat x1) : Nat) : Int) == (48 : Int)) then
    bif decide (x0.2.2.2 > (Go.IntKind.wrap Go.IntKind.i64 (x0.2.1 + (1 : Int)))) then
      some ((-(1 : Int)), x0.2.1)
    else
    some (x0.2.2.1, x0.2.2.2)
  else
  some (x0.2.2.1, x0.2.2.2)
noncomputable def E_s_l15Int : Ent := ⟨a_s_l15Int, fun x => F_s_l15Int x.1 x.2⟩
noncomputable def X_s_l15Int : TX := ⟨tyTab, codTab, [], [4], [], a_s_l15Int⟩
set_option maxHeartbeats 2000000 in
theorem W_s_l15Int (a0 : List UInt8) (a1 : Int) : wtF X_s_l15Int Tryd.f84 (a0, a1) = F_s_l15Int a0 a1 := by kernel_rfl
theorem OK_s_l15Int : EntOK RR E_s_l15Int := fn_done (X := X_s_l15Int) ⟨tyOK, boolOK, eqOK⟩ (ents_of (by exact trivial)) (cf_ok (by kernel_rfl)) ⟨Tryd.func84, rfl, by kernel_rfl, rfl⟩ (fun x => by exact W_s_l15Int x.1 x.2)

/-- loop.example/g00409/spec.l15Pair -/
noncomputable def F_s_l15Pair (a0 : (List UInt8)) (a1 : Int) (a2 : Int) : Option (Int × Int × Int) :=
  ((F_s_l15Int a0 a1)).bind fun x0 =>
  bif decide (x0.1 < (0 : Int)) then
    some ((-(1 : Int)), ((-(1 : Int)), a1))
  else
  bif (x0.2 == (((List.length a0) : Nat) : Int)) then
    some ((-(1 : Int)), ((-(1 : Int)), a1))
  else
  ((getI a0 x0.2)).bind fun x1 =>
  bif ((((UInt8.toNat x1) : Nat) : Int) != a2) then
    some ((-(1 : Int)), ((-(1 : Int)), a1))
  else
  ((F_s_l15Int a0 (Go.IntKind.wrap Go.IntKind.i64 (x0.2 + (1 : Int))))).bind fun x2 =>
  some (x0.1, (x2.1, x2.2))
noncomputable def E_s_l15Pair : Ent := ⟨a_s_l15Pair, fun x => F_s_l15Pair x.1 x.2.1 x.2.2⟩
noncomputable def X_s_l15Pair : TX := ⟨tyTab, codTab, [], [4], [E_s_l15Int], a_s_l15Pair⟩
set_option maxHeartbeats 2000000 in
theorem W_s_l15Pair (a0 : List UInt8) (a1 : Int) (a2 : Int) : wtF X_s_l15Pair Tryd.f56 (a0, a1, a2) = F_s_l15Pair a0 a1 a2 := by kernel_rfl
theorem OK_s_l15Pair : EntOK RR E_s_l15Pair := fn_done (X := X_s_l15Pair) ⟨tyOK, boolOK, eqOK⟩ (ents_of (by exact ⟨⟨OK_s_l15Int, rfl⟩, trivial⟩)) (cf_ok (by kernel_rfl)) ⟨Tryd.func56, rfl, by kernel_rfl, rfl⟩ (fun x => by exact W_s_l15Pair x.1 x.2.1 x.2.2)

/-- loop.example/g00409/spec.l1In -/
noncomputable def F_s_l1In (a0 : Int) (a1 : Int) (a2 : Int) : Option (Bool) :=
  bif decide (a0 ≥ a1) then
    some (decide (a0 ≤ a2))
  else
  some false
noncomputable def E_s_l1In : Ent := ⟨a_s_l1In, fun x => F_s_l1In x.1 x.2.1 x.2.2⟩
noncomputable def X_s_l1In : TX := ⟨tyTab, codTab, [], [4], [], a_s_l1In⟩
set_option maxHeartbeats 2000000 in
theorem W_s_l1In (a0 : Int) (a1 : Int) (a2 : Int) : wtF X_s_l1In Tryd.f52 (a0, a1, a2) = F_s_l1In a0 a1 a2 := by kernel_rfl
theorem OK_s_l1In : EntOK RR E_s_l1In := fn_done (X := X_s_l1In) ⟨tyOK, boolOK, eqOK⟩ (ents_of (by exact trivial)) (cf_ok (by kernel_rfl)) ⟨Tryd.func52, rfl, by kernel_rfl, rfl⟩ (fun x => by exact W_s_l1In x.1 x.2.1 x.2.2)

/-- loop.example/g00409/spec.ReadPicture -/
noncomputable def B_s_ReadPicture_0 (s0 : (List Int)) (s1 : (List UInt8)) (s2 : Int) (s3 : Int) (s4 : Int) : Option (((List Int) × ((List UInt8) × (Int × (Int × Int)))) ⊕ ((List Int) × (Int × Int))) :=
  bif decide (s4 < (((List.length s1) : Nat) : Int)) then
    ((getI s1 s4)).bind fun x0 =>
    ((appL 8 1 s0 (List.cons (Go.IntKind.wrap Go.IntKind.i64 (((UInt8.toNat x0) : Nat) : Int)) List.nil))).bind fun x1 =>
    some (Sum.inl (x1, (s1, (s2, (s3, (Go.IntKind.wrap Go.IntKind.i64 (s4 + (1 : Int))))))))
  else
  some (Sum.inr (s0, (s2, s3)))
noncomputable def F_s_ReadPicture (a0 : (List UInt8)) : Option (List (Int) × Int × Int × Bool) :=
  bif decide ((((List.length a0) : Nat) : Int) < (3 : Int)) then
    some (List.nil, ((0 : Int), ((0 : Int), false)))
  else
  bif decide ((((List.length a0) : Nat) : Int) > (200 : Int)) then
    some (List.nil, ((0 : Int), ((0 : Int), false)))
  else
  ((subI (0 : Int) (3 : Int) (List.length a0))).bind fun x0 =>
  bif (!((List.drop x0.1 (List.take x0.2 a0)) == (List.cons 80 (List.cons 53 (List.cons 10 List.nil))))) then
    some (List.nil, ((0 : Int), ((0 : Int), false)))
  else
  ((F_s_l15Pair a0 (3 : Int) (32 : Int))).bind fun x1 =>
  ((F_s_l1In x1.1 (1 : Int) (10 : Int))).bind fun x2 =>
  bif (!x2) then
    some (List.nil, ((0 : Int), ((0 : Int), false)))
  else
  ((F_s_l1In x1.2.1 (1 : Int) (10 : Int))).bind fun x3 =>
  bif (!x3) then
    some (List.nil, ((0 : Int), ((0 : Int), false)))
  else
  bif ((Go.IntKind.wrap Go.IntKind.i64 ((((List.length a0) : Nat) : Int) - x1.2.2)) != (Go.IntKind.wrap Go.IntKind.i64 ((5 : Int) + (Go.IntKind.wrap Go.IntKind.i64 (x1.1 * x1.2.1))))) then
    some (List.nil, ((0 : Int), ((0 : Int), false)))
  else
  ((subI x1.2.2 (Go.IntKind.wrap Go.IntKind.i64 (x1.2.2 + (5 : Int))) (List.length a0))).bind fun x4 =>
  bif (!((List.drop x4.1 (List.take x4.2 a0)) == (List.cons 10 (List.cons 50 (List.cons 53 (List.cons 53 (List.cons 10 List.nil))))))) then
    some (List.nil, ((0 : Int), ((0 : Int), false)))
  else
  (loopM (fun (s : ((List Int) × ((List UInt8) × (Int × (Int × Int))))) => B_s_ReadPicture_0 s.1 s.2.1 s.2.2.1 s.2.2.2.1 s.2.2.2.2) (List.nil, (a0, (x1.1, (x1.2.1, (Go.IntKind.wrap Go.IntKind.i64 (x1.2.2 + (5 : Int)))))))).bind fun x5 =>
  some (x5.1, (x5.2.1, (x5.2.2, true)))
noncomputable def E_s_ReadPicture : Ent := ⟨a_s_ReadPicture, fun x => F_s_ReadPicture x⟩
noncomputable def X_s_ReadPicture : TX := ⟨tyTab, codTab, [], [4], [E_s_l15Pair, E_s_l1In], a_s_ReadPicture⟩
set_option maxHeartbeats 2000000 in
theorem W_s_ReadPicture (a0 : List UInt8) : wtF X_s_ReadPicture Tryd.f16 (a0) = F_s_ReadPicture a0 := by kernel_rfl
theorem OK_s_ReadPicture : EntOK RR E_s_ReadPicture := fn_done (X := X_s_ReadPicture) ⟨tyOK, boolOK, eqOK⟩ (ents_of (by exact ⟨⟨OK_s_l15Pair, rfl⟩, ⟨⟨OK_s_l1In, rfl⟩, trivial⟩⟩)) (cf_ok (by kernel_rfl)) ⟨Tryd.func16, rfl, by kernel_rfl, rfl⟩ (fun x => by exact W_s_ReadPicture x)

/-- strconv.Itoa -/
noncomputable def F_strconv_Itoa (a0 : Int) : Option (List UInt8) := F_itoa a0
noncomputable def E_strconv_Itoa : Ent := ⟨a_strconv_Itoa, fun x => F_strconv_Itoa x⟩
theorem OK_strconv_Itoa : EntOK RR E_strconv_Itoa := itoa_ent fun _ _ _ _ _ h => Or.inl h

/-- loop.example/g00409/impl.head -/
noncomputable def F_i_head (a0 : Int) (a1 : Int) : Option (List UInt8) :=
  ((F_strconv_Itoa a0)).bind fun x0 =>
  ((catS (List.cons 80 (List.cons 53 (List.cons 10 List.nil))) x0)).bind fun x1 =>
  ((catS x1 (List.cons 32 List.nil))).bind fun x2 =>
  ((F_strconv_Itoa a1)).bind fun x3 =>
  ((catS x2 x3)).bind fun x4 =>
  ((catS x4 (List.cons 10 (List.cons 50 (List.cons 53 (List.cons 53 (List.cons 10 List.nil))))))).bind fun x5 =>
  some x5
noncomputable def E_i_head : Ent := ⟨a_i_head, fun x => F_i_head x.1 x.2⟩
noncomputable def X_i_head : TX := ⟨tyTab, codTab, [], [4], [E_strconv_Itoa], a_i_head⟩
set_option maxHeartbeats 2000000 in
theorem W_i_head (a0 : Int) (a1 : Int) : wtF X_i_head Tryd.f58 (a0, a1) = F_i_head a0 a1 := by kernel_rfl
theorem OK_i_head : EntOK RR E_i_head := fn_done (X := X_i_head) ⟨tyOK, boolOK, eqOK⟩ (ents_of (by exact ⟨⟨OK_strconv_Itoa, rfl⟩, trivial⟩)) (cf_ok (by kernel_rfl)) ⟨Tryd.func58, rfl, by kernel_rfl, rfl⟩ (fun x => by exact W_i_head x.1 x.2)

/-- strings.CutPrefix -/
noncomputable def F_strings_CutPrefix (a0 : List UInt8) (a1 : List UInt8) : Option (List UInt8 × Bool) := F_cutp a0 a1
noncomputable def E_strings_CutPrefix : Ent := ⟨a_strings_CutPrefix, fun x => F_strings_CutPrefix x.1 x.2⟩
theorem OK_strings_CutPrefix : EntOK RR E_strings_CutPrefix := cutp_ent fun _ _ _ _ _ h => Or.inr (h)

/-- loop.example/g00409/impl.ReadPicture -/
noncomputable def B_i_ReadPicture_2 (s0 : (List Int)) (s1 : Int) (s2 : Int) (s3 : (List Int)) (s4 : Int) (s5 : Int) : Option (((List Int) × (Int × (Int × ((List Int) × (Int × Int))))) ⊕ ((List Int) × (Int × Int))) :=
  bif decide (s5 < s4) then
    ((getI s3 s5)).bind fun x0 =>
    ((appL 8 1 s0 (List.cons (Go.IntKind.wrap Go.IntKind.i64 x0) List.nil))).bind fun x1 =>
    some (Sum.inl (x1, (s1, (s2, (s3, (s4, (Go.IntKind.wrap Go.IntKind.i64 (s5 + (1 : Int)))))))))
  else
  some (Sum.inr (s0, (s1, s2)))
noncomputable def B_i_ReadPicture_1 (s0 : (List UInt8)) (s1 : Int) (s2 : Int) : Option (((List UInt8) × (Int × Int)) ⊕ (((List UInt8) × Int) ⊕ ((List Int) × (Int × (Int × Bool))))) :=
  bif decide (s2 ≤ (10 : Int)) then
    ((F_i_head s1 s2)).bind fun x0 =>
    ((F_strings_CutPrefix s0 x0)).bind fun x1 =>
    bif (!x1.2) then
      some (Sum.inl (s0, (s1, (Go.IntKind.wrap Go.IntKind.i64 (s2 + (1 : Int))))))
    else
    bif ((((List.length x1.1) : Nat) : Int) != (Go.IntKind.wrap Go.IntKind.i64 (s1 * s2))) then
      some (Sum.inl (s0, (s1, (Go.IntKind.wrap Go.IntKind.i64 (s2 + (1 : Int))))))
    else
    bif decide ((List.length x1.1) ≤ 140737488351232) then
      (loopM (fun (s : ((List Int) × (Int × (Int × ((List Int) × (Int × Int)))))) => B_i_ReadPicture_2 s.1 s.2.1 s.2.2.1 s.2.2.2.1 s.2.2.2.2.1 s.2.2.2.2.2) (List.nil, (s1, (s2, ((numsOf x1.1), ((((List.length (numsOf x1.1)) : Nat) : Int), (0 : Int))))))).bind fun x2 =>
      some (Sum.inr (Sum.inr (x2.1, (x2.2.1, (x2.2.2, true)))))
    else
    none
  else
  some (Sum.inr (Sum.inl (s0, s1)))
noncomputable def B_i_ReadPicture_0 (s0 : (List UInt8)) (s1 : Int) : Option (((List UInt8) × Int) ⊕ (Unit ⊕ ((List Int) × (Int × (Int × Bool))))) :=
  bif decide (s1 ≤ (10 : Int)) then
    (loopM (fun (s : ((List UInt8) × (Int × Int))) => B_i_ReadPicture_1 s.1 s.2.1 s.2.2) (s0, (s1, (1 : Int)))).bind fun x0 =>
    Sum.elim
      (fun x1 =>
      some (Sum.inl (x1.1, (Go.IntKind.wrap Go.IntKind.i64 (x1.2 + (1 : Int))))))
      (fun x2 =>
      some (Sum.inr (Sum.inr (x2.1, (x2.2.1, (x2.2.2.1, x2.2.2.2))))))
      x0
  else
  some (Sum.inr (Sum.inl ()))
noncomputable def F_i_ReadPicture (a0 : (List UInt8)) : Option (List (Int) × Int × Int × Bool) :=
  (loopM (fun (s : ((List UInt8) × Int)) => B_i_ReadPicture_0 s.1 s.2) (a0, (1 : Int))).bind fun x0 =>
  Sum.elim
    (fun x1 =>
    some (List.nil, ((0 : Int), ((0 : Int), false))))
    (fun x2 =>
    some (x2.1, (x2.2.1, (x2.2.2.1, x2.2.2.2))))
    x0
noncomputable def E_i_ReadPicture : Ent := ⟨a_i_ReadPicture, fun x => F_i_ReadPicture x⟩
noncomputable def X_i_ReadPicture : TX := ⟨tyTab, codTab, [], [4], [E_i_head, E_strings_CutPrefix], a_i_ReadPicture⟩
set_option maxHeartbeats 2000000 in
theorem W_i_ReadPicture (a0 : List UInt8) : wtF X_i_ReadPicture Tryd.f17 (a0) = F_i_ReadPicture a0 := by kernel_rfl
theorem OK_i_ReadPicture : EntOK RR E_i_ReadPicture := fn_done (X := X_i_ReadPicture) ⟨tyOK, boolOK, eqOK⟩ (ents_of (by exact ⟨⟨OK_i_head, rfl⟩, ⟨⟨OK_strings_CutPrefix, rfl⟩, trivial⟩⟩)) (cf_ok (by kernel_rfl)) ⟨Tryd.func17, rfl, by kernel_rfl, rfl⟩ (fun x => by exact W_i_ReadPicture x)

/-- loop.example/g00409/laws.eqIntS -/
noncomputable def B_l_eqIntS_0 (s0 : (List Int)) (s1 : (List Int)) (s2 : Int) : Option (((List Int) × ((List Int) × Int)) ⊕ (Unit ⊕ Bool)) :=
  bif decide (s2 < (((List.length s0) : Nat) : Int)) then
    ((getI s0 s2)).bind fun x0 =>
    ((getI s1 s2)).bind fun x1 =>
    bif (x0 != x1) then
      some (Sum.inr (Sum.inr false))
    else
    some (Sum.inl (s0, (s1, (Go.IntKind.wrap Go.IntKind.i64 (s2 + (1 : Int))))))
  else
  some (Sum.inr (Sum.inl ()))
noncomputable def F_l_eqIntS (a0 : (List Int)) (a1 : (List Int)) : Option (Bool) :=
  bif ((((List.length a0) : Nat) : Int) != (((List.length a1) : Nat) : Int)) then
    some false
  else
  (loopM (fun (s : ((List Int) × ((List Int) × Int))) => B_l_eqIntS_0 s.1 s.2.1 s.2.2) (a0, (a1, (0 : Int)))).bind fun x0 =>
  Sum.elim
    (fun x1 =>
    some true)
    (fun x2 =>
    some x2)
    x0
noncomputable def E_l_eqIntS : Ent := ⟨a_l_eqIntS, fun x => F_l_eqIntS x.1 x.2⟩
noncomputable def X_l_eqIntS : TX := ⟨tyTab, codTab, [], [4], [], a_l_eqIntS⟩
set_option maxHeartbeats 2000000 in
theorem W_l_eqIntS (a0 : List (Int)) (a1 : List (Int)) : wtF X_l_eqIntS Tryd.f18 (a0, a1) = F_l_eqIntS a0 a1 := by kernel_rfl
theorem OK_l_eqIntS : EntOK RR E_l_eqIntS := fn_done (X := X_l_eqIntS) ⟨tyOK, boolOK, eqOK⟩ (ents_of (by exact trivial)) (cf_ok (by kernel_rfl)) ⟨Tryd.func18, rfl, by kernel_rfl, rfl⟩ (fun x => by exact W_l_eqIntS x.1 x.2)

/-- loop.example/g00409/laws.markIntS -/
noncomputable def B_l_markIntS_0 (s0 : (List Int)) (s1 : Int) (s2 : Int) : Option (((List Int) × (Int × Int)) ⊕ ((List Int) × Int)) :=
  bif decide (s2 < (((List.length s0) : Nat) : Int)) then
    ((idxI s2 (List.length s0))).bind fun x0 =>
    ((getN s0 x0)).bind fun x1 =>
    some (Sum.inl ((List.set s0 x0 s1), ((Go.IntKind.wrap Go.IntKind.i64 (s1 + (1 : Int))), (Go.IntKind.wrap Go.IntKind.i64 (s2 + (1 : Int))))))
  else
  some (Sum.inr (s0, s1))
noncomputable def F_l_markIntS (a0 : (List Int)) (a1 : Int) : Option (List (Int) × Int) :=
  (loopM (fun (s : ((List Int) × (Int × Int))) => B_l_markIntS_0 s.1 s.2.1 s.2.2) (a0, (a1, (0 : Int)))).bind fun x0 =>
  some (x0.1, x0.2)
noncomputable def E_l_markIntS : Ent := ⟨a_l_markIntS, fun x => F_l_markIntS x.1 x.2⟩
noncomputable def X_l_markIntS : TX := ⟨tyTab, codTab, [], [4], [], a_l_markIntS⟩
set_option maxHeartbeats 2000000 in
theorem W_l_markIntS (a0 : List (Int)) (a1 : Int) : wtF X_l_markIntS Tryd.f19 (a0, a1) = F_l_markIntS a0 a1 := by kernel_rfl
theorem OK_l_markIntS : EntOK RR E_l_markIntS := fn_done (X := X_l_markIntS) ⟨tyOK, boolOK, eqOK⟩ (ents_of (by exact trivial)) (cf_ok (by kernel_rfl)) ⟨Tryd.func19, rfl, by kernel_rfl, rfl⟩ (fun x => by exact W_l_markIntS x.1 x.2)

/-- loop.example/g00409/laws.heldIntS -/
noncomputable def B_l_heldIntS_0 (s0 : (List Int)) (s1 : Int) (s2 : Int) : Option (((List Int) × (Int × Int)) ⊕ (Int ⊕ Int)) :=
  bif decide (s2 < (((List.length s0) : Nat) : Int)) then
    ((getI s0 s2)).bind fun x0 =>
    bif (x0 != s1) then
      some (Sum.inr (Sum.inr (-(1 : Int))))
    else
    some (Sum.inl (s0, ((Go.IntKind.wrap Go.IntKind.i64 (s1 + (1 : Int))), (Go.IntKind.wrap Go.IntKind.i64 (s2 + (1 : Int))))))
  else
  some (Sum.inr (Sum.inl s1))
noncomputable def F_l_heldIntS (a0 : (List Int)) (a1 : Int) : Option (Int) :=
  (loopM (fun (s : ((List Int) × (Int × Int))) => B_l_heldIntS_0 s.1 s.2.1 s.2.2) (a0, (a1, (0 : Int)))).bind fun x0 =>
  Sum.elim
    (fun x1 =>
    some x1)
    (fun x2 =>
    some x2)
    x0
noncomputable def E_l_heldIntS : Ent := ⟨a_l_heldIntS, fun x => F_l_heldIntS x.1 x.2⟩
noncomputable def X_l_heldIntS : TX := ⟨tyTab, codTab, [], [4], [], a_l_heldIntS⟩
set_option maxHeartbeats 2000000 in
theorem W_l_heldIntS (a0 : List (Int)) (a1 : Int) : wtF X_l_heldIntS Tryd.f20 (a0, a1) = F_l_heldIntS a0 a1 := by kernel_rfl
theorem OK_l_heldIntS : EntOK RR E_l_heldIntS := fn_done (X := X_l_heldIntS) ⟨tyOK, boolOK, eqOK⟩ (ents_of (by exact trivial)) (cf_ok (by kernel_rfl)) ⟨Tryd.func20, rfl, by kernel_rfl, rfl⟩ (fun x => by exact W_l_heldIntS x.1 x.2)

/-- loop.example/g00409/laws.FnExactReadPicture -/
noncomputable def F_l_FnExactReadPicture (a0 : (List UInt8)) : Option (Bool) :=
  bif decide ((((List.length a0) : Nat) : Int) > (1048576 : Int)) then
    some true
  else
  ((F_s_ReadPicture a0)).bind fun x0 =>
  ((F_i_ReadPicture a0)).bind fun x1 =>
  bif (x1.2.1 != x0.2.1) then
    some false
  else
  bif (x1.2.2.1 != x0.2.2.1) then
    some false
  else
  ((F_l_eqIntS x1.1 x0.1)).bind fun x2 =>
  bif (!x2) then
    some false
  else
  bif (!(x1.2.2.2 == x0.2.2.2)) then
    some false
  else
  ((F_l_markIntS x1.1 (1 : Int))).bind fun x3 =>
  bif decide ((List.length x3.1) = (List.length x1.1)) then
    ((F_l_heldIntS x3.1 (1 : Int))).bind fun x4 =>
    bif decide (x4 < (0 : Int)) then
      some false
    else
    bif (x4 != x3.2) then
      some false
    else
    ((F_i_ReadPicture a0)).bind fun x5 =>
    bif (x5.2.1 != x0.2.1) then
      some false
    else
    bif (x5.2.2.1 != x0.2.2.1) then
      some false
    else
    ((F_l_eqIntS x5.1 x0.1)).bind fun x6 =>
    bif (!x6) then
      some false
    else
    bif (!(x5.2.2.2 == x0.2.2.2)) then
      some false
    else
    ((F_l_heldIntS x3.1 (1 : Int))).bind fun x7 =>
    bif decide (x7 < (0 : Int)) then
      some false
    else
    bif (x7 != x3.2) then
      some false
    else
    some true
  else
  none
noncomputable def E_l_FnExactReadPicture : Ent := ⟨a_l_FnExactReadPicture, fun x => F_l_FnExactReadPicture x⟩
noncomputable def X_l_FnExactReadPicture : TX := ⟨tyTab, codTab, [], [4], [E_s_ReadPicture, E_i_ReadPicture, E_l_eqIntS, E_l_markIntS, E_l_heldIntS], a_l_FnExactReadPicture⟩
set_option maxHeartbeats 2000000 in
theorem W_l_FnExactReadPicture (a0 : List UInt8) : wtF X_l_FnExactReadPicture Tryd.f4 (a0) = F_l_FnExactReadPicture a0 := by kernel_rfl
theorem OK_l_FnExactReadPicture : EntOK RR E_l_FnExactReadPicture := fn_done (X := X_l_FnExactReadPicture) ⟨tyOK, boolOK, eqOK⟩ (ents_of (by exact ⟨⟨OK_s_ReadPicture, rfl⟩, ⟨⟨OK_i_ReadPicture, rfl⟩, ⟨⟨OK_l_eqIntS, rfl⟩, ⟨⟨OK_l_markIntS, rfl⟩, ⟨⟨OK_l_heldIntS, rfl⟩, trivial⟩⟩⟩⟩⟩)) (cf_ok (by kernel_rfl)) ⟨Tryd.func4, rfl, by kernel_rfl, rfl⟩ (fun x => by exact W_l_FnExactReadPicture x)
end Go.Proofs.YtnhibkgoinnmcaaDoor.Ev
