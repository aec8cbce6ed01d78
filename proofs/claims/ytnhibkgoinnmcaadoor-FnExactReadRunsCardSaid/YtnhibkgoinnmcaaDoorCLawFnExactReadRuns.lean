/- The functions that the law FnExactReadRuns reaches: their types, forms and typed texts (made by wip/gen/mk.py). -/
import Derived.Test.YtnhibkgoinnmcaaDoorEvMd
import Derived.Test.YtnhibkgoinnmcaaDoorEvMc
import Derived.Test.YtnhibkgoinnmcaaDoorEvMe
import Derived.Test.YtnhibkgoinnmcaaDoorShc
import Derived.Test.YtnhibkgoinnmcaaDoorProg
import Derived.KernelRfl
namespace Go.Proofs.YtnhibkgoinnmcaaDoor.Ev
open Go
set_option maxRecDepth 100000
set_option linter.unusedVariables false
def tyD3 : TyD := ⟨1, 8, false, [(.v (.int .i64 0))], none, false, (some .i64), [], false⟩
def tyD4 : TyD := ⟨1, 1, false, [(.v (.bool false))], none, false, none, [], false⟩
def tyD5 : TyD := ⟨1, 1, false, [(.v (.int .u8 0))], none, false, (some .u8), [], false⟩
def tyD9 : TyD := ⟨1, 16, false, [(.v (.string ⟨#[]⟩))], none, true, none, [], false⟩
def tyD37 : TyD := ⟨1, 24, false, [.em], (some 90), false, none, [], false⟩
def tyD41 : TyD := ⟨1, 24, false, [.em], (some 5), false, none, [], false⟩
def tyD82 : TyD := ⟨1, 16, false, [(.v .nilIface)], none, false, none, [], true⟩
def tyD90 : TyD := ⟨2, 16, true, [(.v (.int .i64 0)), (.v (.int .i64 0))], none, false, none, [⟨0, 3, 1, false⟩, ⟨1, 3, 1, false⟩], false⟩
def tyD108 : TyD := ⟨1, 24, false, [.em], (some 9), false, none, [], false⟩
theorem ty3 : tyOf Tryd.prog 3 = some tyD3 := by kernel_rfl
theorem ty4 : tyOf Tryd.prog 4 = some tyD4 := by kernel_rfl
theorem ty5 : tyOf Tryd.prog 5 = some tyD5 := by kernel_rfl
theorem ty9 : tyOf Tryd.prog 9 = some tyD9 := by kernel_rfl
theorem ty37 : tyOf Tryd.prog 37 = some tyD37 := by kernel_rfl
theorem ty41 : tyOf Tryd.prog 41 = some tyD41 := by kernel_rfl
theorem ty82 : tyOf Tryd.prog 82 = some tyD82 := by kernel_rfl
theorem ty90 : tyOf Tryd.prog 90 = some tyD90 := by kernel_rfl
theorem ty108 : tyOf Tryd.prog 108 = some tyD108 := by kernel_rfl
def tyTab : List (Nat × TyD) := [(3, tyD3), (4, tyD4), (5, tyD5), (9, tyD9), (37, tyD37), (41, tyD41), (82, tyD82), (90, tyD90), (108, tyD108)]
def codTab : List (Nat × Ty) := [(5, .int .u8), (9, .str), (90, .pair (.int .i64) (.int .i64))]
theorem tyOK : ∀ t d, getD tyTab t = some d → tyOf Tryd.prog t = some d := tab_ok (by unfold tyTab; exact ⟨ty3, ⟨ty4, ⟨ty5, ⟨ty9, ⟨ty37, ⟨ty41, ⟨ty82, ⟨ty90, ⟨ty108, trivial⟩⟩⟩⟩⟩⟩⟩⟩⟩)
theorem bool4 : Tryd.prog.underlying 4 = some .bool := by kernel_rfl
theorem boolOK : ∀ t, ([4] : List Nat).contains t = true → Tryd.prog.underlying t = some .bool := by
  intro t h
  simp at h
  rcases h with rfl
  all_goals first | exact bool4
theorem eqOK : ∀ t, ([] : List Nat).contains t = true → EqOK Tryd.prog t := by
  intro t h
  simp at h
  try exact h.elim
def a_s_l15Int : FAnn := ⟨84, 0, [.slot 0 (.cell (.str)), .slot 1 (.cell (.int .i64))], [.slot 0 (.cell (.int .i64)), .slot 1 (.cell (.int .i64))],
  [(3, [.slot 0 (.cell (.str)), .slot 1 (.cell (.int .i64)), .slot 6 (.cell (.int .i64)), .slot 7 (.cell (.int .i64))])],
  [(3, [(.exit 0, [.slot 0 (.cell (.str)), .slot 1 (.cell (.int .i64)), .slot 6 (.cell (.int .i64)), .slot 7 (.cell (.int .i64))])])],
  []⟩
def a_s_l15Pair : FAnn := ⟨56, 0, [.slot 0 (.cell (.str)), .slot 1 (.cell (.int .i64)), .slot 2 (.cell (.int .u8))], [.slot 0 (.cell (.int .i64)), .slot 1 (.cell (.int .i64)), .slot 2 (.cell (.int .i64))],
  [],
  [],
  []⟩
def a_s_l1In : FAnn := ⟨52, 0, [.slot 0 (.cell (.int .i64)), .slot 1 (.cell (.int .i64)), .slot 2 (.cell (.int .i64))], [.slot 0 (.cell (.bool))],
  [],
  [],
  []⟩
def a_s_GoodRuns : FAnn := ⟨66, 0, [.slot 0 (.cell (.im (.pair (.int .i64) (.int .i64))))], [.slot 0 (.cell (.bool))],
  [(3, [.slot 0 (.cell (.im (.pair (.int .i64) (.int .i64)))), .slot 3 (.cell (.int .i64)), .slot 6 (.cell (.im (.pair (.int .i64) (.int .i64)))), .slot 7 (.cell (.int .i64)), .slot 8 (.cell (.int .i64))])],
  [(3, [(.exit 0, []), (.ret, [.slot 2 (.cell (.bool))])])],
  []⟩
def a_s_l1Num : FAnn := ⟨96, 0, [.slot 0 (.cell (.int .i64))], [.slot 0 (.cell (.str))],
  [],
  [],
  []⟩
def a_s_l15Text : FAnn := ⟨67, 0, [.slot 0 (.cell (.im (.pair (.int .i64) (.int .i64))))], [.slot 0 (.cell (.str))],
  [(3, [.slot 3 (.cell (.str)), .slot 6 (.cell (.im (.pair (.int .i64) (.int .i64)))), .slot 7 (.cell (.int .i64)), .slot 8 (.cell (.int .i64))])],
  [(3, [(.exit 0, [.slot 3 (.cell (.str))])])],
  [(7, [.blk (.box 90 [.int .i64, .int .i64]), .slot 3 (.cell (.str)), .slot 5 (.ref 0 true), .slot 6 (.cell (.im (.pair (.int .i64) (.int .i64)))), .slot 7 (.cell (.int .i64)), .slot 8 (.cell (.int .i64))])]⟩
def a_s_ReadRuns : FAnn := ⟨39, 0, [.slot 0 (.cell (.str))], [.slot 0 (.cell (.im (.pair (.int .i64) (.int .i64)))), .slot 1 (.cell (.bool))],
  [(3, [.blk (.arr 90 true (.pair (.int .i64) (.int .i64))), .slot 0 (.cell (.str)), .slot 4 (.ref 0 false), .slot 5 (.cell (.int .i64))])],
  [(3, [(.exit 0, [.blk (.arr 90 true (.pair (.int .i64) (.int .i64))), .slot 0 (.cell (.str)), .slot 4 (.ref 0 false)]), (.ret, [.slot 2 (.cell (.im (.pair (.int .i64) (.int .i64)))), .slot 3 (.cell (.bool))])])],
  [(7, [.blk (.arr 90 true (.pair (.int .i64) (.int .i64))), .slot 0 (.cell (.str)), .slot 4 (.ref 0 false), .slot 6 (.cell (.int .i64)), .slot 7 (.cell (.int .i64)), .slot 8 (.cell (.int .i64))])]⟩
def a_strings_Split : FAnn := ⟨86, 0, [.slot 0 (.cell (.str)), .slot 1 (.cell (.str))], [.blk (.arr 9 true (.str)), .slot 0 (.ref 0 false)],
  [],
  [],
  []⟩
def a_strings_Cut : FAnn := ⟨87, 0, [.slot 0 (.cell (.str)), .slot 1 (.cell (.str))], [.slot 0 (.cell (.str)), .slot 1 (.cell (.str)), .slot 2 (.cell (.bool))],
  [],
  [],
  []⟩
def a_strconv_Atoi : FAnn := ⟨85, 0, [.slot 0 (.cell (.str))], [.slot 0 (.cell (.int .i64)), .slot 1 (.cell (.err))],
  [],
  [],
  []⟩
def a_i_within : FAnn := ⟨61, 0, [.slot 0 (.cell (.int .i64)), .slot 1 (.cell (.int .i64)), .slot 2 (.cell (.int .i64))], [.slot 0 (.cell (.bool))],
  [],
  [],
  []⟩
def a_i_GoodRuns : FAnn := ⟨69, 0, [.slot 0 (.cell (.im (.pair (.int .i64) (.int .i64))))], [.slot 0 (.cell (.bool))],
  [(3, [.slot 0 (.cell (.im (.pair (.int .i64) (.int .i64)))), .slot 3 (.cell (.int .i64)), .slot 6 (.cell (.im (.pair (.int .i64) (.int .i64)))), .slot 7 (.cell (.int .i64)), .slot 8 (.cell (.int .i64))])],
  [(3, [(.exit 0, []), (.ret, [.slot 2 (.cell (.bool))])])],
  []⟩
def a_strconv_Itoa : FAnn := ⟨55, 0, [.slot 0 (.cell (.int .i64))], [.slot 0 (.cell (.str))],
  [],
  [],
  []⟩
def a_strings_Join : FAnn := ⟨82, 0, [.slot 0 (.cell (.im (.str))), .slot 1 (.cell (.str))], [.slot 0 (.cell (.str))],
  [],
  [],
  []⟩
def a_i_runsText : FAnn := ⟨70, 0, [.slot 0 (.cell (.im (.pair (.int .i64) (.int .i64))))], [.slot 0 (.cell (.str))],
  [(3, [.blk (.arr 9 true (.str)), .slot 3 (.ref 0 false), .slot 7 (.cell (.im (.pair (.int .i64) (.int .i64)))), .slot 8 (.cell (.int .i64)), .slot 9 (.cell (.int .i64))])],
  [(3, [(.exit 0, [.blk (.arr 9 true (.str)), .slot 3 (.ref 0 false)])])],
  []⟩
def a_i_ReadRuns : FAnn := ⟨40, 0, [.slot 0 (.cell (.str))], [.blk (.arr 90 true (.pair (.int .i64) (.int .i64))), .slot 0 (.ref 0 false), .slot 1 (.cell (.bool))],
  [(8, [.blk (.arr 90 true (.pair (.int .i64) (.int .i64))), .blk (.arr 9 true (.str)), .slot 0 (.cell (.str)), .slot 5 (.ref 0 false), .slot 23 (.ref 1 false), .slot 24 (.cell (.int .i64)), .slot 25 (.cell (.int .i64))])],
  [(8, [(.exit 0, [.blk (.arr 90 true (.pair (.int .i64) (.int .i64))), .slot 0 (.cell (.str)), .slot 5 (.ref 0 false)])])],
  []⟩
def a_l_eqRun : FAnn := ⟨71, 0, [.slot 0 (.agg [.int .i64, .int .i64]), .slot 1 (.agg [.int .i64, .int .i64])], [.slot 0 (.cell (.bool))],
  [],
  [],
  []⟩
def a_l_eqRunS : FAnn := ⟨28, 0, [.slot 0 (.cell (.im (.pair (.int .i64) (.int .i64)))), .slot 1 (.cell (.im (.pair (.int .i64) (.int .i64))))], [.slot 0 (.cell (.bool))],
  [(4, [.slot 0 (.cell (.im (.pair (.int .i64) (.int .i64)))), .slot 1 (.cell (.im (.pair (.int .i64) (.int .i64)))), .slot 5 (.cell (.int .i64))])],
  [(4, [(.exit 0, []), (.ret, [.slot 4 (.cell (.bool))])])],
  []⟩
def a_l_markRunS : FAnn := ⟨41, 1, [.blk (.arr 90 true (.pair (.int .i64) (.int .i64))), .slot 0 (.ref 0 false), .slot 1 (.cell (.int .i64))], [.blk (.arr 90 true (.pair (.int .i64) (.int .i64))), .slot 0 (.cell (.int .i64))],
  [(2, [.blk (.arr 90 true (.pair (.int .i64) (.int .i64))), .slot 0 (.ref 0 false), .slot 1 (.cell (.int .i64)), .slot 5 (.cell (.int .i64))])],
  [(2, [(.exit 0, [.blk (.arr 90 true (.pair (.int .i64) (.int .i64))), .slot 1 (.cell (.int .i64))])])],
  []⟩
def a_l_heldRunS : FAnn := ⟨42, 0, [.slot 0 (.cell (.im (.pair (.int .i64) (.int .i64)))), .slot 1 (.cell (.int .i64))], [.slot 0 (.cell (.int .i64))],
  [(2, [.slot 0 (.cell (.im (.pair (.int .i64) (.int .i64)))), .slot 1 (.cell (.int .i64)), .slot 5 (.cell (.int .i64))])],
  [(2, [(.exit 0, [.slot 1 (.cell (.int .i64))]), (.ret, [.slot 4 (.cell (.int .i64))])])],
  []⟩
def a_l_FnExactReadRuns : FAnn := ⟨10, 0, [.slot 0 (.cell (.str))], [.slot 0 (.cell (.bool))],
  [],
  [],
  []⟩
def annTab : List FAnn := [a_s_l15Int, a_s_l15Pair, a_s_l1In, a_s_GoodRuns, a_s_l1Num, a_s_l15Text, a_s_ReadRuns, a_strings_Split, a_strings_Cut, a_strconv_Atoi, a_i_within, a_i_GoodRuns, a_strconv_Itoa, a_strings_Join, a_i_runsText, a_i_ReadRuns, a_l_eqRun, a_l_eqRunS, a_l_markRunS, a_l_heldRunS, a_l_FnExactReadRuns]
def noExt : Rel := fun _ _ _ _ _ => False
def ext0 : Rel := fun g args blks r blks' => splitRel 86 9 g args blks r blks' ∨ cutRel 87 g args blks r blks' ∨ atoiRel 85 g args blks r blks' ∨ itoaRel 55 g args blks r blks' ∨ joinRel 82 g args blks r blks'
theorem ent_split : Ent0 Tryd.prog 86 := ⟨Tryd.f86, Tryd.func86, by kernel_rfl, by kernel_rfl⟩
theorem ent_cut : Ent0 Tryd.prog 87 := ⟨Tryd.f87, Tryd.func87, by kernel_rfl, by kernel_rfl⟩
theorem ent_atoi : Ent0 Tryd.prog 85 := ⟨Tryd.f85, Tryd.func85, by kernel_rfl, by kernel_rfl⟩
theorem ent_itoa : Ent0 Tryd.prog 55 := ⟨Tryd.f55, Tryd.func55, by kernel_rfl, by kernel_rfl⟩
theorem ent_join : Ent0 Tryd.prog 82 := ⟨Tryd.f82, Tryd.func82, by kernel_rfl, by kernel_rfl⟩
structure LibJ (J : Tabs) : Prop where
  tab : JTab Tryd.prog J "internal/strconv.uint64pow10" .u64 Lib.pow10Tab
  max : JMax J 2
  syn : JVar Tryd.prog J "strconv.ErrSyntax"
  rng : JVar Tryd.prog J "strconv.ErrRange"
theorem ext_spec {J : Tabs} (hJ : LibJ J) : ∀ g args blks r blks', ext0 g args blks r blks' → CSpec Tryd.prog J g args blks r blks' := by
  intro g args blks r blks' h
  rcases h with h | h | h | h | h
  · exact split_spec ent_split Tryd.strings_Split hJ.max _ _ _ _ _ h
  · exact cut_spec ent_cut Tryd.strings_Cut hJ.max _ _ _ _ _ h
  · exact atoi_spec ent_atoi Tryd.strconv_Atoi_ok Tryd.strconv_Atoi_syntax_var Tryd.strconv_Atoi_range_var hJ.syn hJ.rng _ _ _ _ _ h
  · exact itoa_spec ent_itoa Tryd.strconv_Itoa hJ.tab _ _ _ _ _ h
  · exact join_spec ent_join Tryd.strings_Join_none Tryd.strings_Join _ _ _ _ _ h
def cf0 : Cfg := cfOf annTab fun g => ([86, 87, 85, 55, 82] : List Nat).contains g
abbrev RR : Rel := Runs Tryd.prog cf0 ext0

/-- loop.example/g00409/spec.l15Int -/
noncomputable def B_s_l15Int_0 (s0 : (List UInt8)) (s1 : Int) (s2 : Int) (s3 : Int) : Option (((List UInt8) × (Int × (Int × Int))) ⊕ ((List UInt8) × (Int × (Int × Int)))) :=
  bif decide (s3 < (((List.length s0) : Nat) : Int)) then
    bif decide (s3 < (Go.IntKind.wrap Go.IntKind.i64 (s1 + (4 : Int)))) then
      ((getI s0 s3)).bind fun x0 =>
      bif decide ((((UInt8.toNat x0) : Nat) : Int) ≥ (48 : Int)) then
        ((getI s0 s3)).bind fun x1 =>
        bif decide ((((UInt8.toNat x1) : Nat) : Int) ≤ (57 : Int)) then
          ((getI s0 s3)).bind fun x2 =>
          some (Sum.inl (s0, (s1, ((Go.IntKind.wrap Go.IntKind.i64 ((Go.IntKind.wrap Go.IntKind.i64 ((10 : Int) * s2)) + (Go.IntKind.wrap Go.IntKind.i64 (Go.IntKind.wrap Go.IntKind.u8 ((((UInt8.toNat x2) : Nat) : Int) - (48 : Int)))))), (Go.IntKind.wrap Go.IntKind.i64 (s3 + (1 : Int)))))))
        else
        some (Sum.inr (s0, (s1, (s2, s3))))
      else
      some (Sum.inr (s0, (s1, (s2, s3))))
    else
    some (Sum.inr (s0, (s1, (s2, s3))))
  else
  some (Sum.inr (s0, (s1, (s2, s3))))
noncomputable def F_s_l15Int (a0 : (List UInt8)) (a1 : Int) : Option (Int × Int) :=
  (loopM (fun (s : ((List UInt8) × (Int × (Int × Int)))) => B_s_l15Int_0 s.1 s.2.1 s.2.2.1 s.2.2.2) (a0, (a1, ((0 : Int), a1)))).bind fun x0 =>
  bif (x0.2.2.2 == x0.2.1) then
    some ((-(1 : Int)), x0.2.1)
  else
  ((getI x0.1 x0.2.1)).bind fun x1 =>
  bif ((((UInt8.toNat x1) : Nat) : Int) == (48 : Int)) then
    bif decide (x0.2.2.2 > (Go.IntKind.wrap Go.IntKind.i64 (x0.2.1 + (1 : Int)))) then
      some ((-(1 : Int)), x0.2.1)
    else
    some (x0.2.2.1, x0.2.2.2)
  else
  some (x0.2.2.1, x0.2.2.2)
noncomputable def E_s_l15Int : Ent := ⟨a_s_l15Int, fun x => F_s_l15Int x.1 x.2⟩
noncomputable def X_s_l15Int : TX := ⟨tyTab, codTab, [], [4], [], a_s_l15Int⟩
set_option maxHeartbeats 2000000 in
theorem W_s_l15Int (a0 : List UInt8) (a1 : Int) : wtF X_s_l15Int Tryd.f84 (a0, a1) = F_s_l15Int a0 a1 := by kernel_rfl
theorem OK_s_l15Int : EntOK RR E_s_l15Int := fn_done (X := X_s_l15Int) ⟨tyOK, boolOK, eqOK⟩ (ents_of (by exact trivial)) (cf_ok (by kernel_rfl)) ⟨Tryd.func84, rfl, by kernel_rfl, rfl⟩ (fun x => by exact W_s_l15Int x.1 x.2)

/-- loop.example/g00409/spec.l15Pair -/
noncomputable def F_s_l15Pair (a0 : (List UInt8)) (a1 : Int) (a2 : Int) : Option (Int × Int × Int) :=
  ((F_s_l15Int a0 a1)).bind fun x0 =>
  bif decide (x0.1 < (0 : Int)) then
    some ((-(1 : Int)), ((-(1 : Int)), a1))
  else
  bif (x0.2 == (((List.length a0) : Nat) : Int)) then
    some ((-(1 : Int)), ((-(1 : Int)), a1))
  else
  ((getI a0 x0.2)).bind fun x1 =>
  bif ((((UInt8.toNat x1) : Nat) : Int) != a2) then
    some ((-(1 : Int)), ((-(1 : Int)), a1))
  else
  ((F_s_l15Int a0 (Go.IntKind.wrap Go.IntKind.i64 (x0.2 + (1 : Int))))).bind fun x2 =>
  some (x0.1, (x2.1, x2.2))
noncomputable def E_s_l15Pair : Ent := ⟨a_s_l15Pair, fun x => F_s_l15Pair x.1 x.2.1 x.2.2⟩
noncomputable def X_s_l15Pair : TX := ⟨tyTab, codTab, [], [4], [E_s_l15Int], a_s_l15Pair⟩
set_option maxHeartbeats 2000000 in
theorem W_s_l15Pair (a0 : List UInt8) (a1 : Int) (a2 : Int) : wtF X_s_l15Pair Tryd.f56 (a0, a1, a2) = F_s_l15Pair a0 a1 a2 := by kernel_rfl
theorem OK_s_l15Pair : EntOK RR E_s_l15Pair := fn_done (X := X_s_l15Pair) ⟨tyOK, boolOK, eqOK⟩ (ents_of (by exact ⟨⟨OK_s_l15Int, rfl⟩, trivial⟩)) (cf_ok (by kernel_rfl)) ⟨Tryd.func56, rfl, by kernel_rfl, rfl⟩ (fun x => by exact W_s_l15Pair x.1 x.2.1 x.2.2)

/-- loop.example/g00409/spec.l1In -/
noncomputable def F_s_l1In (a0 : Int) (a1 : Int) (a2 : Int) : Option (Bool) :=
  bif decide (a0 ≥ a1) then
    some (decide (a0 ≤ a2))
  else
  some false
noncomputable def E_s_l1In : Ent := ⟨a_s_l1In, fun x => F_s_l1In x.1 x.2.1 x.2.2⟩
noncomputable def X_s_l1In : TX := ⟨tyTab, codTab, [], [4], [], a_s_l1In⟩
set_option maxHeartbeats 2000000 in
theorem W_s_l1In (a0 : Int) (a1 : Int) (a2 : Int) : wtF X_s_l1In Tryd.f52 (a0, a1, a2) = F_s_l1In a0 a1 a2 := by kernel_rfl
theorem OK_s_l1In : EntOK RR E_s_l1In := fn_done (X := X_s_l1In) ⟨tyOK, boolOK, eqOK⟩ (ents_of (by exact trivial)) (cf_ok (by kernel_rfl)) ⟨Tryd.func52, rfl, by kernel_rfl, rfl⟩ (fun x => by exact W_s_l1In x.1 x.2.1 x.2.2)

/-- loop.example/g00409/spec.GoodRuns -/
noncomputable def B_s_GoodRuns_0 (s0 : (List (Int × Int))) (s1 : Int) (s2 : (List (Int × Int))) (s3 : Int) (s4 : Int) : Option (((List (Int × Int)) × (Int × ((List (Int × Int)) × (Int × Int)))) ⊕ (Unit ⊕ Bool)) :=
  bif decide (s4 < s3) then
    ((getI s2 s4)).bind fun x0 =>
    ((F_s_l1In x0.1 (0 : Int) (255 : Int))).bind fun x1 =>
    bif (!x1) then
      some (Sum.inr (Sum.inr false))
    else
    ((F_s_l1In x0.2 (1 : Int) s1)).bind fun x2 =>
    bif (!x2) then
      some (Sum.inr (Sum.inr false))
    else
    bif decide (s4 > (0 : Int)) then
      ((getI s0 (Go.IntKind.wrap Go.IntKind.i64 (s4 - (1 : Int))))).bind fun x3 =>
      bif (x3.1 == x0.1) then
        some (Sum.inr (Sum.inr false))
      else
      some (Sum.inl (s0, ((Go.IntKind.wrap Go.IntKind.i64 (s1 - x0.2)), (s2, (s3, (Go.IntKind.wrap Go.IntKind.i64 (s4 + (1 : Int))))))))
    else
    some (Sum.inl (s0, ((Go.IntKind.wrap Go.IntKind.i64 (s1 - x0.2)), (s2, (s3, (Go.IntKind.wrap Go.IntKind.i64 (s4 + (1 : Int))))))))
  else
  some (Sum.inr (Sum.inl ()))
noncomputable def F_s_GoodRuns (a0 : (List (Int × Int))) : Option (Bool) :=
  (loopM (fun (s : ((List (Int × Int)) × (Int × ((List (Int × Int)) × (Int × Int))))) => B_s_GoodRuns_0 s.1 s.2.1 s.2.2.1 s.2.2.2.1 s.2.2.2.2) (a0, ((100 : Int), (a0, ((((List.length a0) : Nat) : Int), (0 : Int)))))).bind fun x0 =>
  Sum.elim
    (fun x1 =>
    some true)
    (fun x2 =>
    some x2)
    x0
noncomputable def E_s_GoodRuns : Ent := ⟨a_s_GoodRuns, fun x => F_s_GoodRuns x⟩
noncomputable def X_s_GoodRuns : TX := ⟨tyTab, codTab, [], [4], [E_s_l1In], a_s_GoodRuns⟩
set_option maxHeartbeats 2000000 in
theorem W_s_GoodRuns (a0 : List ((Int × Int))) : wtF X_s_GoodRuns Tryd.f66 (a0) = F_s_GoodRuns a0 := by kernel_rfl
theorem OK_s_GoodRuns : EntOK RR E_s_GoodRuns := fn_done (X := X_s_GoodRuns) ⟨tyOK, boolOK, eqOK⟩ (ents_of (by exact ⟨⟨OK_s_l1In, rfl⟩, trivial⟩)) (cf_ok (by kernel_rfl)) ⟨Tryd.func66, rfl, by kernel_rfl, rfl⟩ (fun x => by exact W_s_GoodRuns x)

/-- loop.example/g00409/spec.l1Num -/
noncomputable def G_s_l1Num (self : (Int) → Option (List UInt8)) (a0 : Int) : Option (List UInt8) :=
  bif decide (a0 < (10 : Int)) then
    some (strOf (List.cons (Go.IntKind.wrap Go.IntKind.u8 (Go.IntKind.wrap Go.IntKind.i64 ((48 : Int) + a0))) List.nil))
  else
  ((self (Go.IntKind.wrap Go.IntKind.i64 (Int.tdiv a0 (10 : Int))))).bind fun x0 =>
  ((catS x0 (strOf (List.cons (Go.IntKind.wrap Go.IntKind.u8 (Go.IntKind.wrap Go.IntKind.i64 ((48 : Int) + (Int.tmod a0 (10 : Int))))) List.nil)))).bind fun x1 =>
  some x1
noncomputable def R_s_l1Num : Nat → (Int) → Option (List UInt8)
  | 0 => fun _ => none
  | n + 1 => G_s_l1Num (R_s_l1Num n)
noncomputable def Ea_s_l1Num (self : (Int) → Option (List UInt8)) : Ent := ⟨a_s_l1Num, fun x => self x⟩
noncomputable def X_s_l1Num (self : (Int) → Option (List UInt8)) : TX := ⟨tyTab, codTab, [], [4], [Ea_s_l1Num self], a_s_l1Num⟩
set_option maxHeartbeats 2000000 in
theorem W_s_l1Num (self : (Int) → Option (List UInt8)) (a0 : Int) : wtF (X_s_l1Num self) Tryd.f96 (a0) = G_s_l1Num self a0 := by kernel_rfl
theorem OKr_s_l1Num : ∀ n, EntOK RR (Ea_s_l1Num (R_s_l1Num n))
  | 0 => fun x y _ _ _ h => by cases h
  | n + 1 => fn_done (X := X_s_l1Num (R_s_l1Num n)) ⟨tyOK, boolOK, eqOK⟩ (ents_of (by exact ⟨⟨OKr_s_l1Num n, rfl⟩, trivial⟩)) (cf_ok (by kernel_rfl)) ⟨Tryd.func96, rfl, by kernel_rfl, rfl⟩ (fun x => by exact W_s_l1Num (R_s_l1Num n) x)
noncomputable def F_s_l1Num (a0 : Int) : Option (List UInt8) := R_s_l1Num (a0.toNat + 1) a0
noncomputable def E_s_l1Num : Ent := ⟨a_s_l1Num, fun x => F_s_l1Num x⟩
theorem OK_s_l1Num : EntOK RR E_s_l1Num := fun x => OKr_s_l1Num _ x

/-- loop.example/g00409/spec.l15Text -/
noncomputable def B_s_l15Text_0 (s0 : (List UInt8)) (s1 : (List (Int × Int))) (s2 : Int) (s3 : Int) : Option (((List UInt8) × ((List (Int × Int)) × (Int × Int))) ⊕ (List UInt8)) :=
  bif decide (s3 < s2) then
    ((getI s1 s3)).bind fun x0 =>
    (bif decide (s3 > (0 : Int)) then
        ((catS s0 (List.cons 44 List.nil))).bind fun x1 =>
        some (Sum.inr ((x0.1, x0.2), (x1, (s1, (s2, s3)))))
      else
      some (Sum.inr ((x0.1, x0.2), (s0, (s1, (s2, s3)))))).bind fun x2 =>
    Sum.elim
      (fun x3 =>
      some x3)
      (fun x4 =>
      ((F_s_l1Num x4.1.2)).bind fun x5 =>
      ((catS x5 (List.cons 120 List.nil))).bind fun x6 =>
      ((F_s_l1Num x4.1.1)).bind fun x7 =>
      ((catS x6 x7)).bind fun x8 =>
      ((catS x4.2.1 x8)).bind fun x9 =>
      some (Sum.inl (x9, (x4.2.2.1, (x4.2.2.2.1, (Go.IntKind.wrap Go.IntKind.i64 (x4.2.2.2.2 + (1 : Int))))))))
      x2
  else
  some (Sum.inr s0)
noncomputable def F_s_l15Text (a0 : (List (Int × Int))) : Option (List UInt8) :=
  (loopM (fun (s : ((List UInt8) × ((List (Int × Int)) × (Int × Int)))) => B_s_l15Text_0 s.1 s.2.1 s.2.2.1 s.2.2.2) (List.nil, (a0, ((((List.length a0) : Nat) : Int), (0 : Int))))).bind fun x0 =>
  some x0
noncomputable def E_s_l15Text : Ent := ⟨a_s_l15Text, fun x => F_s_l15Text x⟩
noncomputable def X_s_l15Text : TX := ⟨tyTab, codTab, [], [4], [E_s_l1Num], a_s_l15Text⟩
set_option maxHeartbeats 2000000 in
theorem W_s_l15Text (a0 : List ((Int × Int))) : wtF X_s_l15Text Tryd.f67 (a0) = F_s_l15Text a0 := by kernel_rfl
theorem OK_s_l15Text : EntOK RR E_s_l15Text := fn_done (X := X_s_l15Text) ⟨tyOK, boolOK, eqOK⟩ (ents_of (by exact ⟨⟨OK_s_l1Num, rfl⟩, trivial⟩)) (cf_ok (by kernel_rfl)) ⟨Tryd.func67, rfl, by kernel_rfl, rfl⟩ (fun x => by exact W_s_l15Text x)

/-- loop.example/g00409/spec.ReadRuns -/
noncomputable def B_s_ReadRuns_0 (s0 : (List (Int × Int))) (s1 : (List UInt8)) (s2 : Int) : Option (((List (Int × Int)) × ((List UInt8) × Int)) ⊕ (((List (Int × Int)) × (List UInt8)) ⊕ ((List (Int × Int)) × Bool))) :=
  bif decide (s2 < (((List.length s1) : Nat) : Int)) then
    ((F_s_l15Pair s1 s2 (120 : Int))).bind fun x0 =>
    (bif decide (x0.2.1 < (0 : Int)) then
        some (Sum.inl (Sum.inr (Sum.inr (List.nil, false))))
      else
      bif decide (x0.2.2 < (((List.length s1) : Nat) : Int)) then
        ((getI s1 x0.2.2)).bind fun x1 =>
        bif ((((UInt8.toNat x1) : Nat) : Int) != (44 : Int)) then
          some (Sum.inl (Sum.inr (Sum.inr (List.nil, false))))
        else
        bif ((Go.IntKind.wrap Go.IntKind.i64 (x0.2.2 + (1 : Int))) == (((List.length s1) : Nat) : Int)) then
          some (Sum.inl (Sum.inr (Sum.inr (List.nil, false))))
        else
        bif decide ((((List.length s0) : Nat) : Int) > (100 : Int)) then
          some (Sum.inl (Sum.inr (Sum.inr (List.nil, false))))
        else
        some (Sum.inr (s0, (s1, (x0.1, (x0.2.1, x0.2.2)))))
      else
      bif ((Go.IntKind.wrap Go.IntKind.i64 (x0.2.2 + (1 : Int))) == (((List.length s1) : Nat) : Int)) then
        some (Sum.inl (Sum.inr (Sum.inr (List.nil, false))))
      else
      bif decide ((((List.length s0) : Nat) : Int) > (100 : Int)) then
        some (Sum.inl (Sum.inr (Sum.inr (List.nil, false))))
      else
      some (Sum.inr (s0, (s1, (x0.1, (x0.2.1, x0.2.2)))))).bind fun x2 =>
    Sum.elim
      (fun x3 =>
      some x3)
      (fun x4 =>
      ((appL 16 2 x4.1 (List.cons (x4.2.2.2.1, x4.2.2.1) List.nil))).bind fun x5 =>
      some (Sum.inl (x5, (x4.2.1, (Go.IntKind.wrap Go.IntKind.i64 (x4.2.2.2.2 + (1 : Int)))))))
      x2
  else
  some (Sum.inr (Sum.inl (s0, s1)))
noncomputable def F_s_ReadRuns (a0 : (List UInt8)) : Option (List ((Int × Int)) × Bool) :=
  (loopM (fun (s : ((List (Int × Int)) × ((List UInt8) × Int))) => B_s_ReadRuns_0 s.1 s.2.1 s.2.2) (List.nil, (a0, (0 : Int)))).bind fun x0 =>
  Sum.elim
    (fun x1 =>
    ((F_s_GoodRuns x1.1)).bind fun x2 =>
    bif (!x2) then
      some (List.nil, false)
    else
    ((F_s_l15Text x1.1)).bind fun x3 =>
    bif (!(x3 == x1.2)) then
      some (List.nil, false)
    else
    some (x1.1, true))
    (fun x4 =>
    some (x4.1, x4.2))
    x0
noncomputable def E_s_ReadRuns : Ent := ⟨a_s_ReadRuns, fun x => F_s_ReadRuns x⟩
noncomputable def X_s_ReadRuns : TX := ⟨tyTab, codTab, [], [4], [E_s_l15Pair, E_s_GoodRuns, E_s_l15Text], a_s_ReadRuns⟩
set_option maxHeartbeats 2000000 in
theorem W_s_ReadRuns (a0 : List UInt8) : wtF X_s_ReadRuns Tryd.f39 (a0) = F_s_ReadRuns a0 := by kernel_rfl
theorem OK_s_ReadRuns : EntOK RR E_s_ReadRuns := fn_done (X := X_s_ReadRuns) ⟨tyOK, boolOK, eqOK⟩ (ents_of (by exact ⟨⟨OK_s_l15Pair, rfl⟩, ⟨⟨OK_s_GoodRuns, rfl⟩, ⟨⟨OK_s_l15Text, rfl⟩, trivial⟩⟩⟩)) (cf_ok (by kernel_rfl)) ⟨Tryd.func39, rfl, by kernel_rfl, rfl⟩ (fun x => by exact W_s_ReadRuns x)

/-- strings.Split -/
noncomputable def F_strings_Split (a0 : List UInt8) (a1 : List UInt8) : Option (List (List UInt8)) := F_split a0 a1
noncomputable def E_strings_Split : Ent := ⟨a_strings_Split, fun x => F_strings_Split x.1 x.2⟩
theorem OK_strings_Split : EntOK RR E_strings_Split := split_ent fun _ _ _ _ _ h => Or.inl h

/-- strings.Cut -/
noncomputable def F_strings_Cut (a0 : List UInt8) (a1 : List UInt8) : Option (List UInt8 × List UInt8 × Bool) := F_cut a0 a1
noncomputable def E_strings_Cut : Ent := ⟨a_strings_Cut, fun x => F_strings_Cut x.1 x.2⟩
theorem OK_strings_Cut : EntOK RR E_strings_Cut := cut_ent fun _ _ _ _ _ h => Or.inr (Or.inl h)

/-- strconv.Atoi -/
noncomputable def F_strconv_Atoi (a0 : List UInt8) : Option (Int × Bool) := F_atoi a0
noncomputable def E_strconv_Atoi : Ent := ⟨a_strconv_Atoi, fun x => F_strconv_Atoi x⟩
theorem OK_strconv_Atoi : EntOK RR E_strconv_Atoi := atoi_ent fun _ _ _ _ _ h => Or.inr (Or.inr (Or.inl h))

/-- loop.example/g00409/impl.within -/
noncomputable def F_i_within (a0 : Int) (a1 : Int) (a2 : Int) : Option (Bool) :=
  bif decide (a0 ≥ a1) then
    some (decide (a0 ≤ a2))
  else
  some false
noncomputable def E_i_within : Ent := ⟨a_i_within, fun x => F_i_within x.1 x.2.1 x.2.2⟩
noncomputable def X_i_within : TX := ⟨tyTab, codTab, [], [4], [], a_i_within⟩
set_option maxHeartbeats 2000000 in
theorem W_i_within (a0 : Int) (a1 : Int) (a2 : Int) : wtF X_i_within Tryd.f61 (a0, a1, a2) = F_i_within a0 a1 a2 := by kernel_rfl
theorem OK_i_within : EntOK RR E_i_within := fn_done (X := X_i_within) ⟨tyOK, boolOK, eqOK⟩ (ents_of (by exact trivial)) (cf_ok (by kernel_rfl)) ⟨Tryd.func61, rfl, by kernel_rfl, rfl⟩ (fun x => by exact W_i_within x.1 x.2.1 x.2.2)

/-- loop.example/g00409/impl.GoodRuns -/
noncomputable def B_i_GoodRuns_0 (s0 : (List (Int × Int))) (s1 : Int) (s2 : (List (Int × Int))) (s3 : Int) (s4 : Int) : Option (((List (Int × Int)) × (Int × ((List (Int × Int)) × (Int × Int)))) ⊕ (Unit ⊕ Bool)) :=
  bif decide (s4 < s3) then
    ((getI s2 s4)).bind fun x0 =>
    ((F_i_within x0.1 (0 : Int) (255 : Int))).bind fun x1 =>
    bif (!x1) then
      some (Sum.inr (Sum.inr false))
    else
    ((F_i_within x0.2 (1 : Int) (Go.IntKind.wrap Go.IntKind.i64 ((100 : Int) - s1)))).bind fun x2 =>
    bif (!x2) then
      some (Sum.inr (Sum.inr false))
    else
    bif decide (s4 > (0 : Int)) then
      ((getI s0 (Go.IntKind.wrap Go.IntKind.i64 (s4 - (1 : Int))))).bind fun x3 =>
      bif (x0.1 == x3.1) then
        some (Sum.inr (Sum.inr false))
      else
      some (Sum.inl (s0, ((Go.IntKind.wrap Go.IntKind.i64 (s1 + x0.2)), (s2, (s3, (Go.IntKind.wrap Go.IntKind.i64 (s4 + (1 : Int))))))))
    else
    some (Sum.inl (s0, ((Go.IntKind.wrap Go.IntKind.i64 (s1 + x0.2)), (s2, (s3, (Go.IntKind.wrap Go.IntKind.i64 (s4 + (1 : Int))))))))
  else
  some (Sum.inr (Sum.inl ()))
noncomputable def F_i_GoodRuns (a0 : (List (Int × Int))) : Option (Bool) :=
  (loopM (fun (s : ((List (Int × Int)) × (Int × ((List (Int × Int)) × (Int × Int))))) => B_i_GoodRuns_0 s.1 s.2.1 s.2.2.1 s.2.2.2.1 s.2.2.2.2) (a0, ((0 : Int), (a0, ((((List.length a0) : Nat) : Int), (0 : Int)))))).bind fun x0 =>
  Sum.elim
    (fun x1 =>
    some true)
    (fun x2 =>
    some x2)
    x0
noncomputable def E_i_GoodRuns : Ent := ⟨a_i_GoodRuns, fun x => F_i_GoodRuns x⟩
noncomputable def X_i_GoodRuns : TX := ⟨tyTab, codTab, [], [4], [E_i_within], a_i_GoodRuns⟩
set_option maxHeartbeats 2000000 in
theorem W_i_GoodRuns (a0 : List ((Int × Int))) : wtF X_i_GoodRuns Tryd.f69 (a0) = F_i_GoodRuns a0 := by kernel_rfl
theorem OK_i_GoodRuns : EntOK RR E_i_GoodRuns := fn_done (X := X_i_GoodRuns) ⟨tyOK, boolOK, eqOK⟩ (ents_of (by exact ⟨⟨OK_i_within, rfl⟩, trivial⟩)) (cf_ok (by kernel_rfl)) ⟨Tryd.func69, rfl, by kernel_rfl, rfl⟩ (fun x => by exact W_i_GoodRuns x)

/-- strconv.Itoa -/
noncomputable def F_strconv_Itoa (a0 : Int) : Option (List UInt8) := F_itoa a0
noncomputable def E_strconv_Itoa : Ent := ⟨a_strconv_Itoa, fun x => F_strconv_Itoa x⟩
theorem OK_strconv_Itoa : EntOK RR E_strconv_Itoa := itoa_ent fun _ _ _ _ _ h => Or.inr (Or.inr (Or.inr (Or.inl h)))

/-- strings.Join -/
noncomputable def F_strings_Join (a0 : List (List UInt8)) (a1 : List UInt8) : Option (List UInt8) := F_join a0 a1
noncomputable def E_strings_Join : Ent := ⟨a_strings_Join, fun x => F_strings_Join x.1 x.2⟩
theorem OK_strings_Join : EntOK RR E_strings_Join := join_ent fun _ _ _ _ _ h => Or.inr (Or.inr (Or.inr (Or.inr (h))))

/-- loop.example/g00409/impl.runsText -/
noncomputable def B_i_runsText_0 (s0 : (List (List UInt8))) (s1 : (List (Int × Int))) (s2 : Int) (s3 : Int) : Option (((List (List UInt8)) × ((List (Int × Int)) × (Int × Int))) ⊕ (List (List UInt8))) :=
  bif decide (s3 < s2) then
    ((getI s1 s3)).bind fun x0 =>
    ((F_strconv_Itoa x0.2)).bind fun x1 =>
    ((catS x1 (List.cons 120 List.nil))).bind fun x2 =>
    ((F_strconv_Itoa x0.1)).bind fun x3 =>
    ((catS x2 x3)).bind fun x4 =>
    ((appL 16 1 s0 (List.cons x4 List.nil))).bind fun x5 =>
    some (Sum.inl (x5, (s1, (s2, (Go.IntKind.wrap Go.IntKind.i64 (s3 + (1 : Int)))))))
  else
  some (Sum.inr s0)
noncomputable def F_i_runsText (a0 : (List (Int × Int))) : Option (List UInt8) :=
  (loopM (fun (s : ((List (List UInt8)) × ((List (Int × Int)) × (Int × Int)))) => B_i_runsText_0 s.1 s.2.1 s.2.2.1 s.2.2.2) (List.nil, (a0, ((((List.length a0) : Nat) : Int), (0 : Int))))).bind fun x0 =>
  ((F_strings_Join x0 (List.cons 44 List.nil))).bind fun x1 =>
  some x1
noncomputable def E_i_runsText : Ent := ⟨a_i_runsText, fun x => F_i_runsText x⟩
noncomputable def X_i_runsText : TX := ⟨tyTab, codTab, [], [4], [E_strconv_Itoa, E_strings_Join], a_i_runsText⟩
set_option maxHeartbeats 2000000 in
theorem W_i_runsText (a0 : List ((Int × Int))) : wtF X_i_runsText Tryd.f70 (a0) = F_i_runsText a0 := by kernel_rfl
theorem OK_i_runsText : EntOK RR E_i_runsText := fn_done (X := X_i_runsText) ⟨tyOK, boolOK, eqOK⟩ (ents_of (by exact ⟨⟨OK_strconv_Itoa, rfl⟩, ⟨⟨OK_strings_Join, rfl⟩, trivial⟩⟩)) (cf_ok (by kernel_rfl)) ⟨Tryd.func70, rfl, by kernel_rfl, rfl⟩ (fun x => by exact W_i_runsText x)

/-- loop.example/g00409/impl.ReadRuns -/
noncomputable def B_i_ReadRuns_0 (s0 : (List (Int × Int))) (s1 : (List (List UInt8))) (s2 : (List UInt8)) (s3 : Int) (s4 : Int) : Option (((List (Int × Int)) × ((List (List UInt8)) × ((List UInt8) × (Int × Int)))) ⊕ ((List (Int × Int)) × (List UInt8))) :=
  bif decide (s4 < s3) then
    ((idxI s4 (List.length s1))).bind fun x0 =>
    ((getN s1 x0)).bind fun x1 =>
    ((F_strings_Cut x1 (List.cons 120 List.nil))).bind fun x2 =>
    ((F_strconv_Atoi x2.1)).bind fun x3 =>
    ((F_strconv_Atoi x2.2.1)).bind fun x4 =>
    ((appL 16 2 s0 (List.cons (x4.1, x3.1) List.nil))).bind fun x5 =>
    some (Sum.inl (x5, (s1, (s2, (s3, (Go.IntKind.wrap Go.IntKind.i64 (s4 + (1 : Int))))))))
  else
  some (Sum.inr (s0, s2))
noncomputable def F_i_ReadRuns (a0 : (List UInt8)) : Option (List ((Int × Int)) × Bool) :=
  bif (a0 == List.nil) then
    some (List.nil, true)
  else
  ((F_strings_Split a0 (List.cons 44 List.nil))).bind fun x0 =>
  bif decide ((((List.length x0) : Nat) : Int) > (100 : Int)) then
    some (List.nil, false)
  else
  (loopM (fun (s : ((List (Int × Int)) × ((List (List UInt8)) × ((List UInt8) × (Int × Int))))) => B_i_ReadRuns_0 s.1 s.2.1 s.2.2.1 s.2.2.2.1 s.2.2.2.2) (List.nil, (x0, (a0, ((((List.length x0) : Nat) : Int), (0 : Int)))))).bind fun x1 =>
  ((F_i_GoodRuns x1.1)).bind fun x2 =>
  bif (!x2) then
    some (List.nil, false)
  else
  ((F_i_runsText x1.1)).bind fun x3 =>
  bif (!(x3 == x1.2)) then
    some (List.nil, false)
  else
  some (x1.1, true)
noncomputable def E_i_ReadRuns : Ent := ⟨a_i_ReadRuns, fun x => F_i_ReadRuns x⟩
noncomputable def X_i_ReadRuns : TX := ⟨tyTab, codTab, [], [4], [E_strings_Split, E_strings_Cut, E_strconv_Atoi, E_i_GoodRuns, E_i_runsText], a_i_ReadRuns⟩
set_option maxHeartbeats 2000000 in
theorem W_i_ReadRuns (a0 : List UInt8) : wtF X_i_ReadRuns Tryd.f40 (a0) = F_i_ReadRuns a0 := by kernel_rfl
theorem OK_i_ReadRuns : EntOK RR E_i_ReadRuns := fn_done (X := X_i_ReadRuns) ⟨tyOK, boolOK, eqOK⟩ (ents_of (by exact ⟨⟨OK_strings_Split, rfl⟩, ⟨⟨OK_strings_Cut, rfl⟩, ⟨⟨OK_strconv_Atoi, rfl⟩, ⟨⟨OK_i_GoodRuns, rfl⟩, ⟨⟨OK_i_runsText, rfl⟩, trivial⟩⟩⟩⟩⟩)) (cf_ok (by kernel_rfl)) ⟨Tryd.func40, rfl, by kernel_rfl, rfl⟩ (fun x => by exact W_i_ReadRuns x)

/-- loop.example/g00409/laws.eqRun -/
noncomputable def F_l_eqRun (a0 : (Int × Int)) (a1 : (Int × Int)) : Option (Bool) :=
  bif (a0.1 != a1.1) then
    some false
  else
  bif (a0.2 != a1.2) then
    some false
  else
  some true
noncomputable def E_l_eqRun : Ent := ⟨a_l_eqRun, fun x => F_l_eqRun x.1 x.2⟩
noncomputable def X_l_eqRun : TX := ⟨tyTab, codTab, [], [4], [], a_l_eqRun⟩
set_option maxHeartbeats 2000000 in
theorem W_l_eqRun (a0 : (Int × Int)) (a1 : (Int × Int)) : wtF X_l_eqRun Tryd.f71 (a0, a1) = F_l_eqRun a0 a1 := by kernel_rfl
theorem OK_l_eqRun : EntOK RR E_l_eqRun := fn_done (X := X_l_eqRun) ⟨tyOK, boolOK, eqOK⟩ (ents_of (by exact trivial)) (cf_ok (by kernel_rfl)) ⟨Tryd.func71, rfl, by kernel_rfl, rfl⟩ (fun x => by exact W_l_eqRun x.1 x.2)

/-- loop.example/g00409/laws.eqRunS -/
noncomputable def B_l_eqRunS_0 (s0 : (List (Int × Int))) (s1 : (List (Int × Int))) (s2 : Int) : Option (((List (Int × Int)) × ((List (Int × Int)) × Int)) ⊕ (Unit ⊕ Bool)) :=
  bif decide (s2 < (((List.length s0) : Nat) : Int)) then
    ((getI s0 s2)).bind fun x0 =>
    ((getI s1 s2)).bind fun x1 =>
    ((F_l_eqRun (x0.1, x0.2) (x1.1, x1.2))).bind fun x2 =>
    bif (!x2) then
      some (Sum.inr (Sum.inr false))
    else
    some (Sum.inl (s0, (s1, (Go.IntKind.wrap Go.IntKind.i64 (s2 + (1 : Int))))))
  else
  some (Sum.inr (Sum.inl ()))
noncomputable def F_l_eqRunS (a0 : (List (Int × Int))) (a1 : (List (Int × Int))) : Option (Bool) :=
  bif ((((List.length a0) : Nat) : Int) != (((List.length a1) : Nat) : Int)) then
    some false
  else
  (loopM (fun (s : ((List (Int × Int)) × ((List (Int × Int)) × Int))) => B_l_eqRunS_0 s.1 s.2.1 s.2.2) (a0, (a1, (0 : Int)))).bind fun x0 =>
  Sum.elim
    (fun x1 =>
    some true)
    (fun x2 =>
    some x2)
    x0
noncomputable def E_l_eqRunS : Ent := ⟨a_l_eqRunS, fun x => F_l_eqRunS x.1 x.2⟩
noncomputable def X_l_eqRunS : TX := ⟨tyTab, codTab, [], [4], [E_l_eqRun], a_l_eqRunS⟩
set_option maxHeartbeats 2000000 in
theorem W_l_eqRunS (a0 : List ((Int × Int))) (a1 : List ((Int × Int))) : wtF X_l_eqRunS Tryd.f28 (a0, a1) = F_l_eqRunS a0 a1 := by kernel_rfl
theorem OK_l_eqRunS : EntOK RR E_l_eqRunS := fn_done (X := X_l_eqRunS) ⟨tyOK, boolOK, eqOK⟩ (ents_of (by exact ⟨⟨OK_l_eqRun, rfl⟩, trivial⟩)) (cf_ok (by kernel_rfl)) ⟨Tryd.func28, rfl, by kernel_rfl, rfl⟩ (fun x => by exact W_l_eqRunS x.1 x.2)

/-- loop.example/g00409/laws.markRunS -/
noncomputable def B_l_markRunS_0 (s0 : (List (Int × Int))) (s1 : Int) (s2 : Int) : Option (((List (Int × Int)) × (Int × Int)) ⊕ ((List (Int × Int)) × Int)) :=
  bif decide (s2 < (((List.length s0) : Nat) : Int)) then
    ((idxI s2 (List.length s0))).bind fun x0 =>
    ((getN s0 x0)).bind fun x1 =>
    ((idxI s2 (List.length (List.set s0 x0 (s1, x1.2))))).bind fun x2 =>
    ((getN (List.set s0 x0 (s1, x1.2)) x2)).bind fun x3 =>
    some (Sum.inl ((List.set (List.set s0 x0 (s1, x1.2)) x2 (x3.1, (Go.IntKind.wrap Go.IntKind.i64 (s1 + (1 : Int))))), ((Go.IntKind.wrap Go.IntKind.i64 ((Go.IntKind.wrap Go.IntKind.i64 (s1 + (1 : Int))) + (1 : Int))), (Go.IntKind.wrap Go.IntKind.i64 (s2 + (1 : Int))))))
  else
  some (Sum.inr (s0, s1))
noncomputable def F_l_markRunS (a0 : (List (Int × Int))) (a1 : Int) : Option (List ((Int × Int)) × Int) :=
  (loopM (fun (s : ((List (Int × Int)) × (Int × Int))) => B_l_markRunS_0 s.1 s.2.1 s.2.2) (a0, (a1, (0 : Int)))).bind fun x0 =>
  some (x0.1, x0.2)
noncomputable def E_l_markRunS : Ent := ⟨a_l_markRunS, fun x => F_l_markRunS x.1 x.2⟩
noncomputable def X_l_markRunS : TX := ⟨tyTab, codTab, [], [4], [], a_l_markRunS⟩
set_option maxHeartbeats 2000000 in
theorem W_l_markRunS (a0 : List ((Int × Int))) (a1 : Int) : wtF X_l_markRunS Tryd.f41 (a0, a1) = F_l_markRunS a0 a1 := by kernel_rfl
theorem OK_l_markRunS : EntOK RR E_l_markRunS := fn_done (X := X_l_markRunS) ⟨tyOK, boolOK, eqOK⟩ (ents_of (by exact trivial)) (cf_ok (by kernel_rfl)) ⟨Tryd.func41, rfl, by kernel_rfl, rfl⟩ (fun x => by exact W_l_markRunS x.1 x.2)

/-- loop.example/g00409/laws.heldRunS -/
noncomputable def B_l_heldRunS_0 (s0 : (List (Int × Int))) (s1 : Int) (s2 : Int) : Option (((List (Int × Int)) × (Int × Int)) ⊕ (Int ⊕ Int)) :=
  bif decide (s2 < (((List.length s0) : Nat) : Int)) then
    ((getI s0 s2)).bind fun x0 =>
    bif (x0.1 != s1) then
      some (Sum.inr (Sum.inr (-(1 : Int))))
    else
    ((getI s0 s2)).bind fun x1 =>
    bif (x1.2 != (Go.IntKind.wrap Go.IntKind.i64 (s1 + (1 : Int)))) then
      some (Sum.inr (Sum.inr (-(1 : Int))))
    else
    some (Sum.inl (s0, ((Go.IntKind.wrap Go.IntKind.i64 ((Go.IntKind.wrap Go.IntKind.i64 (s1 + (1 : Int))) + (1 : Int))), (Go.IntKind.wrap Go.IntKind.i64 (s2 + (1 : Int))))))
  else
  some (Sum.inr (Sum.inl s1))
noncomputable def F_l_heldRunS (a0 : (List (Int × Int))) (a1 : Int) : Option (Int) :=
  (loopM (fun (s : ((List (Int × Int)) × (Int × Int))) => B_l_heldRunS_0 s.1 s.2.1 s.2.2) (a0, (a1, (0 : Int)))).bind fun x0 =>
  Sum.elim
    (fun x1 =>
    some x1)
    (fun x2 =>
    some x2)
    x0
noncomputable def E_l_heldRunS : Ent := ⟨a_l_heldRunS, fun x => F_l_heldRunS x.1 x.2⟩
noncomputable def X_l_heldRunS : TX := ⟨tyTab, codTab, [], [4], [], a_l_heldRunS⟩
set_option maxHeartbeats 2000000 in
theorem W_l_heldRunS (a0 : List ((Int × Int))) (a1 : Int) : wtF X_l_heldRunS Tryd.f42 (a0, a1) = F_l_heldRunS a0 a1 := by kernel_rfl
theorem OK_l_heldRunS : EntOK RR E_l_heldRunS := fn_done (X := X_l_heldRunS) ⟨tyOK, boolOK, eqOK⟩ (ents_of (by exact trivial)) (cf_ok (by kernel_rfl)) ⟨Tryd.func42, rfl, by kernel_rfl, rfl⟩ (fun x => by exact W_l_heldRunS x.1 x.2)

/-- loop.example/g00409/laws.FnExactReadRuns -/
noncomputable def F_l_FnExactReadRuns (a0 : (List UInt8)) : Option (Bool) :=
  bif decide ((((List.length a0) : Nat) : Int) > (1048576 : Int)) then
    some true
  else
  ((F_s_ReadRuns a0)).bind fun x0 =>
  ((F_i_ReadRuns a0)).bind fun x1 =>
  ((F_l_eqRunS x1.1 x0.1)).bind fun x2 =>
  bif (!x2) then
    some false
  else
  bif (!(x1.2 == x0.2)) then
    some false
  else
  ((F_l_markRunS x1.1 (1 : Int))).bind fun x3 =>
  bif decide ((List.length x3.1) = (List.length x1.1)) then
    ((F_l_heldRunS x3.1 (1 : Int))).bind fun x4 =>
    bif decide (x4 < (0 : Int)) then
      some false
    else
    bif (x4 != x3.2) then
      some false
    else
    ((F_i_ReadRuns a0)).bind fun x5 =>
    ((F_l_eqRunS x5.1 x0.1)).bind fun x6 =>
    bif (!x6) then
      some false
    else
    bif (!(x5.2 == x0.2)) then
      some false
    else
    ((F_l_heldRunS x3.1 (1 : Int))).bind fun x7 =>
    bif decide (x7 < (0 : Int)) then
      some false
    else
    bif (x7 != x3.2) then
      some false
    else
    some true
  else
  none
noncomputable def E_l_FnExactReadRuns : Ent := ⟨a_l_FnExactReadRuns, fun x => F_l_FnExactReadRuns x⟩
noncomputable def X_l_FnExactReadRuns : TX := ⟨tyTab, codTab, [], [4], [E_s_ReadRuns, E_i_ReadRuns, E_l_eqRunS, E_l_markRunS, E_l_heldRunS], a_l_FnExactReadRuns⟩
set_option maxHeartbeats 2000000 in
theorem W_l_FnExactReadRuns (a0 : List UInt8) : wtF X_l_FnExactReadRuns Tryd.f10 (a0) = F_l_FnExactReadRuns a0 := by kernel_rfl
theorem OK_l_FnExactReadRuns : EntOK RR E_l_FnExactReadRuns := fn_done (X := X_l_FnExactReadRuns) ⟨tyOK, boolOK, eqOK⟩ (ents_of (by exact ⟨⟨OK_s_ReadRuns, rfl⟩, ⟨⟨OK_i_ReadRuns, rfl⟩, ⟨⟨OK_l_eqRunS, rfl⟩, ⟨⟨OK_l_markRunS, rfl⟩, ⟨⟨OK_l_heldRunS, rfl⟩, trivial⟩⟩⟩⟩⟩)) (cf_ok (by kernel_rfl)) ⟨Tryd.func10, rfl, by kernel_rfl, rfl⟩ (fun x => by exact W_l_FnExactReadRuns x)
end Go.Proofs.YtnhibkgoinnmcaaDoor.Ev
