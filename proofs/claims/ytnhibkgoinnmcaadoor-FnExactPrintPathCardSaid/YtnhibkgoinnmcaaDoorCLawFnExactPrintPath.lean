/- The functions that the law FnExactPrintPath reaches: their types, forms and typed texts (made by wip/gen/mk.py). -/
import Derived.Test.YtnhibkgoinnmcaaDoorEvMd
import Derived.Test.YtnhibkgoinnmcaaDoorEvMc
import Derived.Test.YtnhibkgoinnmcaaDoorEvMe
import Derived.Test.YtnhibkgoinnmcaaDoorShc
import Derived.Test.YtnhibkgoinnmcaaDoorProg
import Derived.KernelRfl
namespace Go.Proofs.YtnhibkgoinnmcaaDoor.Ev
open Go
set_option maxRecDepth 100000
set_option linter.unusedVariables false
def tyD3 : TyD := ⟨1, 8, false, [(.v (.int .i64 0))], none, false, (some .i64), [], false⟩
def tyD4 : TyD := ⟨1, 1, false, [(.v (.bool false))], none, false, none, [], false⟩
def tyD5 : TyD := ⟨1, 1, false, [(.v (.int .u8 0))], none, false, (some .u8), [], false⟩
def tyD9 : TyD := ⟨1, 16, false, [(.v (.string ⟨#[]⟩))], none, true, none, [], false⟩
def tyD41 : TyD := ⟨1, 24, false, [.em], (some 5), false, none, [], false⟩
def tyD46 : TyD := ⟨1, 24, false, [.em], (some 103), false, none, [], false⟩
def tyD49 : TyD := ⟨1, 24, false, [.em], (some 106), false, none, [], false⟩
def tyD103 : TyD := ⟨1, 24, false, [.em], (some 135), false, none, [], false⟩
def tyD106 : TyD := ⟨1, 24, false, [.em], (some 110), false, none, [], false⟩
def tyD108 : TyD := ⟨1, 24, false, [.em], (some 9), false, none, [], false⟩
def tyD110 : TyD := ⟨2, 16, true, [(.v (.int .i64 0)), (.v (.int .i64 0))], none, false, none, [⟨0, 3, 1, false⟩, ⟨1, 3, 1, false⟩], false⟩
def tyD135 : TyD := ⟨2, 16, true, [(.v (.int .i64 0)), (.v (.int .i64 0))], none, false, none, [⟨0, 3, 1, false⟩, ⟨1, 3, 1, false⟩], false⟩
theorem ty3 : tyOf Tryd.prog 3 = some tyD3 := by kernel_rfl
theorem ty4 : tyOf Tryd.prog 4 = some tyD4 := by kernel_rfl
theorem ty5 : tyOf Tryd.prog 5 = some tyD5 := by kernel_rfl
theorem ty9 : tyOf Tryd.prog 9 = some tyD9 := by kernel_rfl
theorem ty41 : tyOf Tryd.prog 41 = some tyD41 := by kernel_rfl
theorem ty46 : tyOf Tryd.prog 46 = some tyD46 := by kernel_rfl
theorem ty49 : tyOf Tryd.prog 49 = some tyD49 := by kernel_rfl
theorem ty103 : tyOf Tryd.prog 103 = some tyD103 := by kernel_rfl
theorem ty106 : tyOf Tryd.prog 106 = some tyD106 := by kernel_rfl
theorem ty108 : tyOf Tryd.prog 108 = some tyD108 := by kernel_rfl
theorem ty110 : tyOf Tryd.prog 110 = some tyD110 := by kernel_rfl
theorem ty135 : tyOf Tryd.prog 135 = some tyD135 := by kernel_rfl
def tyTab : List (Nat × TyD) := [(3, tyD3), (4, tyD4), (5, tyD5), (9, tyD9), (41, tyD41), (46, tyD46), (49, tyD49), (103, tyD103), (106, tyD106), (108, tyD108), (110, tyD110), (135, tyD135)]
def codTab : List (Nat × Ty) := [(5, .int .u8), (9, .str), (103, .sl (.pair (.int .i64) (.int .i64))), (106, .sl (.pair (.int .i64) (.int .i64))), (110, .pair (.int .i64) (.int .i64)), (135, .pair (.int .i64) (.int .i64))]
theorem tyOK : ∀ t d, getD tyTab t = some d → tyOf Tryd.prog t = some d := tab_ok (by unfold tyTab; exact ⟨ty3, ⟨ty4, ⟨ty5, ⟨ty9, ⟨ty41, ⟨ty46, ⟨ty49, ⟨ty103, ⟨ty106, ⟨ty108, ⟨ty110, ⟨ty135, trivial⟩⟩⟩⟩⟩⟩⟩⟩⟩⟩⟩⟩)
theorem bool4 : Tryd.prog.underlying 4 = some .bool := by kernel_rfl
theorem boolOK : ∀ t, ([4] : List Nat).contains t = true → Tryd.prog.underlying t = some .bool := by
  intro t h
  simp at h
  rcases h with rfl
  all_goals first | exact bool4
theorem eqOK : ∀ t, ([] : List Nat).contains t = true → EqOK Tryd.prog t := by
  intro t h
  simp at h
  try exact h.elim
def a_l_szPtS : FAnn := ⟨77, 0, [.slot 0 (.cell (.im (.pair (.int .i64) (.int .i64)))), .slot 1 (.cell (.int .i64))], [.slot 0 (.cell (.int .i64))],
  [],
  [],
  []⟩
def a_l_szPtSS : FAnn := ⟨32, 0, [.slot 0 (.cell (.im (.sl (.pair (.int .i64) (.int .i64))))), .slot 1 (.cell (.int .i64))], [.slot 0 (.cell (.int .i64))],
  [(5, [.slot 0 (.cell (.im (.sl (.pair (.int .i64) (.int .i64))))), .slot 1 (.cell (.int .i64)), .slot 5 (.cell (.int .i64))])],
  [(5, [(.exit 0, [.slot 1 (.cell (.int .i64))]), (.ret, [.slot 4 (.cell (.int .i64))])])],
  []⟩
def a_l_toPt : FAnn := ⟨104, 0, [.slot 0 (.agg [.int .i64, .int .i64])], [.slot 0 (.agg [.int .i64, .int .i64])],
  [],
  [],
  []⟩
def a_l_toPtS : FAnn := ⟨80, 0, [.slot 0 (.cell (.im (.pair (.int .i64) (.int .i64))))], [.blk (.arr 110 true (.pair (.int .i64) (.int .i64))), .slot 0 (.ref 0 false)],
  [(3, [.blk (.arr 110 true (.pair (.int .i64) (.int .i64))), .slot 0 (.cell (.im (.pair (.int .i64) (.int .i64)))), .slot 3 (.ref 0 false), .slot 4 (.cell (.int .i64))])],
  [(3, [(.exit 0, [.blk (.arr 110 true (.pair (.int .i64) (.int .i64))), .slot 3 (.ref 0 false)])])],
  []⟩
def a_l_toPtSS : FAnn := ⟨34, 0, [.slot 0 (.cell (.im (.sl (.pair (.int .i64) (.int .i64)))))], [.blk (.arr 106 true (.sl (.pair (.int .i64) (.int .i64)))), .slot 0 (.ref 0 false)],
  [(3, [.blk (.arr 106 true (.sl (.pair (.int .i64) (.int .i64)))), .slot 0 (.cell (.im (.sl (.pair (.int .i64) (.int .i64))))), .slot 3 (.ref 0 false), .slot 4 (.cell (.int .i64))])],
  [(3, [(.exit 0, [.blk (.arr 106 true (.sl (.pair (.int .i64) (.int .i64)))), .slot 3 (.ref 0 false)])])],
  []⟩
def a_s_l1In : FAnn := ⟨52, 0, [.slot 0 (.cell (.int .i64)), .slot 1 (.cell (.int .i64)), .slot 2 (.cell (.int .i64))], [.slot 0 (.cell (.bool))],
  [],
  [],
  []⟩
def a_s_GoodPt : FAnn := ⟨138, 0, [.slot 0 (.agg [.int .i64, .int .i64])], [.slot 0 (.cell (.bool))],
  [],
  [],
  []⟩
def a_s_l8Pts : FAnn := ⟨125, 0, [.slot 0 (.cell (.im (.pair (.int .i64) (.int .i64))))], [.slot 0 (.cell (.bool))],
  [(2, [.slot 5 (.cell (.im (.pair (.int .i64) (.int .i64)))), .slot 6 (.cell (.int .i64)), .slot 7 (.cell (.int .i64))])],
  [(2, [(.exit 0, []), (.ret, [.slot 2 (.cell (.bool))])])],
  []⟩
def a_s_l8Way : FAnn := ⟨103, 0, [.slot 0 (.cell (.im (.pair (.int .i64) (.int .i64))))], [.slot 0 (.cell (.bool))],
  [],
  [],
  []⟩
def a_s_GoodWays : FAnn := ⟨78, 0, [.slot 0 (.cell (.im (.sl (.pair (.int .i64) (.int .i64)))))], [.slot 0 (.cell (.bool))],
  [(2, [.slot 0 (.cell (.im (.sl (.pair (.int .i64) (.int .i64))))), .slot 5 (.cell (.im (.sl (.pair (.int .i64) (.int .i64))))), .slot 6 (.cell (.int .i64)), .slot 7 (.cell (.int .i64))])],
  [(2, [(.exit 0, [.slot 0 (.cell (.im (.sl (.pair (.int .i64) (.int .i64)))))]), (.ret, [.slot 2 (.cell (.bool))])])],
  []⟩
def a_s_l1Num : FAnn := ⟨96, 0, [.slot 0 (.cell (.int .i64))], [.slot 0 (.cell (.str))],
  [],
  [],
  []⟩
def a_s_l16Num : FAnn := ⟨53, 0, [.slot 0 (.cell (.int .i64))], [.slot 0 (.cell (.str))],
  [],
  [],
  []⟩
def a_s_l16Print : FAnn := ⟨79, 0, [.slot 0 (.cell (.im (.sl (.pair (.int .i64) (.int .i64)))))], [.slot 0 (.cell (.str))],
  [(3, [.slot 3 (.cell (.str)), .slot 8 (.cell (.im (.sl (.pair (.int .i64) (.int .i64))))), .slot 9 (.cell (.int .i64)), .slot 10 (.cell (.int .i64))]), (8, [.slot 3 (.cell (.str)), .slot 8 (.cell (.im (.sl (.pair (.int .i64) (.int .i64))))), .slot 9 (.cell (.int .i64)), .slot 10 (.cell (.int .i64)), .slot 19 (.cell (.im (.pair (.int .i64) (.int .i64)))), .slot 20 (.cell (.int .i64)), .slot 21 (.cell (.int .i64))])],
  [(3, [(.exit 0, [.slot 3 (.cell (.str))])]), (8, [(.exit 2, [.slot 3 (.cell (.str)), .slot 8 (.cell (.im (.sl (.pair (.int .i64) (.int .i64))))), .slot 9 (.cell (.int .i64)), .slot 10 (.cell (.int .i64))])])],
  [(7, [.slot 3 (.cell (.str)), .slot 5 (.cell (.im (.pair (.int .i64) (.int .i64)))), .slot 8 (.cell (.im (.sl (.pair (.int .i64) (.int .i64))))), .slot 9 (.cell (.int .i64)), .slot 10 (.cell (.int .i64))]), (13, [.blk (.box 110 [.int .i64, .int .i64]), .slot 3 (.cell (.str)), .slot 7 (.ref 0 true), .slot 8 (.cell (.im (.sl (.pair (.int .i64) (.int .i64))))), .slot 9 (.cell (.int .i64)), .slot 10 (.cell (.int .i64)), .slot 19 (.cell (.im (.pair (.int .i64) (.int .i64)))), .slot 20 (.cell (.int .i64)), .slot 21 (.cell (.int .i64))])]⟩
def a_s_PrintPath : FAnn := ⟨33, 0, [.slot 0 (.cell (.im (.sl (.pair (.int .i64) (.int .i64)))))], [.slot 0 (.cell (.str)), .slot 1 (.cell (.bool))],
  [],
  [],
  []⟩
def a_i_within : FAnn := ⟨61, 0, [.slot 0 (.cell (.int .i64)), .slot 1 (.cell (.int .i64)), .slot 2 (.cell (.int .i64))], [.slot 0 (.cell (.bool))],
  [],
  [],
  []⟩
def a_i_GoodPt : FAnn := ⟨120, 0, [.slot 0 (.agg [.int .i64, .int .i64])], [.slot 0 (.cell (.bool))],
  [],
  [],
  []⟩
def a_i_arePts_1 : FAnn := ⟨145, 0, [.slot 0 (.agg [.int .i64, .int .i64])], [.slot 0 (.cell (.bool))],
  [],
  [],
  []⟩
def a_slices_IndexFunc_Si_Pt_i_Pt : FAnn := ⟨163, 0, [.slot 0 (.cell (.im (.pair (.int .i64) (.int .i64)))), .slot 1 (.clo 145)], [.slot 0 (.cell (.int .i64))],
  [(2, [.slot 0 (.cell (.im (.pair (.int .i64) (.int .i64)))), .slot 1 (.clo 145), .slot 7 (.cell (.int .i64)), .slot 8 (.cell (.int .i64))])],
  [(2, [(.exit 0, []), (.ret, [.slot 4 (.cell (.int .i64))])])],
  []⟩
def a_slices_ContainsFunc_Si_Pt_i_Pt : FAnn := ⟨144, 0, [.slot 0 (.cell (.im (.pair (.int .i64) (.int .i64)))), .slot 1 (.clo 145)], [.slot 0 (.cell (.bool))],
  [],
  [],
  []⟩
def a_i_arePts : FAnn := ⟨127, 0, [.slot 0 (.cell (.im (.pair (.int .i64) (.int .i64))))], [.slot 0 (.cell (.bool))],
  [],
  [],
  []⟩
def a_i_isWay : FAnn := ⟨107, 0, [.slot 0 (.cell (.im (.pair (.int .i64) (.int .i64))))], [.slot 0 (.cell (.bool))],
  [],
  [],
  []⟩
def a_i_GoodWays_1 : FAnn := ⟨106, 0, [.slot 0 (.cell (.im (.pair (.int .i64) (.int .i64))))], [.slot 0 (.cell (.bool))],
  [],
  [],
  []⟩
def a_slices_IndexFunc_SSi_Pt_Si_Pt : FAnn := ⟨126, 0, [.slot 0 (.cell (.im (.sl (.pair (.int .i64) (.int .i64))))), .slot 1 (.clo 106)], [.slot 0 (.cell (.int .i64))],
  [(2, [.slot 0 (.cell (.im (.sl (.pair (.int .i64) (.int .i64))))), .slot 1 (.clo 106), .slot 7 (.cell (.int .i64)), .slot 8 (.cell (.int .i64))])],
  [(2, [(.exit 0, []), (.ret, [.slot 4 (.cell (.int .i64))])])],
  []⟩
def a_slices_ContainsFunc_SSi_Pt_Si_Pt : FAnn := ⟨105, 0, [.slot 0 (.cell (.im (.sl (.pair (.int .i64) (.int .i64))))), .slot 1 (.clo 106)], [.slot 0 (.cell (.bool))],
  [],
  [],
  []⟩
def a_i_GoodWays : FAnn := ⟨81, 0, [.slot 0 (.cell (.im (.sl (.pair (.int .i64) (.int .i64)))))], [.slot 0 (.cell (.bool))],
  [],
  [],
  []⟩
def a_strconv_Itoa : FAnn := ⟨55, 0, [.slot 0 (.cell (.int .i64))], [.slot 0 (.cell (.str))],
  [],
  [],
  []⟩
def a_strings_Join : FAnn := ⟨82, 0, [.slot 0 (.cell (.im (.str))), .slot 1 (.cell (.str))], [.slot 0 (.cell (.str))],
  [],
  [],
  []⟩
def a_i_PrintPath : FAnn := ⟨35, 0, [.slot 0 (.cell (.im (.sl (.pair (.int .i64) (.int .i64)))))], [.slot 0 (.cell (.str)), .slot 1 (.cell (.bool))],
  [(5, [.blk (.arr 9 true (.str)), .slot 4 (.ref 0 false), .slot 15 (.cell (.im (.sl (.pair (.int .i64) (.int .i64))))), .slot 16 (.cell (.int .i64)), .slot 17 (.cell (.int .i64))]), (8, [.blk (.arr 9 true (.str)), .slot 4 (.ref 0 false), .slot 15 (.cell (.im (.sl (.pair (.int .i64) (.int .i64))))), .slot 16 (.cell (.int .i64)), .slot 17 (.cell (.int .i64)), .slot 21 (.cell (.im (.pair (.int .i64) (.int .i64)))), .slot 22 (.cell (.int .i64)), .slot 23 (.cell (.int .i64))])],
  [(5, [(.exit 0, [.blk (.arr 9 true (.str)), .slot 4 (.ref 0 false)])]), (8, [(.exit 2, [.blk (.arr 9 true (.str)), .slot 4 (.ref 0 false), .slot 15 (.cell (.im (.sl (.pair (.int .i64) (.int .i64))))), .slot 16 (.cell (.int .i64)), .slot 17 (.cell (.int .i64))])])],
  [(13, [.blk (.arr 9 true (.str)), .blk (.box 110 [.int .i64, .int .i64]), .slot 4 (.ref 0 false), .slot 8 (.ref 1 true), .slot 9 (.cell (.str)), .slot 15 (.cell (.im (.sl (.pair (.int .i64) (.int .i64))))), .slot 16 (.cell (.int .i64)), .slot 17 (.cell (.int .i64)), .slot 21 (.cell (.im (.pair (.int .i64) (.int .i64)))), .slot 22 (.cell (.int .i64)), .slot 23 (.cell (.int .i64))])]⟩
def a_l_eqPt : FAnn := ⟨109, 0, [.slot 0 (.agg [.int .i64, .int .i64]), .slot 1 (.agg [.int .i64, .int .i64])], [.slot 0 (.cell (.bool))],
  [],
  [],
  []⟩
def a_l_eqPtS : FAnn := ⟨83, 0, [.slot 0 (.cell (.im (.pair (.int .i64) (.int .i64)))), .slot 1 (.cell (.im (.pair (.int .i64) (.int .i64))))], [.slot 0 (.cell (.bool))],
  [(4, [.slot 0 (.cell (.im (.pair (.int .i64) (.int .i64)))), .slot 1 (.cell (.im (.pair (.int .i64) (.int .i64)))), .slot 5 (.cell (.int .i64))])],
  [(4, [(.exit 0, []), (.ret, [.slot 4 (.cell (.bool))])])],
  []⟩
def a_l_eqPtSS : FAnn := ⟨36, 0, [.slot 0 (.cell (.im (.sl (.pair (.int .i64) (.int .i64))))), .slot 1 (.cell (.im (.sl (.pair (.int .i64) (.int .i64)))))], [.slot 0 (.cell (.bool))],
  [(4, [.slot 0 (.cell (.im (.sl (.pair (.int .i64) (.int .i64))))), .slot 1 (.cell (.im (.sl (.pair (.int .i64) (.int .i64))))), .slot 5 (.cell (.int .i64))])],
  [(4, [(.exit 0, []), (.ret, [.slot 4 (.cell (.bool))])])],
  []⟩
def a_l_FnExactPrintPath : FAnn := ⟨8, 0, [.slot 0 (.cell (.im (.sl (.pair (.int .i64) (.int .i64)))))], [.slot 0 (.cell (.bool))],
  [],
  [],
  []⟩
def annTab : List FAnn := [a_l_szPtS, a_l_szPtSS, a_l_toPt, a_l_toPtS, a_l_toPtSS, a_s_l1In, a_s_GoodPt, a_s_l8Pts, a_s_l8Way, a_s_GoodWays, a_s_l1Num, a_s_l16Num, a_s_l16Print, a_s_PrintPath, a_i_within, a_i_GoodPt, a_i_arePts_1, a_slices_IndexFunc_Si_Pt_i_Pt, a_slices_ContainsFunc_Si_Pt_i_Pt, a_i_arePts, a_i_isWay, a_i_GoodWays_1, a_slices_IndexFunc_SSi_Pt_Si_Pt, a_slices_ContainsFunc_SSi_Pt_Si_Pt, a_i_GoodWays, a_strconv_Itoa, a_strings_Join, a_i_PrintPath, a_l_eqPt, a_l_eqPtS, a_l_eqPtSS, a_l_FnExactPrintPath]
def noExt : Rel := fun _ _ _ _ _ => False
def ext0 : Rel := fun g args blks r blks' => itoaRel 55 g args blks r blks' ∨ joinRel 82 g args blks r blks'
theorem ent_itoa : Ent0 Tryd.prog 55 := ⟨Tryd.f55, Tryd.func55, by kernel_rfl, by kernel_rfl⟩
theorem ent_join : Ent0 Tryd.prog 82 := ⟨Tryd.f82, Tryd.func82, by kernel_rfl, by kernel_rfl⟩
structure LibJ (J : Tabs) : Prop where
  tab : JTab Tryd.prog J "internal/strconv.uint64pow10" .u64 Lib.pow10Tab
theorem ext_spec {J : Tabs} (hJ : LibJ J) : ∀ g args blks r blks', ext0 g args blks r blks' → CSpec Tryd.prog J g args blks r blks' := by
  intro g args blks r blks' h
  rcases h with h | h
  · exact itoa_spec ent_itoa Tryd.strconv_Itoa hJ.tab _ _ _ _ _ h
  · exact join_spec ent_join Tryd.strings_Join_none Tryd.strings_Join _ _ _ _ _ h
def cf0 : Cfg := cfOf annTab fun g => ([55, 82] : List Nat).contains g
abbrev RR : Rel := Runs Tryd.prog cf0 ext0

/-- loop.example/g00409/laws.szPtS -/
noncomputable def F_l_szPtS (a0 : (List (Int × Int))) (a1 : Int) : Option (Int) :=
  bif decide ((Go.IntKind.wrap Go.IntKind.i64 (a1 - (((List.length a0) : Nat) : Int))) < (0 : Int)) then
    some (-(1 : Int))
  else
  some (Go.IntKind.wrap Go.IntKind.i64 (a1 - (((List.length a0) : Nat) : Int)))
noncomputable def E_l_szPtS : Ent := ⟨a_l_szPtS, fun x => F_l_szPtS x.1 x.2⟩
noncomputable def X_l_szPtS : TX := ⟨tyTab, codTab, [], [4], [], a_l_szPtS⟩
set_option maxHeartbeats 2000000 in
theorem W_l_szPtS (a0 : List ((Int × Int))) (a1 : Int) : wtF X_l_szPtS Tryd.f77 (a0, a1) = F_l_szPtS a0 a1 := by kernel_rfl
theorem OK_l_szPtS : EntOK RR E_l_szPtS := fn_done (X := X_l_szPtS) ⟨tyOK, boolOK, eqOK⟩ (ents_of (by exact trivial)) (cf_ok (by kernel_rfl)) ⟨Tryd.func77, rfl, by kernel_rfl, rfl⟩ (fun x => by exact W_l_szPtS x.1 x.2)

/-- loop.example/g00409/laws.szPtSS -/
noncomputable def B_l_szPtSS_0 (s0 : (List (List (Int × Int)))) (s1 : Int) (s2 : Int) : Option (((List (List (Int × Int))) × (Int × Int)) ⊕ (Int ⊕ Int)) :=
  bif decide (s2 < (((List.length s0) : Nat) : Int)) then
    ((getI s0 s2)).bind fun x0 =>
    ((F_l_szPtS x0 s1)).bind fun x1 =>
    bif decide (x1 < (0 : Int)) then
      some (Sum.inr (Sum.inr (-(1 : Int))))
    else
    some (Sum.inl (s0, (x1, (Go.IntKind.wrap Go.IntKind.i64 (s2 + (1 : Int))))))
  else
  some (Sum.inr (Sum.inl s1))
noncomputable def F_l_szPtSS (a0 : (List (List (Int × Int)))) (a1 : Int) : Option (Int) :=
  bif decide ((Go.IntKind.wrap Go.IntKind.i64 (a1 - (((List.length a0) : Nat) : Int))) < (0 : Int)) then
    some (-(1 : Int))
  else
  (loopM (fun (s : ((List (List (Int × Int))) × (Int × Int))) => B_l_szPtSS_0 s.1 s.2.1 s.2.2) (a0, ((Go.IntKind.wrap Go.IntKind.i64 (a1 - (((List.length a0) : Nat) : Int))), (0 : Int)))).bind fun x0 =>
  Sum.elim
    (fun x1 =>
    some x1)
    (fun x2 =>
    some x2)
    x0
noncomputable def E_l_szPtSS : Ent := ⟨a_l_szPtSS, fun x => F_l_szPtSS x.1 x.2⟩
noncomputable def X_l_szPtSS : TX := ⟨tyTab, codTab, [], [4], [E_l_szPtS], a_l_szPtSS⟩
set_option maxHeartbeats 2000000 in
theorem W_l_szPtSS (a0 : List (List ((Int × Int)))) (a1 : Int) : wtF X_l_szPtSS Tryd.f32 (a0, a1) = F_l_szPtSS a0 a1 := by kernel_rfl
theorem OK_l_szPtSS : EntOK RR E_l_szPtSS := fn_done (X := X_l_szPtSS) ⟨tyOK, boolOK, eqOK⟩ (ents_of (by exact ⟨⟨OK_l_szPtS, rfl⟩, trivial⟩)) (cf_ok (by kernel_rfl)) ⟨Tryd.func32, rfl, by kernel_rfl, rfl⟩ (fun x => by exact W_l_szPtSS x.1 x.2)

/-- loop.example/g00409/laws.toPt -/
noncomputable def F_l_toPt (a0 : (Int × Int)) : Option ((Int × Int)) :=
  some (a0.1, a0.2)
noncomputable def E_l_toPt : Ent := ⟨a_l_toPt, fun x => F_l_toPt x⟩
noncomputable def X_l_toPt : TX := ⟨tyTab, codTab, [], [4], [], a_l_toPt⟩
set_option maxHeartbeats 2000000 in
theorem W_l_toPt (a0 : (Int × Int)) : wtF X_l_toPt Tryd.f104 (a0) = F_l_toPt a0 := by kernel_rfl
theorem OK_l_toPt : EntOK RR E_l_toPt := fn_done (X := X_l_toPt) ⟨tyOK, boolOK, eqOK⟩ (ents_of (by exact trivial)) (cf_ok (by kernel_rfl)) ⟨Tryd.func104, rfl, by kernel_rfl, rfl⟩ (fun x => by exact W_l_toPt x)

/-- loop.example/g00409/laws.toPtS -/
noncomputable def B_l_toPtS_0 (s0 : (List (Int × Int))) (s1 : (List (Int × Int))) (s2 : Int) : Option (((List (Int × Int)) × ((List (Int × Int)) × Int)) ⊕ (List (Int × Int))) :=
  bif decide (s2 < (((List.length s1) : Nat) : Int)) then
    ((getI s1 s2)).bind fun x0 =>
    ((F_l_toPt (x0.1, x0.2))).bind fun x1 =>
    ((idxI s2 (List.length s0))).bind fun x2 =>
    ((getN s0 x2)).bind fun x3 =>
    some (Sum.inl ((List.set s0 x2 (x1.1, x1.2)), (s1, (Go.IntKind.wrap Go.IntKind.i64 (s2 + (1 : Int))))))
  else
  some (Sum.inr s0)
noncomputable def F_l_toPtS (a0 : (List (Int × Int))) : Option (List ((Int × Int))) :=
  ((lenI (((List.length a0) : Nat) : Int) 16 2)).bind fun x0 =>
  (loopM (fun (s : ((List (Int × Int)) × ((List (Int × Int)) × Int))) => B_l_toPtS_0 s.1 s.2.1 s.2.2) ((List.replicate x0 ((0 : Int), (0 : Int))), (a0, (0 : Int)))).bind fun x1 =>
  some x1
noncomputable def E_l_toPtS : Ent := ⟨a_l_toPtS, fun x => F_l_toPtS x⟩
noncomputable def X_l_toPtS : TX := ⟨tyTab, codTab, [], [4], [E_l_toPt], a_l_toPtS⟩
set_option maxHeartbeats 2000000 in
theorem W_l_toPtS (a0 : List ((Int × Int))) : wtF X_l_toPtS Tryd.f80 (a0) = F_l_toPtS a0 := by kernel_rfl
theorem OK_l_toPtS : EntOK RR E_l_toPtS := fn_done (X := X_l_toPtS) ⟨tyOK, boolOK, eqOK⟩ (ents_of (by exact ⟨⟨OK_l_toPt, rfl⟩, trivial⟩)) (cf_ok (by kernel_rfl)) ⟨Tryd.func80, rfl, by kernel_rfl, rfl⟩ (fun x => by exact W_l_toPtS x)

/-- loop.example/g00409/laws.toPtSS -/
noncomputable def B_l_toPtSS_0 (s0 : (List (List (Int × Int)))) (s1 : (List (List (Int × Int)))) (s2 : Int) : Option (((List (List (Int × Int))) × ((List (List (Int × Int))) × Int)) ⊕ (List (List (Int × Int)))) :=
  bif decide (s2 < (((List.length s1) : Nat) : Int)) then
    ((getI s1 s2)).bind fun x0 =>
    ((F_l_toPtS x0)).bind fun x1 =>
    ((idxI s2 (List.length s0))).bind fun x2 =>
    ((getN s0 x2)).bind fun x3 =>
    some (Sum.inl ((List.set s0 x2 x1), (s1, (Go.IntKind.wrap Go.IntKind.i64 (s2 + (1 : Int))))))
  else
  some (Sum.inr s0)
noncomputable def F_l_toPtSS (a0 : (List (List (Int × Int)))) : Option (List (List ((Int × Int)))) :=
  ((lenI (((List.length a0) : Nat) : Int) 24 1)).bind fun x0 =>
  (loopM (fun (s : ((List (List (Int × Int))) × ((List (List (Int × Int))) × Int))) => B_l_toPtSS_0 s.1 s.2.1 s.2.2) ((List.replicate x0 List.nil), (a0, (0 : Int)))).bind fun x1 =>
  some x1
noncomputable def E_l_toPtSS : Ent := ⟨a_l_toPtSS, fun x => F_l_toPtSS x⟩
noncomputable def X_l_toPtSS : TX := ⟨tyTab, codTab, [], [4], [E_l_toPtS], a_l_toPtSS⟩
set_option maxHeartbeats 2000000 in
theorem W_l_toPtSS (a0 : List (List ((Int × Int)))) : wtF X_l_toPtSS Tryd.f34 (a0) = F_l_toPtSS a0 := by kernel_rfl
theorem OK_l_toPtSS : EntOK RR E_l_toPtSS := fn_done (X := X_l_toPtSS) ⟨tyOK, boolOK, eqOK⟩ (ents_of (by exact ⟨⟨OK_l_toPtS, rfl⟩, trivial⟩)) (cf_ok (by kernel_rfl)) ⟨Tryd.func34, rfl, by kernel_rfl, rfl⟩ (fun x => by exact W_l_toPtSS x)

/-- loop.example/g00409/spec.l1In -/
noncomputable def F_s_l1In (a0 : Int) (a1 : Int) (a2 : Int) : Option (Bool) :=
  bif decide (a0 ≥ a1) then
    some (decide (a0 ≤ a2))
  else
  some false
noncomputable def E_s_l1In : Ent := ⟨a_s_l1In, fun x => F_s_l1In x.1 x.2.1 x.2.2⟩
noncomputable def X_s_l1In : TX := ⟨tyTab, codTab, [], [4], [], a_s_l1In⟩
set_option maxHeartbeats 2000000 in
theorem W_s_l1In (a0 : Int) (a1 : Int) (a2 : Int) : wtF X_s_l1In Tryd.f52 (a0, a1, a2) = F_s_l1In a0 a1 a2 := by kernel_rfl
theorem OK_s_l1In : EntOK RR E_s_l1In := fn_done (X := X_s_l1In) ⟨tyOK, boolOK, eqOK⟩ (ents_of (by exact trivial)) (cf_ok (by kernel_rfl)) ⟨Tryd.func52, rfl, by kernel_rfl, rfl⟩ (fun x => by exact W_s_l1In x.1 x.2.1 x.2.2)

/-- loop.example/g00409/spec.GoodPt -/
noncomputable def F_s_GoodPt (a0 : (Int × Int)) : Option (Bool) :=
  ((F_s_l1In a0.1 (-(1000 : Int)) (1000 : Int))).bind fun x0 =>
  bif x0 then
    ((F_s_l1In a0.2 (-(1000 : Int)) (1000 : Int))).bind fun x1 =>
    some x1
  else
  some false
noncomputable def E_s_GoodPt : Ent := ⟨a_s_GoodPt, fun x => F_s_GoodPt x⟩
noncomputable def X_s_GoodPt : TX := ⟨tyTab, codTab, [], [4], [E_s_l1In], a_s_GoodPt⟩
set_option maxHeartbeats 2000000 in
theorem W_s_GoodPt (a0 : (Int × Int)) : wtF X_s_GoodPt Tryd.f138 (a0) = F_s_GoodPt a0 := by kernel_rfl
theorem OK_s_GoodPt : EntOK RR E_s_GoodPt := fn_done (X := X_s_GoodPt) ⟨tyOK, boolOK, eqOK⟩ (ents_of (by exact ⟨⟨OK_s_l1In, rfl⟩, trivial⟩)) (cf_ok (by kernel_rfl)) ⟨Tryd.func138, rfl, by kernel_rfl, rfl⟩ (fun x => by exact W_s_GoodPt x)

/-- loop.example/g00409/spec.l8Pts -/
noncomputable def B_s_l8Pts_0 (s0 : (List (Int × Int))) (s1 : Int) (s2 : Int) : Option (((List (Int × Int)) × (Int × Int)) ⊕ (Unit ⊕ Bool)) :=
  bif decide (s2 < s1) then
    ((getI s0 s2)).bind fun x0 =>
    ((F_s_GoodPt (x0.1, x0.2))).bind fun x1 =>
    bif (!x1) then
      some (Sum.inr (Sum.inr false))
    else
    some (Sum.inl (s0, (s1, (Go.IntKind.wrap Go.IntKind.i64 (s2 + (1 : Int))))))
  else
  some (Sum.inr (Sum.inl ()))
noncomputable def F_s_l8Pts (a0 : (List (Int × Int))) : Option (Bool) :=
  (loopM (fun (s : ((List (Int × Int)) × (Int × Int))) => B_s_l8Pts_0 s.1 s.2.1 s.2.2) (a0, ((((List.length a0) : Nat) : Int), (0 : Int)))).bind fun x0 =>
  Sum.elim
    (fun x1 =>
    some true)
    (fun x2 =>
    some x2)
    x0
noncomputable def E_s_l8Pts : Ent := ⟨a_s_l8Pts, fun x => F_s_l8Pts x⟩
noncomputable def X_s_l8Pts : TX := ⟨tyTab, codTab, [], [4], [E_s_GoodPt], a_s_l8Pts⟩
set_option maxHeartbeats 2000000 in
theorem W_s_l8Pts (a0 : List ((Int × Int))) : wtF X_s_l8Pts Tryd.f125 (a0) = F_s_l8Pts a0 := by kernel_rfl
theorem OK_s_l8Pts : EntOK RR E_s_l8Pts := fn_done (X := X_s_l8Pts) ⟨tyOK, boolOK, eqOK⟩ (ents_of (by exact ⟨⟨OK_s_GoodPt, rfl⟩, trivial⟩)) (cf_ok (by kernel_rfl)) ⟨Tryd.func125, rfl, by kernel_rfl, rfl⟩ (fun x => by exact W_s_l8Pts x)

/-- loop.example/g00409/spec.l8Way -/
noncomputable def F_s_l8Way (a0 : (List (Int × Int))) : Option (Bool) :=
  ((F_s_l1In (((List.length a0) : Nat) : Int) (3 : Int) (12 : Int))).bind fun x0 =>
  bif x0 then
    ((F_s_l8Pts a0)).bind fun x1 =>
    some x1
  else
  some false
noncomputable def E_s_l8Way : Ent := ⟨a_s_l8Way, fun x => F_s_l8Way x⟩
noncomputable def X_s_l8Way : TX := ⟨tyTab, codTab, [], [4], [E_s_l1In, E_s_l8Pts], a_s_l8Way⟩
set_option maxHeartbeats 2000000 in
theorem W_s_l8Way (a0 : List ((Int × Int))) : wtF X_s_l8Way Tryd.f103 (a0) = F_s_l8Way a0 := by kernel_rfl
theorem OK_s_l8Way : EntOK RR E_s_l8Way := fn_done (X := X_s_l8Way) ⟨tyOK, boolOK, eqOK⟩ (ents_of (by exact ⟨⟨OK_s_l1In, rfl⟩, ⟨⟨OK_s_l8Pts, rfl⟩, trivial⟩⟩)) (cf_ok (by kernel_rfl)) ⟨Tryd.func103, rfl, by kernel_rfl, rfl⟩ (fun x => by exact W_s_l8Way x)

/-- loop.example/g00409/spec.GoodWays -/
noncomputable def B_s_GoodWays_0 (s0 : (List (List (Int × Int)))) (s1 : (List (List (Int × Int)))) (s2 : Int) (s3 : Int) : Option (((List (List (Int × Int))) × ((List (List (Int × Int))) × (Int × Int))) ⊕ ((List (List (Int × Int))) ⊕ Bool)) :=
  bif decide (s3 < s2) then
    ((getI s1 s3)).bind fun x0 =>
    ((F_s_l8Way x0)).bind fun x1 =>
    bif (!x1) then
      some (Sum.inr (Sum.inr false))
    else
    some (Sum.inl (s0, (s1, (s2, (Go.IntKind.wrap Go.IntKind.i64 (s3 + (1 : Int)))))))
  else
  some (Sum.inr (Sum.inl s0))
noncomputable def F_s_GoodWays (a0 : (List (List (Int × Int)))) : Option (Bool) :=
  (loopM (fun (s : ((List (List (Int × Int))) × ((List (List (Int × Int))) × (Int × Int)))) => B_s_GoodWays_0 s.1 s.2.1 s.2.2.1 s.2.2.2) (a0, (a0, ((((List.length a0) : Nat) : Int), (0 : Int))))).bind fun x0 =>
  Sum.elim
    (fun x1 =>
    ((F_s_l1In (((List.length x1) : Nat) : Int) (1 : Int) (4 : Int))).bind fun x2 =>
    some x2)
    (fun x3 =>
    some x3)
    x0
noncomputable def E_s_GoodWays : Ent := ⟨a_s_GoodWays, fun x => F_s_GoodWays x⟩
noncomputable def X_s_GoodWays : TX := ⟨tyTab, codTab, [], [4], [E_s_l8Way, E_s_l1In], a_s_GoodWays⟩
set_option maxHeartbeats 2000000 in
theorem W_s_GoodWays (a0 : List (List ((Int × Int)))) : wtF X_s_GoodWays Tryd.f78 (a0) = F_s_GoodWays a0 := by kernel_rfl
theorem OK_s_GoodWays : EntOK RR E_s_GoodWays := fn_done (X := X_s_GoodWays) ⟨tyOK, boolOK, eqOK⟩ (ents_of (by exact ⟨⟨OK_s_l8Way, rfl⟩, ⟨⟨OK_s_l1In, rfl⟩, trivial⟩⟩)) (cf_ok (by kernel_rfl)) ⟨Tryd.func78, rfl, by kernel_rfl, rfl⟩ (fun x => by exact W_s_GoodWays x)

/-- loop.example/g00409/spec.l1Num -/
noncomputable def G_s_l1Num (self : (Int) → Option (List UInt8)) (a0 : Int) : Option (List UInt8) :=
  bif decide (a0 < (10 : Int)) then
    some (strOf (List.cons (Go.IntKind.wrap Go.IntKind.u8 (Go.IntKind.wrap Go.IntKind.i64 ((48 : Int) + a0))) List.nil))
  else
  ((self (Go.IntKind.wrap Go.IntKind.i64 (Int.tdiv a0 (10 : Int))))).bind fun x0 =>
  ((catS x0 (strOf (List.cons (Go.IntKind.wrap Go.IntKind.u8 (Go.IntKind.wrap Go.IntKind.i64 ((48 : Int) + (Int.tmod a0 (10 : Int))))) List.nil)))).bind fun x1 =>
  some x1
noncomputable def R_s_l1Num : Nat → (Int) → Option (List UInt8)
  | 0 => fun _ => none
  | n + 1 => G_s_l1Num (R_s_l1Num n)
noncomputable def Ea_s_l1Num (self : (Int) → Option (List UInt8)) : Ent := ⟨a_s_l1Num, fun x => self x⟩
noncomputable def X_s_l1Num (self : (Int) → Option (List UInt8)) : TX := ⟨tyTab, codTab, [], [4], [Ea_s_l1Num self], a_s_l1Num⟩
set_option maxHeartbeats 2000000 in
theorem W_s_l1Num (self : (Int) → Option (List UInt8)) (a0 : Int) : wtF (X_s_l1Num self) Tryd.f96 (a0) = G_s_l1Num self a0 := by kernel_rfl
theorem OKr_s_l1Num : ∀ n, EntOK RR (Ea_s_l1Num (R_s_l1Num n))
  | 0 => fun x y _ _ _ h => by cases h
  | n + 1 => fn_done (X := X_s_l1Num (R_s_l1Num n)) ⟨tyOK, boolOK, eqOK⟩ (ents_of (by exact ⟨⟨OKr_s_l1Num n, rfl⟩, trivial⟩)) (cf_ok (by kernel_rfl)) ⟨Tryd.func96, rfl, by kernel_rfl, rfl⟩ (fun x => by exact W_s_l1Num (R_s_l1Num n) x)
noncomputable def F_s_l1Num (a0 : Int) : Option (List UInt8) := R_s_l1Num (a0.toNat + 1) a0
noncomputable def E_s_l1Num : Ent := ⟨a_s_l1Num, fun x => F_s_l1Num x⟩
theorem OK_s_l1Num : EntOK RR E_s_l1Num := fun x => OKr_s_l1Num _ x

/-- loop.example/g00409/spec.l16Num -/
noncomputable def F_s_l16Num (a0 : Int) : Option (List UInt8) :=
  bif decide (a0 < (0 : Int)) then
    ((F_s_l1Num (Go.IntKind.wrap Go.IntKind.i64 ((0 : Int) - a0)))).bind fun x0 =>
    ((catS (List.cons 45 List.nil) x0)).bind fun x1 =>
    some x1
  else
  ((F_s_l1Num a0)).bind fun x2 =>
  some x2
noncomputable def E_s_l16Num : Ent := ⟨a_s_l16Num, fun x => F_s_l16Num x⟩
noncomputable def X_s_l16Num : TX := ⟨tyTab, codTab, [], [4], [E_s_l1Num], a_s_l16Num⟩
set_option maxHeartbeats 2000000 in
theorem W_s_l16Num (a0 : Int) : wtF X_s_l16Num Tryd.f53 (a0) = F_s_l16Num a0 := by kernel_rfl
theorem OK_s_l16Num : EntOK RR E_s_l16Num := fn_done (X := X_s_l16Num) ⟨tyOK, boolOK, eqOK⟩ (ents_of (by exact ⟨⟨OK_s_l1Num, rfl⟩, trivial⟩)) (cf_ok (by kernel_rfl)) ⟨Tryd.func53, rfl, by kernel_rfl, rfl⟩ (fun x => by exact W_s_l16Num x)

/-- loop.example/g00409/spec.l16Print -/
noncomputable def B_s_l16Print_1 (s0 : (List UInt8)) (s1 : (List (List (Int × Int)))) (s2 : Int) (s3 : Int) (s4 : (List (Int × Int))) (s5 : Int) (s6 : Int) : Option (((List UInt8) × ((List (List (Int × Int))) × (Int × (Int × ((List (Int × Int)) × (Int × Int)))))) ⊕ ((List UInt8) × ((List (List (Int × Int))) × (Int × Int)))) :=
  bif decide (s6 < s5) then
    ((getI s4 s6)).bind fun x0 =>
    (bif (s6 == (0 : Int)) then
        ((catS s0 (List.cons 77 (List.cons 32 List.nil)))).bind fun x1 =>
        some (Sum.inr ((x0.1, x0.2), (x1, (s1, (s2, (s3, (s4, (s5, s6))))))))
      else
      ((catS s0 (List.cons 76 (List.cons 32 List.nil)))).bind fun x2 =>
      some (Sum.inr ((x0.1, x0.2), (x2, (s1, (s2, (s3, (s4, (s5, s6))))))))).bind fun x3 =>
    Sum.elim
      (fun x4 =>
      some x4)
      (fun x5 =>
      ((F_s_l16Num x5.1.1)).bind fun x6 =>
      ((catS x6 (List.cons 32 List.nil))).bind fun x7 =>
      ((F_s_l16Num x5.1.2)).bind fun x8 =>
      ((catS x7 x8)).bind fun x9 =>
      ((catS x9 (List.cons 32 List.nil))).bind fun x10 =>
      ((catS x5.2.1 x10)).bind fun x11 =>
      some (Sum.inl (x11, (x5.2.2.1, (x5.2.2.2.1, (x5.2.2.2.2.1, (x5.2.2.2.2.2.1, (x5.2.2.2.2.2.2.1, (Go.IntKind.wrap Go.IntKind.i64 (x5.2.2.2.2.2.2.2 + (1 : Int)))))))))))
      x3
  else
  some (Sum.inr (s0, (s1, (s2, s3))))
noncomputable def B_s_l16Print_0 (s0 : (List UInt8)) (s1 : (List (List (Int × Int)))) (s2 : Int) (s3 : Int) : Option (((List UInt8) × ((List (List (Int × Int))) × (Int × Int))) ⊕ (List UInt8)) :=
  bif decide (s3 < s2) then
    ((getI s1 s3)).bind fun x0 =>
    (bif decide (s3 > (0 : Int)) then
        ((catS s0 (List.cons 32 List.nil))).bind fun x1 =>
        some (Sum.inr (x1, (x0, (s1, (s2, s3)))))
      else
      some (Sum.inr (s0, (x0, (s1, (s2, s3)))))).bind fun x2 =>
    Sum.elim
      (fun x3 =>
      some x3)
      (fun x4 =>
      (loopM (fun (s : ((List UInt8) × ((List (List (Int × Int))) × (Int × (Int × ((List (Int × Int)) × (Int × Int))))))) => B_s_l16Print_1 s.1 s.2.1 s.2.2.1 s.2.2.2.1 s.2.2.2.2.1 s.2.2.2.2.2.1 s.2.2.2.2.2.2) (x4.1, (x4.2.2.1, (x4.2.2.2.1, (x4.2.2.2.2, (x4.2.1, ((((List.length x4.2.1) : Nat) : Int), (0 : Int)))))))).bind fun x5 =>
      ((catS x5.1 (List.cons 90 List.nil))).bind fun x6 =>
      some (Sum.inl (x6, (x5.2.1, (x5.2.2.1, (Go.IntKind.wrap Go.IntKind.i64 (x5.2.2.2 + (1 : Int))))))))
      x2
  else
  some (Sum.inr s0)
noncomputable def F_s_l16Print (a0 : (List (List (Int × Int)))) : Option (List UInt8) :=
  (loopM (fun (s : ((List UInt8) × ((List (List (Int × Int))) × (Int × Int)))) => B_s_l16Print_0 s.1 s.2.1 s.2.2.1 s.2.2.2) (List.nil, (a0, ((((List.length a0) : Nat) : Int), (0 : Int))))).bind fun x0 =>
  some x0
noncomputable def E_s_l16Print : Ent := ⟨a_s_l16Print, fun x => F_s_l16Print x⟩
noncomputable def X_s_l16Print : TX := ⟨tyTab, codTab, [], [4], [E_s_l16Num], a_s_l16Print⟩
set_option maxHeartbeats 2000000 in
theorem W_s_l16Print (a0 : List (List ((Int × Int)))) : wtF X_s_l16Print Tryd.f79 (a0) = F_s_l16Print a0 := by kernel_rfl
theorem OK_s_l16Print : EntOK RR E_s_l16Print := fn_done (X := X_s_l16Print) ⟨tyOK, boolOK, eqOK⟩ (ents_of (by exact ⟨⟨OK_s_l16Num, rfl⟩, trivial⟩)) (cf_ok (by kernel_rfl)) ⟨Tryd.func79, rfl, by kernel_rfl, rfl⟩ (fun x => by exact W_s_l16Print x)

/-- loop.example/g00409/spec.PrintPath -/
noncomputable def F_s_PrintPath (a0 : (List (List (Int × Int)))) : Option (List UInt8 × Bool) :=
  ((F_s_GoodWays a0)).bind fun x0 =>
  bif (!x0) then
    some (List.nil, false)
  else
  ((F_s_l16Print a0)).bind fun x1 =>
  bif decide ((((List.length x1) : Nat) : Int) > (400 : Int)) then
    some (List.nil, false)
  else
  some (x1, true)
noncomputable def E_s_PrintPath : Ent := ⟨a_s_PrintPath, fun x => F_s_PrintPath x⟩
noncomputable def X_s_PrintPath : TX := ⟨tyTab, codTab, [], [4], [E_s_GoodWays, E_s_l16Print], a_s_PrintPath⟩
set_option maxHeartbeats 2000000 in
theorem W_s_PrintPath (a0 : List (List ((Int × Int)))) : wtF X_s_PrintPath Tryd.f33 (a0) = F_s_PrintPath a0 := by kernel_rfl
theorem OK_s_PrintPath : EntOK RR E_s_PrintPath := fn_done (X := X_s_PrintPath) ⟨tyOK, boolOK, eqOK⟩ (ents_of (by exact ⟨⟨OK_s_GoodWays, rfl⟩, ⟨⟨OK_s_l16Print, rfl⟩, trivial⟩⟩)) (cf_ok (by kernel_rfl)) ⟨Tryd.func33, rfl, by kernel_rfl, rfl⟩ (fun x => by exact W_s_PrintPath x)

/-- loop.example/g00409/impl.within -/
noncomputable def F_i_within (a0 : Int) (a1 : Int) (a2 : Int) : Option (Bool) :=
  bif decide (a0 ≥ a1) then
    some (decide (a0 ≤ a2))
  else
  some false
noncomputable def E_i_within : Ent := ⟨a_i_within, fun x => F_i_within x.1 x.2.1 x.2.2⟩
noncomputable def X_i_within : TX := ⟨tyTab, codTab, [], [4], [], a_i_within⟩
set_option maxHeartbeats 2000000 in
theorem W_i_within (a0 : Int) (a1 : Int) (a2 : Int) : wtF X_i_within Tryd.f61 (a0, a1, a2) = F_i_within a0 a1 a2 := by kernel_rfl
theorem OK_i_within : EntOK RR E_i_within := fn_done (X := X_i_within) ⟨tyOK, boolOK, eqOK⟩ (ents_of (by exact trivial)) (cf_ok (by kernel_rfl)) ⟨Tryd.func61, rfl, by kernel_rfl, rfl⟩ (fun x => by exact W_i_within x.1 x.2.1 x.2.2)

/-- loop.example/g00409/impl.GoodPt -/
noncomputable def F_i_GoodPt (a0 : (Int × Int)) : Option (Bool) :=
  ((F_i_within a0.1 (-(1000 : Int)) (1000 : Int))).bind fun x0 =>
  bif x0 then
    ((F_i_within a0.2 (-(1000 : Int)) (1000 : Int))).bind fun x1 =>
    some x1
  else
  some false
noncomputable def E_i_GoodPt : Ent := ⟨a_i_GoodPt, fun x => F_i_GoodPt x⟩
noncomputable def X_i_GoodPt : TX := ⟨tyTab, codTab, [], [4], [E_i_within], a_i_GoodPt⟩
set_option maxHeartbeats 2000000 in
theorem W_i_GoodPt (a0 : (Int × Int)) : wtF X_i_GoodPt Tryd.f120 (a0) = F_i_GoodPt a0 := by kernel_rfl
theorem OK_i_GoodPt : EntOK RR E_i_GoodPt := fn_done (X := X_i_GoodPt) ⟨tyOK, boolOK, eqOK⟩ (ents_of (by exact ⟨⟨OK_i_within, rfl⟩, trivial⟩)) (cf_ok (by kernel_rfl)) ⟨Tryd.func120, rfl, by kernel_rfl, rfl⟩ (fun x => by exact W_i_GoodPt x)

/-- loop.example/g00409/impl.arePts$1 -/
noncomputable def F_i_arePts_1 (a0 : (Int × Int)) : Option (Bool) :=
  ((F_i_GoodPt (a0.1, a0.2))).bind fun x0 =>
  some (!x0)
noncomputable def E_i_arePts_1 : Ent := ⟨a_i_arePts_1, fun x => F_i_arePts_1 x⟩
noncomputable def X_i_arePts_1 : TX := ⟨tyTab, codTab, [], [4], [E_i_GoodPt], a_i_arePts_1⟩
set_option maxHeartbeats 2000000 in
theorem W_i_arePts_1 (a0 : (Int × Int)) : wtF X_i_arePts_1 Tryd.f145 (a0) = F_i_arePts_1 a0 := by kernel_rfl
theorem OK_i_arePts_1 : EntOK RR E_i_arePts_1 := fn_done (X := X_i_arePts_1) ⟨tyOK, boolOK, eqOK⟩ (ents_of (by exact ⟨⟨OK_i_GoodPt, rfl⟩, trivial⟩)) (cf_ok (by kernel_rfl)) ⟨Tryd.func145, rfl, by kernel_rfl, rfl⟩ (fun x => by exact W_i_arePts_1 x)

/-- slices.IndexFunc[[]loop.example/g00409/impl.Pt,loop.example/g00409/impl.Pt] -/
noncomputable def B_slices_IndexFunc_Si_Pt_i_Pt_0 (s0 : (List (Int × Int))) (s1 : Int) (s2 : Int) : Option (((List (Int × Int)) × (Int × Int)) ⊕ (Unit ⊕ Int)) :=
  bif decide (s2 < s1) then
    ((getI s0 s2)).bind fun x0 =>
    ((F_i_arePts_1 (x0.1, x0.2))).bind fun x1 =>
    bif x1 then
      some (Sum.inr (Sum.inr s2))
    else
    some (Sum.inl (s0, (s1, (Go.IntKind.wrap Go.IntKind.i64 (s2 + (1 : Int))))))
  else
  some (Sum.inr (Sum.inl ()))
noncomputable def F_slices_IndexFunc_Si_Pt_i_Pt (a0 : (List (Int × Int))) : Option (Int) :=
  (loopM (fun (s : ((List (Int × Int)) × (Int × Int))) => B_slices_IndexFunc_Si_Pt_i_Pt_0 s.1 s.2.1 s.2.2) (a0, ((((List.length a0) : Nat) : Int), (0 : Int)))).bind fun x0 =>
  Sum.elim
    (fun x1 =>
    some (-(1 : Int)))
    (fun x2 =>
    some x2)
    x0
noncomputable def E_slices_IndexFunc_Si_Pt_i_Pt : Ent := ⟨a_slices_IndexFunc_Si_Pt_i_Pt, fun x => F_slices_IndexFunc_Si_Pt_i_Pt x⟩
noncomputable def X_slices_IndexFunc_Si_Pt_i_Pt : TX := ⟨tyTab, codTab, [], [4], [E_i_arePts_1], a_slices_IndexFunc_Si_Pt_i_Pt⟩
set_option maxHeartbeats 2000000 in
theorem W_slices_IndexFunc_Si_Pt_i_Pt (a0 : List ((Int × Int))) : wtF X_slices_IndexFunc_Si_Pt_i_Pt Tryd.f163 (a0) = F_slices_IndexFunc_Si_Pt_i_Pt a0 := by kernel_rfl
theorem OK_slices_IndexFunc_Si_Pt_i_Pt : EntOK RR E_slices_IndexFunc_Si_Pt_i_Pt := fn_done (X := X_slices_IndexFunc_Si_Pt_i_Pt) ⟨tyOK, boolOK, eqOK⟩ (ents_of (by exact ⟨⟨OK_i_arePts_1, rfl⟩, trivial⟩)) (cf_ok (by kernel_rfl)) ⟨Tryd.func163, rfl, by kernel_rfl, rfl⟩ (fun x => by exact W_slices_IndexFunc_Si_Pt_i_Pt x)

/-- slices.ContainsFunc[[]loop.example/g00409/impl.Pt,loop.example/g00409/impl.Pt] -/
noncomputable def F_slices_ContainsFunc_Si_Pt_i_Pt (a0 : (List (Int × Int))) : Option (Bool) :=
  ((F_slices_IndexFunc_Si_Pt_i_Pt a0)).bind fun x0 =>
  some (decide (x0 ≥ (0 : Int)))
noncomputable def E_slices_ContainsFunc_Si_Pt_i_Pt : Ent := ⟨a_slices_ContainsFunc_Si_Pt_i_Pt, fun x => F_slices_ContainsFunc_Si_Pt_i_Pt x⟩
noncomputable def X_slices_ContainsFunc_Si_Pt_i_Pt : TX := ⟨tyTab, codTab, [], [4], [E_slices_IndexFunc_Si_Pt_i_Pt], a_slices_ContainsFunc_Si_Pt_i_Pt⟩
set_option maxHeartbeats 2000000 in
theorem W_slices_ContainsFunc_Si_Pt_i_Pt (a0 : List ((Int × Int))) : wtF X_slices_ContainsFunc_Si_Pt_i_Pt Tryd.f144 (a0) = F_slices_ContainsFunc_Si_Pt_i_Pt a0 := by kernel_rfl
theorem OK_slices_ContainsFunc_Si_Pt_i_Pt : EntOK RR E_slices_ContainsFunc_Si_Pt_i_Pt := fn_done (X := X_slices_ContainsFunc_Si_Pt_i_Pt) ⟨tyOK, boolOK, eqOK⟩ (ents_of (by exact ⟨⟨OK_slices_IndexFunc_Si_Pt_i_Pt, rfl⟩, trivial⟩)) (cf_ok (by kernel_rfl)) ⟨Tryd.func144, rfl, by kernel_rfl, rfl⟩ (fun x => by exact W_slices_ContainsFunc_Si_Pt_i_Pt x)

/-- loop.example/g00409/impl.arePts -/
noncomputable def F_i_arePts (a0 : (List (Int × Int))) : Option (Bool) :=
  ((F_slices_ContainsFunc_Si_Pt_i_Pt a0)).bind fun x0 =>
  some (!x0)
noncomputable def E_i_arePts : Ent := ⟨a_i_arePts, fun x => F_i_arePts x⟩
noncomputable def X_i_arePts : TX := ⟨tyTab, codTab, [], [4], [E_slices_ContainsFunc_Si_Pt_i_Pt], a_i_arePts⟩
set_option maxHeartbeats 2000000 in
theorem W_i_arePts (a0 : List ((Int × Int))) : wtF X_i_arePts Tryd.f127 (a0) = F_i_arePts a0 := by kernel_rfl
theorem OK_i_arePts : EntOK RR E_i_arePts := fn_done (X := X_i_arePts) ⟨tyOK, boolOK, eqOK⟩ (ents_of (by exact ⟨⟨OK_slices_ContainsFunc_Si_Pt_i_Pt, rfl⟩, trivial⟩)) (cf_ok (by kernel_rfl)) ⟨Tryd.func127, rfl, by kernel_rfl, rfl⟩ (fun x => by exact W_i_arePts x)

/-- loop.example/g00409/impl.isWay -/
noncomputable def F_i_isWay (a0 : (List (Int × Int))) : Option (Bool) :=
  ((F_i_within (((List.length a0) : Nat) : Int) (3 : Int) (12 : Int))).bind fun x0 =>
  bif x0 then
    ((F_i_arePts a0)).bind fun x1 =>
    some x1
  else
  some false
noncomputable def E_i_isWay : Ent := ⟨a_i_isWay, fun x => F_i_isWay x⟩
noncomputable def X_i_isWay : TX := ⟨tyTab, codTab, [], [4], [E_i_within, E_i_arePts], a_i_isWay⟩
set_option maxHeartbeats 2000000 in
theorem W_i_isWay (a0 : List ((Int × Int))) : wtF X_i_isWay Tryd.f107 (a0) = F_i_isWay a0 := by kernel_rfl
theorem OK_i_isWay : EntOK RR E_i_isWay := fn_done (X := X_i_isWay) ⟨tyOK, boolOK, eqOK⟩ (ents_of (by exact ⟨⟨OK_i_within, rfl⟩, ⟨⟨OK_i_arePts, rfl⟩, trivial⟩⟩)) (cf_ok (by kernel_rfl)) ⟨Tryd.func107, rfl, by kernel_rfl, rfl⟩ (fun x => by exact W_i_isWay x)

/-- loop.example/g00409/impl.GoodWays$1 -/
noncomputable def F_i_GoodWays_1 (a0 : (List (Int × Int))) : Option (Bool) :=
  ((F_i_isWay a0)).bind fun x0 =>
  some (!x0)
noncomputable def E_i_GoodWays_1 : Ent := ⟨a_i_GoodWays_1, fun x => F_i_GoodWays_1 x⟩
noncomputable def X_i_GoodWays_1 : TX := ⟨tyTab, codTab, [], [4], [E_i_isWay], a_i_GoodWays_1⟩
set_option maxHeartbeats 2000000 in
theorem W_i_GoodWays_1 (a0 : List ((Int × Int))) : wtF X_i_GoodWays_1 Tryd.f106 (a0) = F_i_GoodWays_1 a0 := by kernel_rfl
theorem OK_i_GoodWays_1 : EntOK RR E_i_GoodWays_1 := fn_done (X := X_i_GoodWays_1) ⟨tyOK, boolOK, eqOK⟩ (ents_of (by exact ⟨⟨OK_i_isWay, rfl⟩, trivial⟩)) (cf_ok (by kernel_rfl)) ⟨Tryd.func106, rfl, by kernel_rfl, rfl⟩ (fun x => by exact W_i_GoodWays_1 x)

/-- slices.IndexFunc[[][]loop.example/g00409/impl.Pt,[]loop.example/g00409/impl.Pt] -/
noncomputable def B_slices_IndexFunc_SSi_Pt_Si_Pt_0 (s0 : (List (List (Int × Int)))) (s1 : Int) (s2 : Int) : Option (((List (List (Int × Int))) × (Int × Int)) ⊕ (Unit ⊕ Int)) :=
  bif decide (s2 < s1) then
    ((getI s0 s2)).bind fun x0 =>
    ((F_i_GoodWays_1 x0)).bind fun x1 =>
    bif x1 then
      some (Sum.inr (Sum.inr s2))
    else
    some (Sum.inl (s0, (s1, (Go.IntKind.wrap Go.IntKind.i64 (s2 + (1 : Int))))))
  else
  some (Sum.inr (Sum.inl ()))
noncomputable def F_slices_IndexFunc_SSi_Pt_Si_Pt (a0 : (List (List (Int × Int)))) : Option (Int) :=
  (loopM (fun (s : ((List (List (Int × Int))) × (Int × Int))) => B_slices_IndexFunc_SSi_Pt_Si_Pt_0 s.1 s.2.1 s.2.2) (a0, ((((List.length a0) : Nat) : Int), (0 : Int)))).bind fun x0 =>
  Sum.elim
    (fun x1 =>
    some (-(1 : Int)))
    (fun x2 =>
    some x2)
    x0
noncomputable def E_slices_IndexFunc_SSi_Pt_Si_Pt : Ent := ⟨a_slices_IndexFunc_SSi_Pt_Si_Pt, fun x => F_slices_IndexFunc_SSi_Pt_Si_Pt x⟩
noncomputable def X_slices_IndexFunc_SSi_Pt_Si_Pt : TX := ⟨tyTab, codTab, [], [4], [E_i_GoodWays_1], a_slices_IndexFunc_SSi_Pt_Si_Pt⟩
set_option maxHeartbeats 2000000 in
theorem W_slices_IndexFunc_SSi_Pt_Si_Pt (a0 : List (List ((Int × Int)))) : wtF X_slices_IndexFunc_SSi_Pt_Si_Pt Tryd.f126 (a0) = F_slices_IndexFunc_SSi_Pt_Si_Pt a0 := by kernel_rfl
theorem OK_slices_IndexFunc_SSi_Pt_Si_Pt : EntOK RR E_slices_IndexFunc_SSi_Pt_Si_Pt := fn_done (X := X_slices_IndexFunc_SSi_Pt_Si_Pt) ⟨tyOK, boolOK, eqOK⟩ (ents_of (by exact ⟨⟨OK_i_GoodWays_1, rfl⟩, trivial⟩)) (cf_ok (by kernel_rfl)) ⟨Tryd.func126, rfl, by kernel_rfl, rfl⟩ (fun x => by exact W_slices_IndexFunc_SSi_Pt_Si_Pt x)

/-- slices.ContainsFunc[[][]loop.example/g00409/impl.Pt,[]loop.example/g00409/impl.Pt] -/
noncomputable def F_slices_ContainsFunc_SSi_Pt_Si_Pt (a0 : (List (List (Int × Int)))) : Option (Bool) :=
  ((F_slices_IndexFunc_SSi_Pt_Si_Pt a0)).bind fun x0 =>
  some (decide (x0 ≥ (0 : Int)))
noncomputable def E_slices_ContainsFunc_SSi_Pt_Si_Pt : Ent := ⟨a_slices_ContainsFunc_SSi_Pt_Si_Pt, fun x => F_slices_ContainsFunc_SSi_Pt_Si_Pt x⟩
noncomputable def X_slices_ContainsFunc_SSi_Pt_Si_Pt : TX := ⟨tyTab, codTab, [], [4], [E_slices_IndexFunc_SSi_Pt_Si_Pt], a_slices_ContainsFunc_SSi_Pt_Si_Pt⟩
set_option maxHeartbeats 2000000 in
theorem W_slices_ContainsFunc_SSi_Pt_Si_Pt (a0 : List (List ((Int × Int)))) : wtF X_slices_ContainsFunc_SSi_Pt_Si_Pt Tryd.f105 (a0) = F_slices_ContainsFunc_SSi_Pt_Si_Pt a0 := by kernel_rfl
theorem OK_slices_ContainsFunc_SSi_Pt_Si_Pt : EntOK RR E_slices_ContainsFunc_SSi_Pt_Si_Pt := fn_done (X := X_slices_ContainsFunc_SSi_Pt_Si_Pt) ⟨tyOK, boolOK, eqOK⟩ (ents_of (by exact ⟨⟨OK_slices_IndexFunc_SSi_Pt_Si_Pt, rfl⟩, trivial⟩)) (cf_ok (by kernel_rfl)) ⟨Tryd.func105, rfl, by kernel_rfl, rfl⟩ (fun x => by exact W_slices_ContainsFunc_SSi_Pt_Si_Pt x)

/-- loop.example/g00409/impl.GoodWays -/
noncomputable def F_i_GoodWays (a0 : (List (List (Int × Int)))) : Option (Bool) :=
  ((F_i_within (((List.length a0) : Nat) : Int) (1 : Int) (4 : Int))).bind fun x0 =>
  bif x0 then
    ((F_slices_ContainsFunc_SSi_Pt_Si_Pt a0)).bind fun x1 =>
    some (!x1)
  else
  some false
noncomputable def E_i_GoodWays : Ent := ⟨a_i_GoodWays, fun x => F_i_GoodWays x⟩
noncomputable def X_i_GoodWays : TX := ⟨tyTab, codTab, [], [4], [E_i_within, E_slices_ContainsFunc_SSi_Pt_Si_Pt], a_i_GoodWays⟩
set_option maxHeartbeats 2000000 in
theorem W_i_GoodWays (a0 : List (List ((Int × Int)))) : wtF X_i_GoodWays Tryd.f81 (a0) = F_i_GoodWays a0 := by kernel_rfl
theorem OK_i_GoodWays : EntOK RR E_i_GoodWays := fn_done (X := X_i_GoodWays) ⟨tyOK, boolOK, eqOK⟩ (ents_of (by exact ⟨⟨OK_i_within, rfl⟩, ⟨⟨OK_slices_ContainsFunc_SSi_Pt_Si_Pt, rfl⟩, trivial⟩⟩)) (cf_ok (by kernel_rfl)) ⟨Tryd.func81, rfl, by kernel_rfl, rfl⟩ (fun x => by exact W_i_GoodWays x)

/-- strconv.Itoa -/
noncomputable def F_strconv_Itoa (a0 : Int) : Option (List UInt8) := F_itoa a0
noncomputable def E_strconv_Itoa : Ent := ⟨a_strconv_Itoa, fun x => F_strconv_Itoa x⟩
theorem OK_strconv_Itoa : EntOK RR E_strconv_Itoa := itoa_ent fun _ _ _ _ _ h => Or.inl h

/-- strings.Join -/
noncomputable def F_strings_Join (a0 : List (List UInt8)) (a1 : List UInt8) : Option (List UInt8) := F_join a0 a1
noncomputable def E_strings_Join : Ent := ⟨a_strings_Join, fun x => F_strings_Join x.1 x.2⟩
theorem OK_strings_Join : EntOK RR E_strings_Join := join_ent fun _ _ _ _ _ h => Or.inr (h)

/-- loop.example/g00409/impl.PrintPath -/
noncomputable def B_i_PrintPath_1 (s0 : (List (List UInt8))) (s1 : (List (List (Int × Int)))) (s2 : Int) (s3 : Int) (s4 : (List (Int × Int))) (s5 : Int) (s6 : Int) : Option (((List (List UInt8)) × ((List (List (Int × Int))) × (Int × (Int × ((List (Int × Int)) × (Int × Int)))))) ⊕ ((List (List UInt8)) × ((List (List (Int × Int))) × (Int × Int)))) :=
  bif decide (s6 < s5) then
    ((getI s4 s6)).bind fun x0 =>
    (bif (s6 == (0 : Int)) then
        some (Sum.inr (s0, ((x0.1, x0.2), ((List.cons 77 List.nil), (s1, (s2, (s3, (s4, (s5, s6)))))))))
      else
      some (Sum.inr (s0, ((x0.1, x0.2), ((List.cons 76 List.nil), (s1, (s2, (s3, (s4, (s5, s6)))))))))).bind fun x1 =>
    Sum.elim
      (fun x2 =>
      some x2)
      (fun x3 =>
      ((F_strconv_Itoa x3.2.1.1)).bind fun x4 =>
      ((F_strconv_Itoa x3.2.1.2)).bind fun x5 =>
      ((appL 16 1 x3.1 (List.cons x3.2.2.1 (List.cons x4 (List.cons x5 List.nil))))).bind fun x6 =>
      some (Sum.inl (x6, (x3.2.2.2.1, (x3.2.2.2.2.1, (x3.2.2.2.2.2.1, (x3.2.2.2.2.2.2.1, (x3.2.2.2.2.2.2.2.1, (Go.IntKind.wrap Go.IntKind.i64 (x3.2.2.2.2.2.2.2.2 + (1 : Int)))))))))))
      x1
  else
  some (Sum.inr (s0, (s1, (s2, s3))))
noncomputable def B_i_PrintPath_0 (s0 : (List (List UInt8))) (s1 : (List (List (Int × Int)))) (s2 : Int) (s3 : Int) : Option (((List (List UInt8)) × ((List (List (Int × Int))) × (Int × Int))) ⊕ (List (List UInt8))) :=
  bif decide (s3 < s2) then
    ((getI s1 s3)).bind fun x0 =>
    (loopM (fun (s : ((List (List UInt8)) × ((List (List (Int × Int))) × (Int × (Int × ((List (Int × Int)) × (Int × Int))))))) => B_i_PrintPath_1 s.1 s.2.1 s.2.2.1 s.2.2.2.1 s.2.2.2.2.1 s.2.2.2.2.2.1 s.2.2.2.2.2.2) (s0, (s1, (s2, (s3, (x0, ((((List.length x0) : Nat) : Int), (0 : Int)))))))).bind fun x1 =>
    ((appL 16 1 x1.1 (List.cons (List.cons 90 List.nil) List.nil))).bind fun x2 =>
    some (Sum.inl (x2, (x1.2.1, (x1.2.2.1, (Go.IntKind.wrap Go.IntKind.i64 (x1.2.2.2 + (1 : Int)))))))
  else
  some (Sum.inr s0)
noncomputable def F_i_PrintPath (a0 : (List (List (Int × Int)))) : Option (List UInt8 × Bool) :=
  ((F_i_GoodWays a0)).bind fun x0 =>
  bif (!x0) then
    some (List.nil, false)
  else
  (loopM (fun (s : ((List (List UInt8)) × ((List (List (Int × Int))) × (Int × Int)))) => B_i_PrintPath_0 s.1 s.2.1 s.2.2.1 s.2.2.2) (List.nil, (a0, ((((List.length a0) : Nat) : Int), (0 : Int))))).bind fun x1 =>
  ((F_strings_Join x1 (List.cons 32 List.nil))).bind fun x2 =>
  bif decide ((((List.length x2) : Nat) : Int) > (400 : Int)) then
    some (List.nil, false)
  else
  some (x2, true)
noncomputable def E_i_PrintPath : Ent := ⟨a_i_PrintPath, fun x => F_i_PrintPath x⟩
noncomputable def X_i_PrintPath : TX := ⟨tyTab, codTab, [], [4], [E_i_GoodWays, E_strconv_Itoa, E_strings_Join], a_i_PrintPath⟩
set_option maxHeartbeats 2000000 in
theorem W_i_PrintPath (a0 : List (List ((Int × Int)))) : wtF X_i_PrintPath Tryd.f35 (a0) = F_i_PrintPath a0 := by kernel_rfl
theorem OK_i_PrintPath : EntOK RR E_i_PrintPath := fn_done (X := X_i_PrintPath) ⟨tyOK, boolOK, eqOK⟩ (ents_of (by exact ⟨⟨OK_i_GoodWays, rfl⟩, ⟨⟨OK_strconv_Itoa, rfl⟩, ⟨⟨OK_strings_Join, rfl⟩, trivial⟩⟩⟩)) (cf_ok (by kernel_rfl)) ⟨Tryd.func35, rfl, by kernel_rfl, rfl⟩ (fun x => by exact W_i_PrintPath x)

/-- loop.example/g00409/laws.eqPt -/
noncomputable def F_l_eqPt (a0 : (Int × Int)) (a1 : (Int × Int)) : Option (Bool) :=
  bif (a0.1 != a1.1) then
    some false
  else
  bif (a0.2 != a1.2) then
    some false
  else
  some true
noncomputable def E_l_eqPt : Ent := ⟨a_l_eqPt, fun x => F_l_eqPt x.1 x.2⟩
noncomputable def X_l_eqPt : TX := ⟨tyTab, codTab, [], [4], [], a_l_eqPt⟩
set_option maxHeartbeats 2000000 in
theorem W_l_eqPt (a0 : (Int × Int)) (a1 : (Int × Int)) : wtF X_l_eqPt Tryd.f109 (a0, a1) = F_l_eqPt a0 a1 := by kernel_rfl
theorem OK_l_eqPt : EntOK RR E_l_eqPt := fn_done (X := X_l_eqPt) ⟨tyOK, boolOK, eqOK⟩ (ents_of (by exact trivial)) (cf_ok (by kernel_rfl)) ⟨Tryd.func109, rfl, by kernel_rfl, rfl⟩ (fun x => by exact W_l_eqPt x.1 x.2)

/-- loop.example/g00409/laws.eqPtS -/
noncomputable def B_l_eqPtS_0 (s0 : (List (Int × Int))) (s1 : (List (Int × Int))) (s2 : Int) : Option (((List (Int × Int)) × ((List (Int × Int)) × Int)) ⊕ (Unit ⊕ Bool)) :=
  bif decide (s2 < (((List.length s0) : Nat) : Int)) then
    ((getI s0 s2)).bind fun x0 =>
    ((getI s1 s2)).bind fun x1 =>
    ((F_l_eqPt (x0.1, x0.2) (x1.1, x1.2))).bind fun x2 =>
    bif (!x2) then
      some (Sum.inr (Sum.inr false))
    else
    some (Sum.inl (s0, (s1, (Go.IntKind.wrap Go.IntKind.i64 (s2 + (1 : Int))))))
  else
  some (Sum.inr (Sum.inl ()))
noncomputable def F_l_eqPtS (a0 : (List (Int × Int))) (a1 : (List (Int × Int))) : Option (Bool) :=
  bif ((((List.length a0) : Nat) : Int) != (((List.length a1) : Nat) : Int)) then
    some false
  else
  (loopM (fun (s : ((List (Int × Int)) × ((List (Int × Int)) × Int))) => B_l_eqPtS_0 s.1 s.2.1 s.2.2) (a0, (a1, (0 : Int)))).bind fun x0 =>
  Sum.elim
    (fun x1 =>
    some true)
    (fun x2 =>
    some x2)
    x0
noncomputable def E_l_eqPtS : Ent := ⟨a_l_eqPtS, fun x => F_l_eqPtS x.1 x.2⟩
noncomputable def X_l_eqPtS : TX := ⟨tyTab, codTab, [], [4], [E_l_eqPt], a_l_eqPtS⟩
set_option maxHeartbeats 2000000 in
theorem W_l_eqPtS (a0 : List ((Int × Int))) (a1 : List ((Int × Int))) : wtF X_l_eqPtS Tryd.f83 (a0, a1) = F_l_eqPtS a0 a1 := by kernel_rfl
theorem OK_l_eqPtS : EntOK RR E_l_eqPtS := fn_done (X := X_l_eqPtS) ⟨tyOK, boolOK, eqOK⟩ (ents_of (by exact ⟨⟨OK_l_eqPt, rfl⟩, trivial⟩)) (cf_ok (by kernel_rfl)) ⟨Tryd.func83, rfl, by kernel_rfl, rfl⟩ (fun x => by exact W_l_eqPtS x.1 x.2)

/-- loop.example/g00409/laws.eqPtSS -/
noncomputable def B_l_eqPtSS_0 (s0 : (List (List (Int × Int)))) (s1 : (List (List (Int × Int)))) (s2 : Int) : Option (((List (List (Int × Int))) × ((List (List (Int × Int))) × Int)) ⊕ (Unit ⊕ Bool)) :=
  bif decide (s2 < (((List.length s0) : Nat) : Int)) then
    ((getI s0 s2)).bind fun x0 =>
    ((getI s1 s2)).bind fun x1 =>
    ((F_l_eqPtS x0 x1)).bind fun x2 =>
    bif (!x2) then
      some (Sum.inr (Sum.inr false))
    else
    some (Sum.inl (s0, (s1, (Go.IntKind.wrap Go.IntKind.i64 (s2 + (1 : Int))))))
  else
  some (Sum.inr (Sum.inl ()))
noncomputable def F_l_eqPtSS (a0 : (List (List (Int × Int)))) (a1 : (List (List (Int × Int)))) : Option (Bool) :=
  bif ((((List.length a0) : Nat) : Int) != (((List.length a1) : Nat) : Int)) then
    some false
  else
  (loopM (fun (s : ((List (List (Int × Int))) × ((List (List (Int × Int))) × Int))) => B_l_eqPtSS_0 s.1 s.2.1 s.2.2) (a0, (a1, (0 : Int)))).bind fun x0 =>
  Sum.elim
    (fun x1 =>
    some true)
    (fun x2 =>
    some x2)
    x0
noncomputable def E_l_eqPtSS : Ent := ⟨a_l_eqPtSS, fun x => F_l_eqPtSS x.1 x.2⟩
noncomputable def X_l_eqPtSS : TX := ⟨tyTab, codTab, [], [4], [E_l_eqPtS], a_l_eqPtSS⟩
set_option maxHeartbeats 2000000 in
theorem W_l_eqPtSS (a0 : List (List ((Int × Int)))) (a1 : List (List ((Int × Int)))) : wtF X_l_eqPtSS Tryd.f36 (a0, a1) = F_l_eqPtSS a0 a1 := by kernel_rfl
theorem OK_l_eqPtSS : EntOK RR E_l_eqPtSS := fn_done (X := X_l_eqPtSS) ⟨tyOK, boolOK, eqOK⟩ (ents_of (by exact ⟨⟨OK_l_eqPtS, rfl⟩, trivial⟩)) (cf_ok (by kernel_rfl)) ⟨Tryd.func36, rfl, by kernel_rfl, rfl⟩ (fun x => by exact W_l_eqPtSS x.1 x.2)

/-- loop.example/g00409/laws.FnExactPrintPath -/
noncomputable def F_l_FnExactPrintPath (a0 : (List (List (Int × Int)))) : Option (Bool) :=
  ((F_l_szPtSS a0 (1048576 : Int))).bind fun x0 =>
  bif decide (x0 < (0 : Int)) then
    some true
  else
  ((F_l_toPtSS a0)).bind fun x1 =>
  ((F_s_PrintPath x1)).bind fun x2 =>
  ((F_l_toPtSS a0)).bind fun x3 =>
  ((F_i_PrintPath x3)).bind fun x4 =>
  bif (!(x4.1 == x2.1)) then
    some false
  else
  bif (!(x4.2 == x2.2)) then
    some false
  else
  ((F_l_toPtSS a0)).bind fun x5 =>
  ((F_l_eqPtSS x3 x5)).bind fun x6 =>
  bif (!x6) then
    some false
  else
  some true
noncomputable def E_l_FnExactPrintPath : Ent := ⟨a_l_FnExactPrintPath, fun x => F_l_FnExactPrintPath x⟩
noncomputable def X_l_FnExactPrintPath : TX := ⟨tyTab, codTab, [], [4], [E_l_szPtSS, E_l_toPtSS, E_s_PrintPath, E_i_PrintPath, E_l_eqPtSS], a_l_FnExactPrintPath⟩
set_option maxHeartbeats 2000000 in
theorem W_l_FnExactPrintPath (a0 : List (List ((Int × Int)))) : wtF X_l_FnExactPrintPath Tryd.f8 (a0) = F_l_FnExactPrintPath a0 := by kernel_rfl
theorem OK_l_FnExactPrintPath : EntOK RR E_l_FnExactPrintPath := fn_done (X := X_l_FnExactPrintPath) ⟨tyOK, boolOK, eqOK⟩ (ents_of (by exact ⟨⟨OK_l_szPtSS, rfl⟩, ⟨⟨OK_l_toPtSS, rfl⟩, ⟨⟨OK_s_PrintPath, rfl⟩, ⟨⟨OK_i_PrintPath, rfl⟩, ⟨⟨OK_l_eqPtSS, rfl⟩, trivial⟩⟩⟩⟩⟩)) (cf_ok (by kernel_rfl)) ⟨Tryd.func8, rfl, by kernel_rfl, rfl⟩ (fun x => by exact W_l_FnExactPrintPath x)
end Go.Proofs.YtnhibkgoinnmcaaDoor.Ev
