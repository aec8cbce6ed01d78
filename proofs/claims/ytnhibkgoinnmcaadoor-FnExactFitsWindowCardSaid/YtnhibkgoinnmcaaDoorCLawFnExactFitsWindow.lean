/- The functions that the law FnExactFitsWindow reaches: their types, forms and typed texts (made by wip/gen/mk.py). -/
import Derived.Test.YtnhibkgoinnmcaaDoorEvMd
import Derived.Test.YtnhibkgoinnmcaaDoorEvMe
import Derived.Test.YtnhibkgoinnmcaaDoorShc
import Derived.Test.YtnhibkgoinnmcaaDoorProg
import Derived.KernelRfl
namespace Go.Proofs.YtnhibkgoinnmcaaDoor.Ev
open Go
set_option maxRecDepth 100000
set_option linter.unusedVariables false
def tyD3 : TyD := ⟨1, 8, false, [(.v (.int .i64 0))], none, false, (some .i64), [], false⟩
def tyD4 : TyD := ⟨1, 1, false, [(.v (.bool false))], none, false, none, [], false⟩
def tyD5 : TyD := ⟨1, 1, false, [(.v (.int .u8 0))], none, false, (some .u8), [], false⟩
def tyD9 : TyD := ⟨1, 16, false, [(.v (.string ⟨#[]⟩))], none, true, none, [], false⟩
def tyD25 : TyD := ⟨1, 24, false, [.em], (some 3), false, none, [], false⟩
def tyD49 : TyD := ⟨1, 24, false, [.em], (some 106), false, none, [], false⟩
def tyD64 : TyD := ⟨4, 32, true, [(.v (.int .i64 0)), (.v (.int .i64 0)), (.v (.int .i64 0)), (.v (.int .i64 0))], none, false, none, [⟨0, 3, 1, false⟩, ⟨1, 3, 1, false⟩, ⟨2, 3, 1, false⟩, ⟨3, 3, 1, false⟩], false⟩
def tyD67 : TyD := ⟨4, 32, true, [(.v (.int .i64 0)), (.v (.int .i64 0)), (.v (.int .i64 0)), (.v (.int .i64 0))], none, false, none, [⟨0, 3, 1, false⟩, ⟨1, 3, 1, false⟩, ⟨2, 3, 1, false⟩, ⟨3, 3, 1, false⟩], false⟩
def tyD82 : TyD := ⟨1, 16, false, [(.v .nilIface)], none, false, none, [], true⟩
def tyD106 : TyD := ⟨1, 24, false, [.em], (some 110), false, none, [], false⟩
def tyD108 : TyD := ⟨1, 24, false, [.em], (some 9), false, none, [], false⟩
def tyD110 : TyD := ⟨2, 16, true, [(.v (.int .i64 0)), (.v (.int .i64 0))], none, false, none, [⟨0, 3, 1, false⟩, ⟨1, 3, 1, false⟩], false⟩
def tyD121 : TyD := ⟨5, 88, true, [.em, (.v (.int .i64 0)), .em, .em, (.v (.int .i64 0))], none, false, none, [⟨0, 108, 1, false⟩, ⟨1, 3, 1, false⟩, ⟨2, 49, 1, false⟩, ⟨3, 106, 1, false⟩, ⟨4, 3, 1, false⟩], false⟩
def tyD124 : TyD := ⟨5, 88, true, [.em, (.v (.int .i64 0)), .em, .em, (.v (.bool false))], none, false, none, [⟨0, 108, 1, false⟩, ⟨1, 3, 1, false⟩, ⟨2, 49, 1, false⟩, ⟨3, 106, 1, false⟩, ⟨4, 4, 1, false⟩], false⟩
theorem ty3 : tyOf Tryd.prog 3 = some tyD3 := by kernel_rfl
theorem ty4 : tyOf Tryd.prog 4 = some tyD4 := by kernel_rfl
theorem ty5 : tyOf Tryd.prog 5 = some tyD5 := by kernel_rfl
theorem ty9 : tyOf Tryd.prog 9 = some tyD9 := by kernel_rfl
theorem ty25 : tyOf Tryd.prog 25 = some tyD25 := by kernel_rfl
theorem ty49 : tyOf Tryd.prog 49 = some tyD49 := by kernel_rfl
theorem ty64 : tyOf Tryd.prog 64 = some tyD64 := by kernel_rfl
theorem ty67 : tyOf Tryd.prog 67 = some tyD67 := by kernel_rfl
theorem ty82 : tyOf Tryd.prog 82 = some tyD82 := by kernel_rfl
theorem ty106 : tyOf Tryd.prog 106 = some tyD106 := by kernel_rfl
theorem ty108 : tyOf Tryd.prog 108 = some tyD108 := by kernel_rfl
theorem ty110 : tyOf Tryd.prog 110 = some tyD110 := by kernel_rfl
theorem ty121 : tyOf Tryd.prog 121 = some tyD121 := by kernel_rfl
theorem ty124 : tyOf Tryd.prog 124 = some tyD124 := by kernel_rfl
def tyTab : List (Nat × TyD) := [(3, tyD3), (4, tyD4), (5, tyD5), (9, tyD9), (25, tyD25), (49, tyD49), (64, tyD64), (67, tyD67), (82, tyD82), (106, tyD106), (108, tyD108), (110, tyD110), (121, tyD121), (124, tyD124)]
def codTab : List (Nat × Ty) := [(3, .int .i64), (9, .str), (106, .sl (.pair (.int .i64) (.int .i64))), (110, .pair (.int .i64) (.int .i64))]
theorem tyOK : ∀ t d, getD tyTab t = some d → tyOf Tryd.prog t = some d := tab_ok (by unfold tyTab; exact ⟨ty3, ⟨ty4, ⟨ty5, ⟨ty9, ⟨ty25, ⟨ty49, ⟨ty64, ⟨ty67, ⟨ty82, ⟨ty106, ⟨ty108, ⟨ty110, ⟨ty121, ⟨ty124, trivial⟩⟩⟩⟩⟩⟩⟩⟩⟩⟩⟩⟩⟩⟩)
theorem bool4 : Tryd.prog.underlying 4 = some .bool := by kernel_rfl
theorem boolOK : ∀ t, ([4] : List Nat).contains t = true → Tryd.prog.underlying t = some .bool := by
  intro t h
  simp at h
  rcases h with rfl
  all_goals first | exact bool4
theorem eqOK : ∀ t, ([] : List Nat).contains t = true → EqOK Tryd.prog t := by
  intro t h
  simp at h
  try exact h.elim
def a_l_toWindow : FAnn := ⟨50, 0, [.slot 0 (.agg [.int .i64, .int .i64, .int .i64, .int .i64])], [.slot 0 (.agg [.int .i64, .int .i64, .int .i64, .int .i64])],
  [],
  [],
  []⟩
def a_s_l16Words : FAnn := ⟨88, 0, [.slot 0 (.cell (.str))], [.blk (.arr 9 true (.str)), .slot 0 (.ref 0 false)],
  [(4, [.blk (.arr 9 true (.str)), .slot 0 (.cell (.str)), .slot 3 (.ref 0 false), .slot 4 (.cell (.int .i64)), .slot 5 (.cell (.int .i64))])],
  [(4, [(.exit 0, [.blk (.arr 9 true (.str)), .slot 0 (.cell (.str)), .slot 3 (.ref 0 false), .slot 4 (.cell (.int .i64))])])],
  []⟩
def a_s_l15Int : FAnn := ⟨84, 0, [.slot 0 (.cell (.str)), .slot 1 (.cell (.int .i64))], [.slot 0 (.cell (.int .i64)), .slot 1 (.cell (.int .i64))],
  [(3, [.slot 0 (.cell (.str)), .slot 1 (.cell (.int .i64)), .slot 6 (.cell (.int .i64)), .slot 7 (.cell (.int .i64))])],
  [(3, [(.exit 0, [.slot 0 (.cell (.str)), .slot 1 (.cell (.int .i64)), .slot 6 (.cell (.int .i64)), .slot 7 (.cell (.int .i64))])])],
  []⟩
def a_s_ReadNumber : FAnn := ⟨37, 0, [.slot 0 (.cell (.str))], [.slot 0 (.cell (.int .i64)), .slot 1 (.cell (.bool))],
  [],
  [],
  [(2, [.slot 0 (.cell (.str)), .slot 4 (.cell (.bool))]), (5, [.slot 4 (.cell (.bool)), .slot 5 (.cell (.str))]), (8, [.slot 4 (.cell (.bool)), .slot 6 (.cell (.int .i64))])]⟩
def a_s_l16P_number : FAnn := ⟨114, 1, [.blk (.box 121 [.im (.str), .int .i64, .at 1, .at 2, .int .i64]), .blk (.arr 106 false (.sl (.pair (.int .i64) (.int .i64)))), .blk (.arr 110 true (.pair (.int .i64) (.int .i64))), .slot 0 (.ref 0 true)], [.blk (.box 121 [.im (.str), .int .i64, .at 1, .at 2, .int .i64]), .blk (.arr 106 false (.sl (.pair (.int .i64) (.int .i64)))), .blk (.arr 110 true (.pair (.int .i64) (.int .i64))), .slot 0 (.cell (.int .i64))],
  [],
  [],
  []⟩
def a_s_l1In : FAnn := ⟨52, 0, [.slot 0 (.cell (.int .i64)), .slot 1 (.cell (.int .i64)), .slot 2 (.cell (.int .i64))], [.slot 0 (.cell (.bool))],
  [],
  [],
  []⟩
def a_s_GoodPt : FAnn := ⟨138, 0, [.slot 0 (.agg [.int .i64, .int .i64])], [.slot 0 (.cell (.bool))],
  [],
  [],
  []⟩
def a_s_l16P_point : FAnn := ⟨115, 1, [.blk (.box 121 [.im (.str), .int .i64, .at 1, .at 2, .int .i64]), .blk (.arr 106 false (.sl (.pair (.int .i64) (.int .i64)))), .blk (.arr 110 true (.pair (.int .i64) (.int .i64))), .slot 0 (.ref 0 true), .slot 1 (.agg [.int .i64, .int .i64])], [.blk (.box 121 [.im (.str), .int .i64, .at 1, .at 2, .int .i64]), .blk (.arr 106 false (.sl (.pair (.int .i64) (.int .i64)))), .blk (.arr 110 true (.pair (.int .i64) (.int .i64)))],
  [],
  [],
  []⟩
def a_s_l16P_command : FAnn := ⟨89, 1, [.blk (.box 121 [.im (.str), .int .i64, .at 1, .at 2, .int .i64]), .blk (.arr 106 false (.sl (.pair (.int .i64) (.int .i64)))), .blk (.arr 110 true (.pair (.int .i64) (.int .i64))), .slot 0 (.ref 0 true)], [.blk (.box 121 [.im (.str), .int .i64, .at 1, .at 2, .int .i64]), .blk (.arr 106 false (.sl (.pair (.int .i64) (.int .i64)))), .blk (.arr 110 true (.pair (.int .i64) (.int .i64)))],
  [(4, [.blk (.box 121 [.im (.str), .int .i64, .at 2, .at 3, .int .i64]), .blk (.arr 9 true (.str)), .blk (.arr 106 false (.sl (.pair (.int .i64) (.int .i64)))), .blk (.arr 110 true (.pair (.int .i64) (.int .i64))), .slot 0 (.ref 0 true), .slot 2 (.cell (.str)), .slot 3 (.cell (.bool)), .slot 4 (.cell (.bool)), .slot 28 (.ref 1 false), .slot 29 (.cell (.int .i64)), .slot 30 (.cell (.int .i64))])],
  [(4, [(.exit 0, [.blk (.box 121 [.im (.str), .int .i64, .at 1, .at 2, .int .i64]), .blk (.arr 106 false (.sl (.pair (.int .i64) (.int .i64)))), .blk (.arr 110 true (.pair (.int .i64) (.int .i64))), .slot 0 (.ref 0 true), .slot 2 (.cell (.str)), .slot 3 (.cell (.bool)), .slot 4 (.cell (.bool))])])],
  [(16, [.blk (.box 121 [.im (.str), .int .i64, .at 1, .at 2, .int .i64]), .blk (.arr 106 false (.sl (.pair (.int .i64) (.int .i64)))), .blk (.arr 110 true (.pair (.int .i64) (.int .i64))), .slot 0 (.ref 0 true), .slot 2 (.cell (.str)), .slot 3 (.cell (.bool))]), (21, [.blk (.box 121 [.im (.str), .int .i64, .at 2, .at 3, .int .i64]), .blk (.box 110 [.int .i64, .int .i64]), .blk (.arr 106 false (.sl (.pair (.int .i64) (.int .i64)))), .blk (.arr 110 true (.pair (.int .i64) (.int .i64))), .slot 0 (.ref 0 true), .slot 2 (.cell (.str)), .slot 7 (.ref 1 true)])]⟩
def a_s_ParsePath : FAnn := ⟨45, 0, [.slot 0 (.cell (.str))], [.blk (.arr 106 false (.sl (.pair (.int .i64) (.int .i64)))), .slot 0 (.ref 0 false), .slot 1 (.cell (.int .i64)), .slot 2 (.cell (.int .i64)), .slot 3 (.cell (.bool))],
  [(4, [.blk (.box 121 [.im (.str), .int .i64, .at 1, .at 2, .int .i64]), .blk (.arr 106 false (.sl (.pair (.int .i64) (.int .i64)))), .blk (.arr 110 true (.pair (.int .i64) (.int .i64))), .slot 6 (.ref 0 true)])],
  [(4, [(.exit 0, [.blk (.box 121 [.im (.str), .int .i64, .at 1, .at 2, .int .i64]), .blk (.arr 106 false (.sl (.pair (.int .i64) (.int .i64)))), .blk (.arr 110 true (.pair (.int .i64) (.int .i64))), .slot 6 (.ref 0 true)])])],
  [(8, [.blk (.box 121 [.im (.str), .int .i64, .at 1, .at 2, .int .i64]), .blk (.arr 106 false (.sl (.pair (.int .i64) (.int .i64)))), .blk (.arr 110 true (.pair (.int .i64) (.int .i64))), .slot 6 (.ref 0 true)])]⟩
def a_s_GoodWindow : FAnn := ⟨93, 0, [.slot 0 (.agg [.int .i64, .int .i64, .int .i64, .int .i64])], [.slot 0 (.cell (.bool))],
  [],
  [],
  []⟩
def a_s_l9Box : FAnn := ⟨94, 0, [.slot 0 (.cell (.im (.pair (.int .i64) (.int .i64))))], [.slot 0 (.agg [.int .i64, .int .i64]), .slot 1 (.agg [.int .i64, .int .i64])],
  [(4, [.blk (.box 110 [.int .i64, .int .i64]), .blk (.box 110 [.int .i64, .int .i64]), .blk (.box 110 [.int .i64, .int .i64]), .blk (.box 110 [.int .i64, .int .i64]), .slot 2 (.ref 0 true), .slot 3 (.ref 1 true), .slot 4 (.ref 2 true), .slot 5 (.ref 3 true), .slot 14 (.cell (.im (.pair (.int .i64) (.int .i64)))), .slot 15 (.cell (.int .i64)), .slot 16 (.cell (.int .i64))])],
  [(4, [(.exit 0, [.blk (.box 110 [.int .i64, .int .i64]), .blk (.box 110 [.int .i64, .int .i64]), .blk (.box 110 [.int .i64, .int .i64]), .blk (.box 110 [.int .i64, .int .i64]), .slot 2 (.ref 0 true), .slot 3 (.ref 1 true), .slot 4 (.ref 2 true), .slot 5 (.ref 3 true)])])],
  [(8, [.blk (.box 110 [.int .i64, .int .i64]), .blk (.box 110 [.int .i64, .int .i64]), .blk (.box 110 [.int .i64, .int .i64]), .blk (.box 110 [.int .i64, .int .i64]), .blk (.box 110 [.int .i64, .int .i64]), .slot 2 (.ref 0 true), .slot 3 (.ref 1 true), .slot 4 (.ref 2 true), .slot 5 (.ref 3 true), .slot 7 (.ref 4 true), .slot 14 (.cell (.im (.pair (.int .i64) (.int .i64)))), .slot 15 (.cell (.int .i64)), .slot 16 (.cell (.int .i64))]), (10, [.blk (.box 110 [.int .i64, .int .i64]), .blk (.box 110 [.int .i64, .int .i64]), .blk (.box 110 [.int .i64, .int .i64]), .blk (.box 110 [.int .i64, .int .i64]), .blk (.box 110 [.int .i64, .int .i64]), .slot 2 (.ref 0 true), .slot 3 (.ref 1 true), .slot 4 (.ref 2 true), .slot 5 (.ref 3 true), .slot 7 (.ref 4 true), .slot 14 (.cell (.im (.pair (.int .i64) (.int .i64)))), .slot 15 (.cell (.int .i64)), .slot 16 (.cell (.int .i64))]), (12, [.blk (.box 110 [.int .i64, .int .i64]), .blk (.box 110 [.int .i64, .int .i64]), .blk (.box 110 [.int .i64, .int .i64]), .blk (.box 110 [.int .i64, .int .i64]), .blk (.box 110 [.int .i64, .int .i64]), .slot 2 (.ref 0 true), .slot 3 (.ref 1 true), .slot 4 (.ref 2 true), .slot 5 (.ref 3 true), .slot 7 (.ref 4 true), .slot 14 (.cell (.im (.pair (.int .i64) (.int .i64)))), .slot 15 (.cell (.int .i64)), .slot 16 (.cell (.int .i64))])]⟩
def a_s_FitsWindow : FAnn := ⟨49, 0, [.slot 0 (.cell (.str)), .slot 1 (.agg [.int .i64, .int .i64, .int .i64, .int .i64])], [.slot 0 (.cell (.bool)), .slot 1 (.cell (.bool))],
  [(5, [.blk (.box 67 [.int .i64, .int .i64, .int .i64, .int .i64]), .blk (.arr 106 false (.sl (.pair (.int .i64) (.int .i64)))), .slot 3 (.ref 0 true), .slot 28 (.ref 1 false), .slot 29 (.cell (.int .i64)), .slot 30 (.cell (.int .i64))])],
  [(5, [(.exit 0, []), (.ret, [.slot 4 (.cell (.bool)), .slot 5 (.cell (.bool))])])],
  []⟩
def a_i_within : FAnn := ⟨61, 0, [.slot 0 (.cell (.int .i64)), .slot 1 (.cell (.int .i64)), .slot 2 (.cell (.int .i64))], [.slot 0 (.cell (.bool))],
  [],
  [],
  []⟩
def a_strings_Split : FAnn := ⟨86, 0, [.slot 0 (.cell (.str)), .slot 1 (.cell (.str))], [.blk (.arr 9 true (.str)), .slot 0 (.ref 0 false)],
  [],
  [],
  []⟩
def a_slices_Index_Sstring_string : FAnn := ⟨157, 0, [.slot 0 (.cell (.im (.str))), .slot 1 (.cell (.str))], [.slot 0 (.cell (.int .i64))],
  [(2, [.slot 0 (.cell (.im (.str))), .slot 1 (.cell (.str)), .slot 7 (.cell (.int .i64)), .slot 8 (.cell (.int .i64))])],
  [(2, [(.exit 0, []), (.ret, [.slot 4 (.cell (.int .i64))])])],
  []⟩
def a_slices_Contains_Sstring_string : FAnn := ⟨139, 0, [.slot 0 (.cell (.im (.str))), .slot 1 (.cell (.str))], [.slot 0 (.cell (.bool))],
  [],
  [],
  []⟩
def a_i_path_fault : FAnn := ⟨116, 1, [.blk (.box 124 [.im (.str), .int .i64, .at 1, .at 2, .bool]), .blk (.arr 106 false (.sl (.pair (.int .i64) (.int .i64)))), .blk (.arr 110 true (.pair (.int .i64) (.int .i64))), .slot 0 (.ref 0 true), .slot 1 (.cell (.str))], [.blk (.box 124 [.im (.str), .int .i64, .at 1, .at 2, .bool]), .blk (.arr 106 false (.sl (.pair (.int .i64) (.int .i64)))), .blk (.arr 110 true (.pair (.int .i64) (.int .i64))), .slot 0 (.cell (.int .i64))],
  [],
  [],
  []⟩
def a_strings_Contains : FAnn := ⟨117, 0, [.slot 0 (.cell (.str)), .slot 1 (.cell (.str))], [.slot 0 (.cell (.bool))],
  [],
  [],
  []⟩
def a_strconv_Atoi : FAnn := ⟨85, 0, [.slot 0 (.cell (.str))], [.slot 0 (.cell (.int .i64)), .slot 1 (.cell (.err))],
  [],
  [],
  []⟩
def a_i_isNumber : FAnn := ⟨54, 0, [.slot 0 (.cell (.int .i64))], [.slot 0 (.cell (.bool))],
  [],
  [],
  []⟩
def a_strconv_Itoa : FAnn := ⟨55, 0, [.slot 0 (.cell (.int .i64))], [.slot 0 (.cell (.str))],
  [],
  [],
  []⟩
def a_i_ReadNumber : FAnn := ⟨38, 0, [.slot 0 (.cell (.str))], [.slot 0 (.cell (.int .i64)), .slot 1 (.cell (.bool))],
  [],
  [],
  []⟩
def a_i_path_number : FAnn := ⟨118, 1, [.blk (.box 124 [.im (.str), .int .i64, .at 1, .at 2, .bool]), .blk (.arr 106 false (.sl (.pair (.int .i64) (.int .i64)))), .blk (.arr 110 true (.pair (.int .i64) (.int .i64))), .slot 0 (.ref 0 true)], [.blk (.box 124 [.im (.str), .int .i64, .at 1, .at 2, .bool]), .blk (.arr 106 false (.sl (.pair (.int .i64) (.int .i64)))), .blk (.arr 110 true (.pair (.int .i64) (.int .i64))), .slot 0 (.cell (.int .i64)), .slot 1 (.cell (.bool))],
  [],
  [],
  []⟩
def a_i_path_next : FAnn := ⟨119, 1, [.blk (.box 124 [.im (.str), .int .i64, .at 1, .at 2, .bool]), .blk (.arr 106 false (.sl (.pair (.int .i64) (.int .i64)))), .blk (.arr 110 true (.pair (.int .i64) (.int .i64))), .slot 0 (.ref 0 true), .slot 1 (.cell (.str)), .slot 2 (.cell (.im (.int .i64)))], [.blk (.box 124 [.im (.str), .int .i64, .at 1, .at 2, .bool]), .blk (.arr 106 false (.sl (.pair (.int .i64) (.int .i64)))), .blk (.arr 110 true (.pair (.int .i64) (.int .i64))), .slot 0 (.agg [.int .i64, .int .i64])],
  [],
  [],
  [(4, [.blk (.box 124 [.im (.str), .int .i64, .at 3, .at 4, .bool]), .blk (.box 110 [.int .i64, .int .i64]), .blk (.box 110 [.int .i64, .int .i64]), .blk (.arr 106 false (.sl (.pair (.int .i64) (.int .i64)))), .blk (.arr 110 true (.pair (.int .i64) (.int .i64))), .slot 1 (.cell (.str)), .slot 2 (.cell (.im (.int .i64))), .slot 6 (.ref 1 true), .slot 7 (.ref 2 true)])]⟩
def a_i_GoodPt : FAnn := ⟨120, 0, [.slot 0 (.agg [.int .i64, .int .i64])], [.slot 0 (.cell (.bool))],
  [],
  [],
  []⟩
def a_i_path_command : FAnn := ⟨90, 1, [.blk (.box 124 [.im (.str), .int .i64, .at 1, .at 2, .bool]), .blk (.arr 106 false (.sl (.pair (.int .i64) (.int .i64)))), .blk (.arr 110 true (.pair (.int .i64) (.int .i64))), .slot 0 (.ref 0 true)], [.blk (.box 124 [.im (.str), .int .i64, .at 1, .at 2, .bool]), .blk (.arr 106 false (.sl (.pair (.int .i64) (.int .i64)))), .blk (.arr 110 true (.pair (.int .i64) (.int .i64))), .slot 0 (.cell (.int .i64)), .slot 1 (.cell (.int .i64))],
  [(14, [.blk (.box 124 [.im (.str), .int .i64, .at 2, .at 3, .bool]), .blk (.arr 3 true (.int .i64)), .blk (.arr 106 false (.sl (.pair (.int .i64) (.int .i64)))), .blk (.arr 110 true (.pair (.int .i64) (.int .i64))), .slot 0 (.ref 0 true), .slot 4 (.cell (.str)), .slot 7 (.ref 1 false), .slot 62 (.cell (.int .i64)), .slot 63 (.cell (.int .i64))])],
  [(14, [(.exit 0, [.blk (.box 124 [.im (.str), .int .i64, .at 2, .at 3, .bool]), .blk (.arr 3 true (.int .i64)), .blk (.arr 106 false (.sl (.pair (.int .i64) (.int .i64)))), .blk (.arr 110 true (.pair (.int .i64) (.int .i64))), .slot 0 (.ref 0 true), .slot 4 (.cell (.str)), .slot 7 (.ref 1 false)]), (.ret, [.blk (.box 124 [.im (.str), .int .i64, .at 1, .at 2, .bool]), .blk (.arr 106 false (.sl (.pair (.int .i64) (.int .i64)))), .blk (.arr 110 true (.pair (.int .i64) (.int .i64))), .slot 2 (.cell (.int .i64)), .slot 3 (.cell (.int .i64))])])],
  [(12, [.blk (.box 124 [.im (.str), .int .i64, .at 1, .at 2, .bool]), .blk (.arr 106 false (.sl (.pair (.int .i64) (.int .i64)))), .blk (.arr 110 true (.pair (.int .i64) (.int .i64))), .slot 0 (.ref 0 true), .slot 4 (.cell (.str)), .slot 6 (.cell (.int .i64))])]⟩
def a_i_ParsePath : FAnn := ⟨46, 0, [.slot 0 (.cell (.str))], [.slot 0 (.cell (.im (.sl (.pair (.int .i64) (.int .i64))))), .slot 1 (.cell (.int .i64)), .slot 2 (.cell (.int .i64)), .slot 3 (.cell (.bool))],
  [(4, [.blk (.box 124 [.im (.str), .int .i64, .at 1, .at 2, .bool]), .blk (.arr 106 false (.sl (.pair (.int .i64) (.int .i64)))), .blk (.arr 110 true (.pair (.int .i64) (.int .i64))), .slot 6 (.ref 0 true)])],
  [(4, [(.exit 0, [.blk (.box 124 [.im (.str), .int .i64, .at 1, .at 2, .bool]), .blk (.arr 106 false (.sl (.pair (.int .i64) (.int .i64)))), .blk (.arr 110 true (.pair (.int .i64) (.int .i64))), .slot 6 (.ref 0 true)]), (.ret, [.slot 2 (.cell (.im (.sl (.pair (.int .i64) (.int .i64))))), .slot 3 (.cell (.int .i64)), .slot 4 (.cell (.int .i64)), .slot 5 (.cell (.bool))])])],
  []⟩
def a_i_GoodWindow : FAnn := ⟨95, 0, [.slot 0 (.agg [.int .i64, .int .i64, .int .i64, .int .i64])], [.slot 0 (.cell (.bool))],
  [],
  [],
  []⟩
def a_i_FitsWindow : FAnn := ⟨51, 0, [.slot 0 (.cell (.str)), .slot 1 (.agg [.int .i64, .int .i64, .int .i64, .int .i64])], [.slot 0 (.cell (.bool)), .slot 1 (.cell (.bool))],
  [(5, [.blk (.box 67 [.int .i64, .int .i64, .int .i64, .int .i64]), .slot 3 (.ref 0 true), .slot 28 (.cell (.im (.sl (.pair (.int .i64) (.int .i64))))), .slot 29 (.cell (.int .i64)), .slot 30 (.cell (.int .i64))]), (8, [.blk (.box 67 [.int .i64, .int .i64, .int .i64, .int .i64]), .slot 3 (.ref 0 true), .slot 28 (.cell (.im (.sl (.pair (.int .i64) (.int .i64))))), .slot 29 (.cell (.int .i64)), .slot 30 (.cell (.int .i64)), .slot 34 (.cell (.im (.pair (.int .i64) (.int .i64)))), .slot 35 (.cell (.int .i64)), .slot 36 (.cell (.int .i64))])],
  [(5, [(.exit 0, []), (.ret, [.slot 4 (.cell (.bool)), .slot 5 (.cell (.bool))])]), (8, [(.exit 2, [.blk (.box 67 [.int .i64, .int .i64, .int .i64, .int .i64]), .slot 3 (.ref 0 true), .slot 28 (.cell (.im (.sl (.pair (.int .i64) (.int .i64))))), .slot 29 (.cell (.int .i64)), .slot 30 (.cell (.int .i64))]), (.ret, [.slot 4 (.cell (.bool)), .slot 5 (.cell (.bool))])])],
  []⟩
def a_l_FnExactFitsWindow : FAnn := ⟨13, 0, [.slot 0 (.cell (.str)), .slot 1 (.agg [.int .i64, .int .i64, .int .i64, .int .i64])], [.slot 0 (.cell (.bool))],
  [],
  [],
  []⟩
def annTab : List FAnn := [a_l_toWindow, a_s_l16Words, a_s_l15Int, a_s_ReadNumber, a_s_l16P_number, a_s_l1In, a_s_GoodPt, a_s_l16P_point, a_s_l16P_command, a_s_ParsePath, a_s_GoodWindow, a_s_l9Box, a_s_FitsWindow, a_i_within, a_strings_Split, a_slices_Index_Sstring_string, a_slices_Contains_Sstring_string, a_i_path_fault, a_strings_Contains, a_strconv_Atoi, a_i_isNumber, a_strconv_Itoa, a_i_ReadNumber, a_i_path_number, a_i_path_next, a_i_GoodPt, a_i_path_command, a_i_ParsePath, a_i_GoodWindow, a_i_FitsWindow, a_l_FnExactFitsWindow]
def noExt : Rel := fun _ _ _ _ _ => False
def ext0 : Rel := fun g args blks r blks' => splitRel 86 9 g args blks r blks' ∨ containsRel 117 g args blks r blks' ∨ atoiRel 85 g args blks r blks' ∨ itoaRel 55 g args blks r blks'
theorem ent_split : Ent0 Tryd.prog 86 := ⟨Tryd.f86, Tryd.func86, by kernel_rfl, by kernel_rfl⟩
theorem ent_contains : Ent0 Tryd.prog 117 := ⟨Tryd.f117, Tryd.func117, by kernel_rfl, by kernel_rfl⟩
theorem ent_atoi : Ent0 Tryd.prog 85 := ⟨Tryd.f85, Tryd.func85, by kernel_rfl, by kernel_rfl⟩
theorem ent_itoa : Ent0 Tryd.prog 55 := ⟨Tryd.f55, Tryd.func55, by kernel_rfl, by kernel_rfl⟩
structure LibJ (J : Tabs) : Prop where
  tab : JTab Tryd.prog J "internal/strconv.uint64pow10" .u64 Lib.pow10Tab
  max : JMax J 2
  syn : JVar Tryd.prog J "strconv.ErrSyntax"
  rng : JVar Tryd.prog J "strconv.ErrRange"
theorem ext_spec {J : Tabs} (hJ : LibJ J) : ∀ g args blks r blks', ext0 g args blks r blks' → CSpec Tryd.prog J g args blks r blks' := by
  intro g args blks r blks' h
  rcases h with h | h | h | h
  · exact split_spec ent_split Tryd.strings_Split hJ.max _ _ _ _ _ h
  · exact contains_spec ent_contains Tryd.strings_Contains hJ.max _ _ _ _ _ h
  · exact atoi_spec ent_atoi Tryd.strconv_Atoi_ok Tryd.strconv_Atoi_syntax_var Tryd.strconv_Atoi_range_var hJ.syn hJ.rng _ _ _ _ _ h
  · exact itoa_spec ent_itoa Tryd.strconv_Itoa hJ.tab _ _ _ _ _ h
def cf0 : Cfg := cfOf annTab fun g => ([86, 117, 85, 55] : List Nat).contains g
abbrev RR : Rel := Runs Tryd.prog cf0 ext0

/-- loop.example/g00409/laws.toWindow -/
noncomputable def F_l_toWindow (a0 : (Int × (Int × (Int × Int)))) : Option ((Int × Int × Int × Int)) :=
  some (a0.1, (a0.2.1, (a0.2.2.1, a0.2.2.2)))
noncomputable def E_l_toWindow : Ent := ⟨a_l_toWindow, fun x => F_l_toWindow x⟩
noncomputable def X_l_toWindow : TX := ⟨tyTab, codTab, [], [4], [], a_l_toWindow⟩
set_option maxHeartbeats 2000000 in
theorem W_l_toWindow (a0 : (Int × Int × Int × Int)) : wtF X_l_toWindow Tryd.f50 (a0) = F_l_toWindow a0 := by kernel_rfl
theorem OK_l_toWindow : EntOK RR E_l_toWindow := fn_done (X := X_l_toWindow) ⟨tyOK, boolOK, eqOK⟩ (ents_of (by exact trivial)) (cf_ok (by kernel_rfl)) ⟨Tryd.func50, rfl, by kernel_rfl, rfl⟩ (fun x => by exact W_l_toWindow x)

/-- loop.example/g00409/spec.l16Words -/
noncomputable def B_s_l16Words_0 (s0 : (List (List UInt8))) (s1 : (List UInt8)) (s2 : Int) (s3 : Int) : Option (((List (List UInt8)) × ((List UInt8) × (Int × Int))) ⊕ ((List (List UInt8)) × ((List UInt8) × Int))) :=
  bif decide (s3 < (((List.length s1) : Nat) : Int)) then
    ((getI s1 s3)).bind fun x0 =>
    bif ((((UInt8.toNat x0) : Nat) : Int) == (32 : Int)) then
      ((subI s2 s3 (List.length s1))).bind fun x1 =>
      ((appL 16 1 s0 (List.cons (List.drop x1.1 (List.take x1.2 s1)) List.nil))).bind fun x2 =>
      some (Sum.inl (x2, (s1, ((Go.IntKind.wrap Go.IntKind.i64 (s3 + (1 : Int))), (Go.IntKind.wrap Go.IntKind.i64 (s3 + (1 : Int)))))))
    else
    some (Sum.inl (s0, (s1, (s2, (Go.IntKind.wrap Go.IntKind.i64 (s3 + (1 : Int)))))))
  else
  some (Sum.inr (s0, (s1, s2)))
noncomputable def F_s_l16Words (a0 : (List UInt8)) : Option (List (List UInt8)) :=
  (loopM (fun (s : ((List (List UInt8)) × ((List UInt8) × (Int × Int)))) => B_s_l16Words_0 s.1 s.2.1 s.2.2.1 s.2.2.2) (List.nil, (a0, ((0 : Int), (0 : Int))))).bind fun x0 =>
  ((subI x0.2.2 (((List.length x0.2.1) : Nat) : Int) (List.length x0.2.1))).bind fun x1 =>
  ((appL 16 1 x0.1 (List.cons (List.drop x1.1 (List.take x1.2 x0.2.1)) List.nil))).bind fun x2 =>
  some x2
noncomputable def E_s_l16Words : Ent := ⟨a_s_l16Words, fun x => F_s_l16Words x⟩
noncomputable def X_s_l16Words : TX := ⟨tyTab, codTab, [], [4], [], a_s_l16Words⟩
set_option maxHeartbeats 2000000 in
theorem W_s_l16Words (a0 : List UInt8) : wtF X_s_l16Words Tryd.f88 (a0) = F_s_l16Words a0 := by kernel_rfl
theorem OK_s_l16Words : EntOK RR E_s_l16Words := fn_done (X := X_s_l16Words) ⟨tyOK, boolOK, eqOK⟩ (ents_of (by exact trivial)) (cf_ok (by kernel_rfl)) ⟨Tryd.func88, rfl, by kernel_rfl, rfl⟩ (fun x => by exact W_s_l16Words x)

/-- loop.example/g00409/spec.l15Int -/
noncomputable def B_s_l15Int_0 (s0 : (List UInt8)) (s1 : Int) (s2 : Int) (s3 : Int) : Option (((List UInt8) × (Int × (Int × Int))) ⊕ ((List UInt8) × (Int × (Int × Int)))) :=
  bif decide (s3 < (((List.length s0) : Nat) : Int)) then
    bif decide (s3 < (Go.IntKind.wrap Go.IntKind.i64 (s1 + (4 : Int)))) then
      ((getI s0 s3)).bind fun x0 =>
      bif decide ((((UInt8.toNat x0) : Nat) : Int) ≥ (48 : Int)) then
        ((getI s0 s3)).bind fun x1 =>
        bif decide ((((UInt8.toNat x1) : Nat) : Int) ≤ (57 : Int)) then
          ((getI s0 s3)).bind fun x2 =>
          some (Sum.inl (s0, (s1, ((Go.IntKind.wrap Go.IntKind.i64 ((Go.IntKind.wrap Go.IntKind.i64 ((10 : Int) * s2)) + (Go.IntKind.wrap Go.IntKind.i64 (Go.IntKind.wrap Go.IntKind.u8 ((((UInt8.toNat x2) : Nat) : Int) - (48 : Int)))))), (Go.IntKind.wrap Go.IntKind.i64 (s3 + (1 : Int)))))))
        else
        some (Sum.inr (s0, (s1, (s2, s3))))
      else
      some (Sum.inr (s0, (s1, (s2, s3))))
    else
    some (Sum.inr (s0, (s1, (s2, s3))))
  else
  some (Sum.inr (s0, (s1, (s2, s3))))
noncomputable def F_s_l15Int (a0 : (List UInt8)) (a1 : Int) : Option (Int × Int) :=
  (loopM (fun (s : ((List UInt8) × (Int × (Int × Int)))) => B_s_l15Int_0 s.1 s.2.1 s.2.2.1 s.2.2.2) (a0, (a1, ((0 : Int), a1)))).bind fun x0 =>
  bif (x0.2.2.2 == x0.2.1) then
    some ((-(1 : Int)), x0.2.1)
  else
  ((getI x0.1 x0.2.1)).bind fun x1 =>
  bif ((((UInt8.toNat x1) : Nat) : Int) == (48 : Int)) then
    bif decide (x0.2.2.2 > (Go.IntKind.wrap Go.IntKind.i64 (x0.2.1 + (1 : Int)))) then
      some ((-(1 : Int)), x0.2.1)
    else
    some (x0.2.2.1, x0.2.2.2)
  else
  some (x0.2.2.1, x0.2.2.2)
noncomputable def E_s_l15Int : Ent := ⟨a_s_l15Int, fun x => F_s_l15Int x.1 x.2⟩
noncomputable def X_s_l15Int : TX := ⟨tyTab, codTab, [], [4], [], a_s_l15Int⟩
set_option maxHeartbeats 2000000 in
theorem W_s_l15Int (a0 : List UInt8) (a1 : Int) : wtF X_s_l15Int Tryd.f84 (a0, a1) = F_s_l15Int a0 a1 := by kernel_rfl
theorem OK_s_l15Int : EntOK RR E_s_l15Int := fn_done (X := X_s_l15Int) ⟨tyOK, boolOK, eqOK⟩ (ents_of (by exact trivial)) (cf_ok (by kernel_rfl)) ⟨Tryd.func84, rfl, by kernel_rfl, rfl⟩ (fun x => by exact W_s_l15Int x.1 x.2)

/-- loop.example/g00409/spec.ReadNumber -/
noncomputable def F_s_ReadNumber (a0 : (List UInt8)) : Option (Int × Bool) :=
  (bif decide ((((List.length a0) : Nat) : Int) > (0 : Int)) then
      ((getI a0 (0 : Int))).bind fun x0 =>
      some (Sum.inr (a0, ((((UInt8.toNat x0) : Nat) : Int) == (45 : Int))))
    else
    some (Sum.inr (a0, false))).bind fun x1 =>
  Sum.elim
    (fun x2 =>
    some x2)
    (fun x3 =>
    (bif x3.2 then
        ((subI (1 : Int) (((List.length x3.1) : Nat) : Int) (List.length x3.1))).bind fun x4 =>
        some (Sum.inr (x3.2, (List.drop x4.1 (List.take x4.2 x3.1))))
      else
      some (Sum.inr (x3.2, x3.1))).bind fun x5 =>
    Sum.elim
      (fun x6 =>
      some x6)
      (fun x7 =>
      ((F_s_l15Int x7.2 (0 : Int))).bind fun x8 =>
      (bif decide (x8.1 < (0 : Int)) then
          some (Sum.inl ((0 : Int), false))
        else
        bif decide (x8.2 < (((List.length x7.2) : Nat) : Int)) then
          some (Sum.inl ((0 : Int), false))
        else
        bif x7.1 then
          bif (x8.1 == (0 : Int)) then
            some (Sum.inl ((0 : Int), false))
          else
          some (Sum.inr (x7.1, x8.1))
        else
        some (Sum.inr (x7.1, x8.1))).bind fun x9 =>
      Sum.elim
        (fun x10 =>
        some x10)
        (fun x11 =>
        bif x11.1 then
          some ((Go.IntKind.wrap Go.IntKind.i64 ((0 : Int) - x11.2)), true)
        else
        some (x11.2, true))
        x9)
      x5)
    x1
noncomputable def E_s_ReadNumber : Ent := ⟨a_s_ReadNumber, fun x => F_s_ReadNumber x⟩
noncomputable def X_s_ReadNumber : TX := ⟨tyTab, codTab, [], [4], [E_s_l15Int], a_s_ReadNumber⟩
set_option maxHeartbeats 2000000 in
theorem W_s_ReadNumber (a0 : List UInt8) : wtF X_s_ReadNumber Tryd.f37 (a0) = F_s_ReadNumber a0 := by kernel_rfl
theorem OK_s_ReadNumber : EntOK RR E_s_ReadNumber := fn_done (X := X_s_ReadNumber) ⟨tyOK, boolOK, eqOK⟩ (ents_of (by exact ⟨⟨OK_s_l15Int, rfl⟩, trivial⟩)) (cf_ok (by kernel_rfl)) ⟨Tryd.func37, rfl, by kernel_rfl, rfl⟩ (fun x => by exact W_s_ReadNumber x)

/-- (*loop.example/g00409/spec.l16P).number -/
noncomputable def F_s_l16P_number (a0 : ((List (List UInt8)) × (Int × Int))) (a1 : (List (List (Int × Int)))) (a2 : (List (Int × Int))) : Option ((List (List UInt8) × Int × Int) × List (List ((Int × Int))) × List ((Int × Int)) × Int) :=
  bif (a0.2.2 != (0 : Int)) then
    some ((a0.1, (a0.2.1, a0.2.2)), (a1, (a2, (0 : Int))))
  else
  bif (a0.2.1 == (((List.length a0.1) : Nat) : Int)) then
    some ((a0.1, (a0.2.1, (3 : Int))), (a1, (a2, (0 : Int))))
  else
  ((getI a0.1 a0.2.1)).bind fun x0 =>
  ((F_s_ReadNumber x0)).bind fun x1 =>
  bif (!x1.2) then
    some ((a0.1, (a0.2.1, (3 : Int))), (a1, (a2, (0 : Int))))
  else
  some ((a0.1, ((Go.IntKind.wrap Go.IntKind.i64 (a0.2.1 + (1 : Int))), a0.2.2)), (a1, (a2, x1.1)))
noncomputable def E_s_l16P_number : Ent := ⟨a_s_l16P_number, fun x => F_s_l16P_number x.1 x.2.1 x.2.2⟩
noncomputable def X_s_l16P_number : TX := ⟨tyTab, codTab, [], [4], [E_s_ReadNumber], a_s_l16P_number⟩
set_option maxHeartbeats 2000000 in
theorem W_s_l16P_number (a0 : (List (List UInt8) × Int × Int)) (a1 : List (List ((Int × Int)))) (a2 : List ((Int × Int))) : wtF X_s_l16P_number Tryd.f114 (a0, a1, a2) = F_s_l16P_number a0 a1 a2 := by kernel_rfl
theorem OK_s_l16P_number : EntOK RR E_s_l16P_number := fn_done (X := X_s_l16P_number) ⟨tyOK, boolOK, eqOK⟩ (ents_of (by exact ⟨⟨OK_s_ReadNumber, rfl⟩, trivial⟩)) (cf_ok (by kernel_rfl)) ⟨Tryd.func114, rfl, by kernel_rfl, rfl⟩ (fun x => by exact W_s_l16P_number x.1 x.2.1 x.2.2)

/-- loop.example/g00409/spec.l1In -/
noncomputable def F_s_l1In (a0 : Int) (a1 : Int) (a2 : Int) : Option (Bool) :=
  bif decide (a0 ≥ a1) then
    some (decide (a0 ≤ a2))
  else
  some false
noncomputable def E_s_l1In : Ent := ⟨a_s_l1In, fun x => F_s_l1In x.1 x.2.1 x.2.2⟩
noncomputable def X_s_l1In : TX := ⟨tyTab, codTab, [], [4], [], a_s_l1In⟩
set_option maxHeartbeats 2000000 in
theorem W_s_l1In (a0 : Int) (a1 : Int) (a2 : Int) : wtF X_s_l1In Tryd.f52 (a0, a1, a2) = F_s_l1In a0 a1 a2 := by kernel_rfl
theorem OK_s_l1In : EntOK RR E_s_l1In := fn_done (X := X_s_l1In) ⟨tyOK, boolOK, eqOK⟩ (ents_of (by exact trivial)) (cf_ok (by kernel_rfl)) ⟨Tryd.func52, rfl, by kernel_rfl, rfl⟩ (fun x => by exact W_s_l1In x.1 x.2.1 x.2.2)

/-- loop.example/g00409/spec.GoodPt -/
noncomputable def F_s_GoodPt (a0 : (Int × Int)) : Option (Bool) :=
  ((F_s_l1In a0.1 (-(1000 : Int)) (1000 : Int))).bind fun x0 =>
  bif x0 then
    ((F_s_l1In a0.2 (-(1000 : Int)) (1000 : Int))).bind fun x1 =>
    some x1
  else
  some false
noncomputable def E_s_GoodPt : Ent := ⟨a_s_GoodPt, fun x => F_s_GoodPt x⟩
noncomputable def X_s_GoodPt : TX := ⟨tyTab, codTab, [], [4], [E_s_l1In], a_s_GoodPt⟩
set_option maxHeartbeats 2000000 in
theorem W_s_GoodPt (a0 : (Int × Int)) : wtF X_s_GoodPt Tryd.f138 (a0) = F_s_GoodPt a0 := by kernel_rfl
theorem OK_s_GoodPt : EntOK RR E_s_GoodPt := fn_done (X := X_s_GoodPt) ⟨tyOK, boolOK, eqOK⟩ (ents_of (by exact ⟨⟨OK_s_l1In, rfl⟩, trivial⟩)) (cf_ok (by kernel_rfl)) ⟨Tryd.func138, rfl, by kernel_rfl, rfl⟩ (fun x => by exact W_s_GoodPt x)

/-- (*loop.example/g00409/spec.l16P).point -/
noncomputable def F_s_l16P_point (a0 : ((List (List UInt8)) × (Int × Int))) (a1 : (List (List (Int × Int)))) (a2 : (List (Int × Int))) (a3 : (Int × Int)) : Option ((List (List UInt8) × Int × Int) × List (List ((Int × Int))) × List ((Int × Int))) :=
  bif (a0.2.2 != (0 : Int)) then
    some ((a0.1, (a0.2.1, a0.2.2)), (a1, a2))
  else
  ((F_s_GoodPt (a3.1, a3.2))).bind fun x0 =>
  bif (!x0) then
    some ((a0.1, ((Go.IntKind.wrap Go.IntKind.i64 (a0.2.1 - (1 : Int))), (6 : Int))), (a1, a2))
  else
  ((appL 16 2 a2 (List.cons (a3.1, a3.2) List.nil))).bind fun x1 =>
  some ((a0.1, (a0.2.1, a0.2.2)), (a1, x1))
noncomputable def E_s_l16P_point : Ent := ⟨a_s_l16P_point, fun x => F_s_l16P_point x.1 x.2.1 x.2.2.1 x.2.2.2⟩
noncomputable def X_s_l16P_point : TX := ⟨tyTab, codTab, [], [4], [E_s_GoodPt], a_s_l16P_point⟩
set_option maxHeartbeats 2000000 in
theorem W_s_l16P_point (a0 : (List (List UInt8) × Int × Int)) (a1 : List (List ((Int × Int)))) (a2 : List ((Int × Int))) (a3 : (Int × Int)) : wtF X_s_l16P_point Tryd.f115 (a0, a1, a2, a3) = F_s_l16P_point a0 a1 a2 a3 := by kernel_rfl
theorem OK_s_l16P_point : EntOK RR E_s_l16P_point := fn_done (X := X_s_l16P_point) ⟨tyOK, boolOK, eqOK⟩ (ents_of (by exact ⟨⟨OK_s_GoodPt, rfl⟩, trivial⟩)) (cf_ok (by kernel_rfl)) ⟨Tryd.func115, rfl, by kernel_rfl, rfl⟩ (fun x => by exact W_s_l16P_point x.1 x.2.1 x.2.2.1 x.2.2.2)

/-- (*loop.example/g00409/spec.l16P).command -/
noncomputable def B_s_l16P_command_0 (s0 : ((List (List UInt8)) × (Int × Int))) (s1 : (List (List UInt8))) (s2 : (List (List (Int × Int)))) (s3 : (List (Int × Int))) (s4 : (List UInt8)) (s5 : Bool) (s6 : Bool) (s7 : Int) (s8 : Int) : Option ((((List (List UInt8)) × (Int × Int)) × ((List (List UInt8)) × ((List (List (Int × Int))) × ((List (Int × Int)) × ((List UInt8) × (Bool × (Bool × (Int × Int)))))))) ⊕ (((List (List UInt8)) × (Int × Int)) × ((List (List (Int × Int))) × ((List (Int × Int)) × ((List UInt8) × (Bool × Bool)))))) :=
  bif decide (s8 < s7) then
    ((idxI s8 (List.length s1))).bind fun x0 =>
    ((getN s1 x0)).bind fun x1 =>
    bif s6 then
      some (Sum.inl ((s0.1, (s0.2.1, s0.2.2)), (s1, (s2, (s3, (s4, (s5, (true, (s7, (Go.IntKind.wrap Go.IntKind.i64 (s8 + (1 : Int))))))))))))
    else
    some (Sum.inl ((s0.1, (s0.2.1, s0.2.2)), (s1, (s2, (s3, (s4, (s5, ((x1 == s4), (s7, (Go.IntKind.wrap Go.IntKind.i64 (s8 + (1 : Int))))))))))))
  else
  some (Sum.inr ((s0.1, (s0.2.1, s0.2.2)), (s2, (s3, (s4, (s5, s6))))))
noncomputable def F_s_l16P_command (a0 : ((List (List UInt8)) × (Int × Int))) (a1 : (List (List (Int × Int)))) (a2 : (List (Int × Int))) : Option ((List (List UInt8) × Int × Int) × List (List ((Int × Int))) × List ((Int × Int))) :=
  ((getI a0.1 a0.2.1)).bind fun x0 =>
  (loopM (fun (s : (((List (List UInt8)) × (Int × Int)) × ((List (List UInt8)) × ((List (List (Int × Int))) × ((List (Int × Int)) × ((List UInt8) × (Bool × (Bool × (Int × Int))))))))) => B_s_l16P_command_0 s.1 s.2.1 s.2.2.1 s.2.2.2.1 s.2.2.2.2.1 s.2.2.2.2.2.1 s.2.2.2.2.2.2.1 s.2.2.2.2.2.2.2.1 s.2.2.2.2.2.2.2.2) ((a0.1, (a0.2.1, a0.2.2)), ((List.cons (List.cons 77 List.nil) (List.cons (List.cons 76 List.nil) (List.cons (List.cons 108 List.nil) (List.cons (List.cons 72 List.nil) (List.cons (List.cons 104 List.nil) (List.cons (List.cons 86 List.nil) (List.cons (List.cons 118 List.nil) (List.cons (List.cons 90 List.nil) List.nil)))))))), (a1, (a2, (x0, (decide ((((List.length a2) : Nat) : Int) > (0 : Int)), (false, (((8 : Nat) : Int), (0 : Int)))))))))).bind fun x1 =>
  (bif (!x1.2.2.2.2.2) then
      some (Sum.inr ((x1.1.1, (x1.1.2.1, (2 : Int))), (x1.2.1, (x1.2.2.1, (x1.2.2.2.1, x1.2.2.2.2.1)))))
    else
    bif (x1.2.2.2.2.1 == (x1.2.2.2.1 == (List.cons 77 List.nil))) then
      some (Sum.inr ((x1.1.1, (x1.1.2.1, (4 : Int))), (x1.2.1, (x1.2.2.1, (x1.2.2.2.1, x1.2.2.2.2.1)))))
    else
    bif (x1.2.2.2.1 == (List.cons 77 List.nil)) then
      bif ((((List.length x1.2.1) : Nat) : Int) == (4 : Int)) then
        bif ((((List.length x1.2.1) : Nat) : Int) == (4 : Int)) then
          some (Sum.inr ((x1.1.1, (x1.1.2.1, (5 : Int))), (x1.2.1, (x1.2.2.1, (x1.2.2.2.1, x1.2.2.2.2.1)))))
        else
        some (Sum.inr ((x1.1.1, (x1.1.2.1, x1.1.2.2)), (x1.2.1, (x1.2.2.1, (x1.2.2.2.1, x1.2.2.2.2.1)))))
      else
      bif (x1.2.2.2.1 == (List.cons 90 List.nil)) then
        bif decide ((((List.length x1.2.2.1) : Nat) : Int) < (3 : Int)) then
          bif decide ((((List.length x1.2.2.1) : Nat) : Int) < (3 : Int)) then
            some (Sum.inr ((x1.1.1, (x1.1.2.1, (5 : Int))), (x1.2.1, (x1.2.2.1, (x1.2.2.2.1, x1.2.2.2.2.1)))))
          else
          some (Sum.inr ((x1.1.1, (x1.1.2.1, x1.1.2.2)), (x1.2.1, (x1.2.2.1, (x1.2.2.2.1, x1.2.2.2.2.1)))))
        else
        bif (!(x1.2.2.2.1 == (List.cons 90 List.nil))) then
          bif ((((List.length x1.2.2.1) : Nat) : Int) == (12 : Int)) then
            some (Sum.inr ((x1.1.1, (x1.1.2.1, (5 : Int))), (x1.2.1, (x1.2.2.1, (x1.2.2.2.1, x1.2.2.2.2.1)))))
          else
          some (Sum.inr ((x1.1.1, (x1.1.2.1, x1.1.2.2)), (x1.2.1, (x1.2.2.1, (x1.2.2.2.1, x1.2.2.2.2.1)))))
        else
        some (Sum.inr ((x1.1.1, (x1.1.2.1, x1.1.2.2)), (x1.2.1, (x1.2.2.1, (x1.2.2.2.1, x1.2.2.2.2.1)))))
      else
      bif (!(x1.2.2.2.1 == (List.cons 90 List.nil))) then
        bif ((((List.length x1.2.2.1) : Nat) : Int) == (12 : Int)) then
          some (Sum.inr ((x1.1.1, (x1.1.2.1, (5 : Int))), (x1.2.1, (x1.2.2.1, (x1.2.2.2.1, x1.2.2.2.2.1)))))
        else
        some (Sum.inr ((x1.1.1, (x1.1.2.1, x1.1.2.2)), (x1.2.1, (x1.2.2.1, (x1.2.2.2.1, x1.2.2.2.2.1)))))
      else
      some (Sum.inr ((x1.1.1, (x1.1.2.1, x1.1.2.2)), (x1.2.1, (x1.2.2.1, (x1.2.2.2.1, x1.2.2.2.2.1)))))
    else
    bif (x1.2.2.2.1 == (List.cons 90 List.nil)) then
      bif decide ((((List.length x1.2.2.1) : Nat) : Int) < (3 : Int)) then
        bif decide ((((List.length x1.2.2.1) : Nat) : Int) < (3 : Int)) then
          some (Sum.inr ((x1.1.1, (x1.1.2.1, (5 : Int))), (x1.2.1, (x1.2.2.1, (x1.2.2.2.1, x1.2.2.2.2.1)))))
        else
        some (Sum.inr ((x1.1.1, (x1.1.2.1, x1.1.2.2)), (x1.2.1, (x1.2.2.1, (x1.2.2.2.1, x1.2.2.2.2.1)))))
      else
      bif (!(x1.2.2.2.1 == (List.cons 90 List.nil))) then
        bif ((((List.length x1.2.2.1) : Nat) : Int) == (12 : Int)) then
          some (Sum.inr ((x1.1.1, (x1.1.2.1, (5 : Int))), (x1.2.1, (x1.2.2.1, (x1.2.2.2.1, x1.2.2.2.2.1)))))
        else
        some (Sum.inr ((x1.1.1, (x1.1.2.1, x1.1.2.2)), (x1.2.1, (x1.2.2.1, (x1.2.2.2.1, x1.2.2.2.2.1)))))
      else
      some (Sum.inr ((x1.1.1, (x1.1.2.1, x1.1.2.2)), (x1.2.1, (x1.2.2.1, (x1.2.2.2.1, x1.2.2.2.2.1)))))
    else
    bif (!(x1.2.2.2.1 == (List.cons 90 List.nil))) then
      bif ((((List.length x1.2.2.1) : Nat) : Int) == (12 : Int)) then
        some (Sum.inr ((x1.1.1, (x1.1.2.1, (5 : Int))), (x1.2.1, (x1.2.2.1, (x1.2.2.2.1, x1.2.2.2.2.1)))))
      else
      some (Sum.inr ((x1.1.1, (x1.1.2.1, x1.1.2.2)), (x1.2.1, (x1.2.2.1, (x1.2.2.2.1, x1.2.2.2.2.1)))))
    else
    some (Sum.inr ((x1.1.1, (x1.1.2.1, x1.1.2.2)), (x1.2.1, (x1.2.2.1, (x1.2.2.2.1, x1.2.2.2.2.1)))))).bind fun x2 =>
  Sum.elim
    (fun x3 =>
    some x3)
    (fun x4 =>
    bif (x4.1.2.2 != (0 : Int)) then
      some ((x4.1.1, (x4.1.2.1, x4.1.2.2)), (x4.2.1, x4.2.2.1))
    else
    (bif x4.2.2.2.2 then
        ((idxI (Go.IntKind.wrap Go.IntKind.i64 ((((List.length x4.2.2.1) : Nat) : Int) - (1 : Int))) (List.length x4.2.2.1))).bind fun x5 =>
        ((getN x4.2.2.1 x5)).bind fun x6 =>
        some (Sum.inr ((x4.1.1, ((Go.IntKind.wrap Go.IntKind.i64 (x4.1.2.1 + (1 : Int))), x4.1.2.2)), ((x6.1, x6.2), (x4.2.1, (x4.2.2.1, x4.2.2.2.1)))))
      else
      some (Sum.inr ((x4.1.1, ((Go.IntKind.wrap Go.IntKind.i64 (x4.1.2.1 + (1 : Int))), x4.1.2.2)), (((0 : Int), (0 : Int)), (x4.2.1, (x4.2.2.1, x4.2.2.2.1)))))).bind fun x7 =>
    Sum.elim
      (fun x8 =>
      some x8)
      (fun x9 =>
      bif (x9.2.2.2.2 == (List.cons 77 List.nil)) then
        bif (x9.2.2.2.2 == (List.cons 77 List.nil)) then
          ((F_s_l16P_number (x9.1.1, (x9.1.2.1, x9.1.2.2)) x9.2.2.1 x9.2.2.2.1)).bind fun x10 =>
          ((F_s_l16P_number (x10.1.1, (x10.1.2.1, x10.1.2.2)) x10.2.1 x10.2.2.1)).bind fun x11 =>
          ((F_s_l16P_point (x11.1.1, (x11.1.2.1, x11.1.2.2)) x11.2.1 x11.2.2.1 (x10.2.2.2, x11.2.2.2))).bind fun x12 =>
          some ((x12.1.1, (x12.1.2.1, x12.1.2.2)), (x12.2.1, x12.2.2))
        else
        bif (x9.2.2.2.2 == (List.cons 108 List.nil)) then
          ((F_s_l16P_number (x9.1.1, (x9.1.2.1, x9.1.2.2)) x9.2.2.1 x9.2.2.2.1)).bind fun x13 =>
          ((F_s_l16P_number (x13.1.1, (x13.1.2.1, x13.1.2.2)) x13.2.1 x13.2.2.1)).bind fun x14 =>
          ((F_s_l16P_point (x14.1.1, (x14.1.2.1, x14.1.2.2)) x14.2.1 x14.2.2.1 ((Go.IntKind.wrap Go.IntKind.i64 (x9.2.1.1 + x13.2.2.2)), (Go.IntKind.wrap Go.IntKind.i64 (x9.2.1.2 + x14.2.2.2))))).bind fun x15 =>
          some ((x15.1.1, (x15.1.2.1, x15.1.2.2)), (x15.2.1, x15.2.2))
        else
        bif (x9.2.2.2.2 == (List.cons 72 List.nil)) then
          ((F_s_l16P_number (x9.1.1, (x9.1.2.1, x9.1.2.2)) x9.2.2.1 x9.2.2.2.1)).bind fun x16 =>
          ((F_s_l16P_point (x16.1.1, (x16.1.2.1, x16.1.2.2)) x16.2.1 x16.2.2.1 (x16.2.2.2, x9.2.1.2))).bind fun x17 =>
          some ((x17.1.1, (x17.1.2.1, x17.1.2.2)), (x17.2.1, x17.2.2))
        else
        bif (x9.2.2.2.2 == (List.cons 104 List.nil)) then
          ((F_s_l16P_number (x9.1.1, (x9.1.2.1, x9.1.2.2)) x9.2.2.1 x9.2.2.2.1)).bind fun x18 =>
          ((F_s_l16P_point (x18.1.1, (x18.1.2.1, x18.1.2.2)) x18.2.1 x18.2.2.1 ((Go.IntKind.wrap Go.IntKind.i64 (x9.2.1.1 + x18.2.2.2)), x9.2.1.2))).bind fun x19 =>
          some ((x19.1.1, (x19.1.2.1, x19.1.2.2)), (x19.2.1, x19.2.2))
        else
        bif (x9.2.2.2.2 == (List.cons 86 List.nil)) then
          ((F_s_l16P_number (x9.1.1, (x9.1.2.1, x9.1.2.2)) x9.2.2.1 x9.2.2.2.1)).bind fun x20 =>
          ((F_s_l16P_point (x20.1.1, (x20.1.2.1, x20.1.2.2)) x20.2.1 x20.2.2.1 (x9.2.1.1, x20.2.2.2))).bind fun x21 =>
          some ((x21.1.1, (x21.1.2.1, x21.1.2.2)), (x21.2.1, x21.2.2))
        else
        bif (x9.2.2.2.2 == (List.cons 118 List.nil)) then
          ((F_s_l16P_number (x9.1.1, (x9.1.2.1, x9.1.2.2)) x9.2.2.1 x9.2.2.2.1)).bind fun x22 =>
          ((F_s_l16P_point (x22.1.1, (x22.1.2.1, x22.1.2.2)) x22.2.1 x22.2.2.1 (x9.2.1.1, (Go.IntKind.wrap Go.IntKind.i64 (x9.2.1.2 + x22.2.2.2))))).bind fun x23 =>
          some ((x23.1.1, (x23.1.2.1, x23.1.2.2)), (x23.2.1, x23.2.2))
        else
        ((appL 24 1 x9.2.2.1 (List.cons x9.2.2.2.1 List.nil))).bind fun x24 =>
        some ((x9.1.1, (x9.1.2.1, x9.1.2.2)), (x24, List.nil))
      else
      bif (x9.2.2.2.2 == (List.cons 76 List.nil)) then
        ((F_s_l16P_number (x9.1.1, (x9.1.2.1, x9.1.2.2)) x9.2.2.1 x9.2.2.2.1)).bind fun x25 =>
        ((F_s_l16P_number (x25.1.1, (x25.1.2.1, x25.1.2.2)) x25.2.1 x25.2.2.1)).bind fun x26 =>
        ((F_s_l16P_point (x26.1.1, (x26.1.2.1, x26.1.2.2)) x26.2.1 x26.2.2.1 (x25.2.2.2, x26.2.2.2))).bind fun x27 =>
        some ((x27.1.1, (x27.1.2.1, x27.1.2.2)), (x27.2.1, x27.2.2))
      else
      bif (x9.2.2.2.2 == (List.cons 108 List.nil)) then
        ((F_s_l16P_number (x9.1.1, (x9.1.2.1, x9.1.2.2)) x9.2.2.1 x9.2.2.2.1)).bind fun x28 =>
        ((F_s_l16P_number (x28.1.1, (x28.1.2.1, x28.1.2.2)) x28.2.1 x28.2.2.1)).bind fun x29 =>
        ((F_s_l16P_point (x29.1.1, (x29.1.2.1, x29.1.2.2)) x29.2.1 x29.2.2.1 ((Go.IntKind.wrap Go.IntKind.i64 (x9.2.1.1 + x28.2.2.2)), (Go.IntKind.wrap Go.IntKind.i64 (x9.2.1.2 + x29.2.2.2))))).bind fun x30 =>
        some ((x30.1.1, (x30.1.2.1, x30.1.2.2)), (x30.2.1, x30.2.2))
      else
      bif (x9.2.2.2.2 == (List.cons 72 List.nil)) then
        ((F_s_l16P_number (x9.1.1, (x9.1.2.1, x9.1.2.2)) x9.2.2.1 x9.2.2.2.1)).bind fun x31 =>
        ((F_s_l16P_point (x31.1.1, (x31.1.2.1, x31.1.2.2)) x31.2.1 x31.2.2.1 (x31.2.2.2, x9.2.1.2))).bind fun x32 =>
        some ((x32.1.1, (x32.1.2.1, x32.1.2.2)), (x32.2.1, x32.2.2))
      else
      bif (x9.2.2.2.2 == (List.cons 104 List.nil)) then
        ((F_s_l16P_number (x9.1.1, (x9.1.2.1, x9.1.2.2)) x9.2.2.1 x9.2.2.2.1)).bind fun x33 =>
        ((F_s_l16P_point (x33.1.1, (x33.1.2.1, x33.1.2.2)) x33.2.1 x33.2.2.1 ((Go.IntKind.wrap Go.IntKind.i64 (x9.2.1.1 + x33.2.2.2)), x9.2.1.2))).bind fun x34 =>
        some ((x34.1.1, (x34.1.2.1, x34.1.2.2)), (x34.2.1, x34.2.2))
      else
      bif (x9.2.2.2.2 == (List.cons 86 List.nil)) then
        ((F_s_l16P_number (x9.1.1, (x9.1.2.1, x9.1.2.2)) x9.2.2.1 x9.2.2.2.1)).bind fun x35 =>
        ((F_s_l16P_point (x35.1.1, (x35.1.2.1, x35.1.2.2)) x35.2.1 x35.2.2.1 (x9.2.1.1, x35.2.2.2))).bind fun x36 =>
        some ((x36.1.1, (x36.1.2.1, x36.1.2.2)), (x36.2.1, x36.2.2))
      else
      bif (x9.2.2.2.2 == (List.cons 118 List.nil)) then
        ((F_s_l16P_number (x9.1.1, (x9.1.2.1, x9.1.2.2)) x9.2.2.1 x9.2.2.2.1)).bind fun x37 =>
        ((F_s_l16P_point (x37.1.1, (x37.1.2.1, x37.1.2.2)) x37.2.1 x37.2.2.1 (x9.2.1.1, (Go.IntKind.wrap Go.IntKind.i64 (x9.2.1.2 + x37.2.2.2))))).bind fun x38 =>
        some ((x38.1.1, (x38.1.2.1, x38.1.2.2)), (x38.2.1, x38.2.2))
      else
      ((appL 24 1 x9.2.2.1 (List.cons x9.2.2.2.1 List.nil))).bind fun x39 =>
      some ((x9.1.1, (x9.1.2.1, x9.1.2.2)), (x39, List.nil)))
      x7)
    x2
noncomputable def E_s_l16P_command : Ent := ⟨a_s_l16P_command, fun x => F_s_l16P_command x.1 x.2.1 x.2.2⟩
noncomputable def X_s_l16P_command : TX := ⟨tyTab, codTab, [], [4], [E_s_l16P_number, E_s_l16P_point], a_s_l16P_command⟩
set_option maxHeartbeats 2000000 in
theorem W_s_l16P_command (a0 : (List (List UInt8) × Int × Int)) (a1 : List (List ((Int × Int)))) (a2 : List ((Int × Int))) : wtF X_s_l16P_command Tryd.f89 (a0, a1, a2) = F_s_l16P_command a0 a1 a2 := by kernel_rfl
theorem OK_s_l16P_command : EntOK RR E_s_l16P_command := fn_done (X := X_s_l16P_command) ⟨tyOK, boolOK, eqOK⟩ (ents_of (by exact ⟨⟨OK_s_l16P_number, rfl⟩, ⟨⟨OK_s_l16P_point, rfl⟩, trivial⟩⟩)) (cf_ok (by kernel_rfl)) ⟨Tryd.func89, rfl, by kernel_rfl, rfl⟩ (fun x => by exact W_s_l16P_command x.1 x.2.1 x.2.2)

/-- loop.example/g00409/spec.ParsePath -/
noncomputable def B_s_ParsePath_0 (s0 : ((List (List UInt8)) × (Int × Int))) (s1 : (List (List (Int × Int)))) (s2 : (List (Int × Int))) : Option ((((List (List UInt8)) × (Int × Int)) × ((List (List (Int × Int))) × (List (Int × Int)))) ⊕ (((List (List UInt8)) × (Int × Int)) × ((List (List (Int × Int))) × (List (Int × Int))))) :=
  bif decide (s0.2.1 < (((List.length s0.1) : Nat) : Int)) then
    bif (s0.2.2 == (0 : Int)) then
      ((F_s_l16P_command (s0.1, (s0.2.1, s0.2.2)) s1 s2)).bind fun x0 =>
      some (Sum.inl ((x0.1.1, (x0.1.2.1, x0.1.2.2)), (x0.2.1, x0.2.2)))
    else
    some (Sum.inr ((s0.1, (s0.2.1, s0.2.2)), (s1, s2)))
  else
  some (Sum.inr ((s0.1, (s0.2.1, s0.2.2)), (s1, s2)))
noncomputable def F_s_ParsePath (a0 : (List UInt8)) : Option (List (List ((Int × Int))) × Int × Int × Bool) :=
  bif ((((List.length a0) : Nat) : Int) == (0 : Int)) then
    some (List.nil, ((1 : Int), ((0 : Int), false)))
  else
  bif decide ((((List.length a0) : Nat) : Int) > (400 : Int)) then
    some (List.nil, ((1 : Int), ((0 : Int), false)))
  else
  ((F_s_l16Words a0)).bind fun x0 =>
  (loopM (fun (s : (((List (List UInt8)) × (Int × Int)) × ((List (List (Int × Int))) × (List (Int × Int))))) => B_s_ParsePath_0 s.1 s.2.1 s.2.2) ((x0, ((0 : Int), (0 : Int))), (List.nil, List.nil))).bind fun x1 =>
  (bif (x1.1.2.2 == (0 : Int)) then
      bif decide ((((List.length x1.2.2) : Nat) : Int) > (0 : Int)) then
        some (Sum.inr ((x1.1.1, (x1.1.2.1, (7 : Int))), (x1.2.1, x1.2.2)))
      else
      some (Sum.inr ((x1.1.1, (x1.1.2.1, x1.1.2.2)), (x1.2.1, x1.2.2)))
    else
    some (Sum.inr ((x1.1.1, (x1.1.2.1, x1.1.2.2)), (x1.2.1, x1.2.2)))).bind fun x2 =>
  Sum.elim
    (fun x3 =>
    some x3)
    (fun x4 =>
    bif (x4.1.2.2 != (0 : Int)) then
      some (List.nil, (x4.1.2.2, (x4.1.2.1, false)))
    else
    some (x4.2.1, ((0 : Int), ((0 : Int), true))))
    x2
noncomputable def E_s_ParsePath : Ent := ⟨a_s_ParsePath, fun x => F_s_ParsePath x⟩
noncomputable def X_s_ParsePath : TX := ⟨tyTab, codTab, [], [4], [E_s_l16Words, E_s_l16P_command], a_s_ParsePath⟩
set_option maxHeartbeats 2000000 in
theorem W_s_ParsePath (a0 : List UInt8) : wtF X_s_ParsePath Tryd.f45 (a0) = F_s_ParsePath a0 := by kernel_rfl
theorem OK_s_ParsePath : EntOK RR E_s_ParsePath := fn_done (X := X_s_ParsePath) ⟨tyOK, boolOK, eqOK⟩ (ents_of (by exact ⟨⟨OK_s_l16Words, rfl⟩, ⟨⟨OK_s_l16P_command, rfl⟩, trivial⟩⟩)) (cf_ok (by kernel_rfl)) ⟨Tryd.func45, rfl, by kernel_rfl, rfl⟩ (fun x => by exact W_s_ParsePath x)

/-- loop.example/g00409/spec.GoodWindow -/
noncomputable def F_s_GoodWindow (a0 : (Int × (Int × (Int × Int)))) : Option (Bool) :=
  ((F_s_l1In a0.1 (-(20 : Int)) (20 : Int))).bind fun x0 =>
  bif x0 then
    ((F_s_l1In a0.2.1 (-(20 : Int)) (20 : Int))).bind fun x1 =>
    bif x1 then
      ((F_s_l1In a0.2.2.1 (1 : Int) (8 : Int))).bind fun x2 =>
      bif x2 then
        ((F_s_l1In a0.2.2.2 (1 : Int) (8 : Int))).bind fun x3 =>
        some x3
      else
      some false
    else
    some false
  else
  some false
noncomputable def E_s_GoodWindow : Ent := ⟨a_s_GoodWindow, fun x => F_s_GoodWindow x⟩
noncomputable def X_s_GoodWindow : TX := ⟨tyTab, codTab, [], [4], [E_s_l1In], a_s_GoodWindow⟩
set_option maxHeartbeats 2000000 in
theorem W_s_GoodWindow (a0 : (Int × Int × Int × Int)) : wtF X_s_GoodWindow Tryd.f93 (a0) = F_s_GoodWindow a0 := by kernel_rfl
theorem OK_s_GoodWindow : EntOK RR E_s_GoodWindow := fn_done (X := X_s_GoodWindow) ⟨tyOK, boolOK, eqOK⟩ (ents_of (by exact ⟨⟨OK_s_l1In, rfl⟩, trivial⟩)) (cf_ok (by kernel_rfl)) ⟨Tryd.func93, rfl, by kernel_rfl, rfl⟩ (fun x => by exact W_s_GoodWindow x)

/-- loop.example/g00409/spec.l9Box -/
noncomputable def B_s_l9Box_0 (s0 : (Int × Int)) (s1 : (Int × Int)) (s2 : (Int × Int)) (s3 : (Int × Int)) (s4 : (List (Int × Int))) (s5 : Int) (s6 : Int) : Option (((Int × Int) × ((Int × Int) × ((Int × Int) × ((Int × Int) × ((List (Int × Int)) × (Int × Int)))))) ⊕ ((Int × Int) × ((Int × Int) × ((Int × Int) × (Int × Int))))) :=
  bif decide (s6 < s5) then
    ((getI s4 s6)).bind fun x0 =>
    (bif decide (x0.1 < s2.1) then
        some (Sum.inr ((s0.1, s0.2), ((s1.1, s1.2), ((x0.1, s2.2), ((s3.1, s3.2), ((x0.1, x0.2), (s4, (s5, s6))))))))
      else
      some (Sum.inr ((s0.1, s0.2), ((s1.1, s1.2), ((s2.1, s2.2), ((s3.1, s3.2), ((x0.1, x0.2), (s4, (s5, s6))))))))).bind fun x1 =>
    Sum.elim
      (fun x2 =>
      some x2)
      (fun x3 =>
      (bif decide (x3.2.2.2.2.1.2 < x3.2.2.1.2) then
          some (Sum.inr ((x3.1.1, x3.1.2), ((x3.2.1.1, x3.2.1.2), ((x3.2.2.1.1, x3.2.2.2.2.1.2), ((x3.2.2.2.1.1, x3.2.2.2.1.2), ((x3.2.2.2.2.1.1, x3.2.2.2.2.1.2), (x3.2.2.2.2.2.1, (x3.2.2.2.2.2.2.1, x3.2.2.2.2.2.2.2))))))))
        else
        some (Sum.inr ((x3.1.1, x3.1.2), ((x3.2.1.1, x3.2.1.2), ((x3.2.2.1.1, x3.2.2.1.2), ((x3.2.2.2.1.1, x3.2.2.2.1.2), ((x3.2.2.2.2.1.1, x3.2.2.2.2.1.2), (x3.2.2.2.2.2.1, (x3.2.2.2.2.2.2.1, x3.2.2.2.2.2.2.2))))))))).bind fun x4 =>
      Sum.elim
        (fun x5 =>
        some x5)
        (fun x6 =>
        (bif decide (x6.2.2.2.2.1.1 > x6.2.2.2.1.1) then
            some (Sum.inr ((x6.1.1, x6.1.2), ((x6.2.1.1, x6.2.1.2), ((x6.2.2.1.1, x6.2.2.1.2), ((x6.2.2.2.2.1.1, x6.2.2.2.1.2), ((x6.2.2.2.2.1.1, x6.2.2.2.2.1.2), (x6.2.2.2.2.2.1, (x6.2.2.2.2.2.2.1, x6.2.2.2.2.2.2.2))))))))
          else
          some (Sum.inr ((x6.1.1, x6.1.2), ((x6.2.1.1, x6.2.1.2), ((x6.2.2.1.1, x6.2.2.1.2), ((x6.2.2.2.1.1, x6.2.2.2.1.2), ((x6.2.2.2.2.1.1, x6.2.2.2.2.1.2), (x6.2.2.2.2.2.1, (x6.2.2.2.2.2.2.1, x6.2.2.2.2.2.2.2))))))))).bind fun x7 =>
        Sum.elim
          (fun x8 =>
          some x8)
          (fun x9 =>
          bif decide (x9.2.2.2.2.1.2 > x9.2.2.2.1.2) then
            some (Sum.inl ((x9.1.1, x9.1.2), ((x9.2.1.1, x9.2.1.2), ((x9.2.2.1.1, x9.2.2.1.2), ((x9.2.2.2.1.1, x9.2.2.2.2.1.2), (x9.2.2.2.2.2.1, (x9.2.2.2.2.2.2.1, (Go.IntKind.wrap Go.IntKind.i64 (x9.2.2.2.2.2.2.2 + (1 : Int))))))))))
          else
          some (Sum.inl ((x9.1.1, x9.1.2), ((x9.2.1.1, x9.2.1.2), ((x9.2.2.1.1, x9.2.2.1.2), ((x9.2.2.2.1.1, x9.2.2.2.1.2), (x9.2.2.2.2.2.1, (x9.2.2.2.2.2.2.1, (Go.IntKind.wrap Go.IntKind.i64 (x9.2.2.2.2.2.2.2 + (1 : Int)))))))))))
          x7)
        x4)
      x1
  else
  some (Sum.inr ((s0.1, s0.2), ((s1.1, s1.2), ((s2.1, s2.2), (s3.1, s3.2)))))
noncomputable def F_s_l9Box (a0 : (List (Int × Int))) : Option ((Int × Int) × (Int × Int)) :=
  ((getI a0 (0 : Int))).bind fun x0 =>
  ((getI a0 (0 : Int))).bind fun x1 =>
  (loopM (fun (s : ((Int × Int) × ((Int × Int) × ((Int × Int) × ((Int × Int) × ((List (Int × Int)) × (Int × Int))))))) => B_s_l9Box_0 s.1 s.2.1 s.2.2.1 s.2.2.2.1 s.2.2.2.2.1 s.2.2.2.2.2.1 s.2.2.2.2.2.2) (((0 : Int), (0 : Int)), (((0 : Int), (0 : Int)), ((x0.1, x0.2), ((x1.1, x1.2), (a0, ((((List.length a0) : Nat) : Int), (0 : Int)))))))).bind fun x2 =>
  some ((x2.2.2.1.1, x2.2.2.1.2), (x2.2.2.2.1, x2.2.2.2.2))
noncomputable def E_s_l9Box : Ent := ⟨a_s_l9Box, fun x => F_s_l9Box x⟩
noncomputable def X_s_l9Box : TX := ⟨tyTab, codTab, [], [4], [], a_s_l9Box⟩
set_option maxHeartbeats 2000000 in
theorem W_s_l9Box (a0 : List ((Int × Int))) : wtF X_s_l9Box Tryd.f94 (a0) = F_s_l9Box a0 := by kernel_rfl
theorem OK_s_l9Box : EntOK RR E_s_l9Box := fn_done (X := X_s_l9Box) ⟨tyOK, boolOK, eqOK⟩ (ents_of (by exact trivial)) (cf_ok (by kernel_rfl)) ⟨Tryd.func94, rfl, by kernel_rfl, rfl⟩ (fun x => by exact W_s_l9Box x)

/-- loop.example/g00409/spec.FitsWindow -/
noncomputable def B_s_FitsWindow_0 (s0 : (Int × (Int × (Int × Int)))) (s1 : (List (List (Int × Int)))) (s2 : Int) (s3 : Int) : Option (((Int × (Int × (Int × Int))) × ((List (List (Int × Int))) × (Int × Int))) ⊕ (Unit ⊕ (Bool × Bool))) :=
  bif decide (s3 < s2) then
    ((idxI s3 (List.length s1))).bind fun x0 =>
    ((getN s1 x0)).bind fun x1 =>
    ((F_s_l9Box x1)).bind fun x2 =>
    bif decide (x2.1.1 < s0.1) then
      some (Sum.inr (Sum.inr (false, true)))
    else
    bif decide (x2.1.2 < s0.2.1) then
      some (Sum.inr (Sum.inr (false, true)))
    else
    bif decide (x2.2.1 > (Go.IntKind.wrap Go.IntKind.i64 (s0.1 + s0.2.2.1))) then
      some (Sum.inr (Sum.inr (false, true)))
    else
    bif decide (x2.2.2 > (Go.IntKind.wrap Go.IntKind.i64 (s0.2.1 + s0.2.2.2))) then
      some (Sum.inr (Sum.inr (false, true)))
    else
    some (Sum.inl ((s0.1, (s0.2.1, (s0.2.2.1, s0.2.2.2))), (s1, (s2, (Go.IntKind.wrap Go.IntKind.i64 (s3 + (1 : Int)))))))
  else
  some (Sum.inr (Sum.inl ()))
noncomputable def F_s_FitsWindow (a0 : (List UInt8)) (a1 : (Int × (Int × (Int × Int)))) : Option (Bool × Bool) :=
  ((F_s_ParsePath a0)).bind fun x0 =>
  bif (!x0.2.2.2) then
    some (false, false)
  else
  ((F_s_GoodWindow (a1.1, (a1.2.1, (a1.2.2.1, a1.2.2.2))))).bind fun x1 =>
  bif (!x1) then
    some (false, false)
  else
  (loopM (fun (s : ((Int × (Int × (Int × Int))) × ((List (List (Int × Int))) × (Int × Int)))) => B_s_FitsWindow_0 s.1 s.2.1 s.2.2.1 s.2.2.2) ((a1.1, (a1.2.1, (a1.2.2.1, a1.2.2.2))), (x0.1, ((((List.length x0.1) : Nat) : Int), (0 : Int))))).bind fun x2 =>
  Sum.elim
    (fun x3 =>
    some (true, true))
    (fun x4 =>
    some (x4.1, x4.2))
    x2
noncomputable def E_s_FitsWindow : Ent := ⟨a_s_FitsWindow, fun x => F_s_FitsWindow x.1 x.2⟩
noncomputable def X_s_FitsWindow : TX := ⟨tyTab, codTab, [], [4], [E_s_ParsePath, E_s_GoodWindow, E_s_l9Box], a_s_FitsWindow⟩
set_option maxHeartbeats 2000000 in
theorem W_s_FitsWindow (a0 : List UInt8) (a1 : (Int × Int × Int × Int)) : wtF X_s_FitsWindow Tryd.f49 (a0, a1) = F_s_FitsWindow a0 a1 := by kernel_rfl
theorem OK_s_FitsWindow : EntOK RR E_s_FitsWindow := fn_done (X := X_s_FitsWindow) ⟨tyOK, boolOK, eqOK⟩ (ents_of (by exact ⟨⟨OK_s_ParsePath, rfl⟩, ⟨⟨OK_s_GoodWindow, rfl⟩, ⟨⟨OK_s_l9Box, rfl⟩, trivial⟩⟩⟩)) (cf_ok (by kernel_rfl)) ⟨Tryd.func49, rfl, by kernel_rfl, rfl⟩ (fun x => by exact W_s_FitsWindow x.1 x.2)

/-- loop.example/g00409/impl.within -/
noncomputable def F_i_within (a0 : Int) (a1 : Int) (a2 : Int) : Option (Bool) :=
  bif decide (a0 ≥ a1) then
    some (decide (a0 ≤ a2))
  else
  some false
noncomputable def E_i_within : Ent := ⟨a_i_within, fun x => F_i_within x.1 x.2.1 x.2.2⟩
noncomputable def X_i_within : TX := ⟨tyTab, codTab, [], [4], [], a_i_within⟩
set_option maxHeartbeats 2000000 in
theorem W_i_within (a0 : Int) (a1 : Int) (a2 : Int) : wtF X_i_within Tryd.f61 (a0, a1, a2) = F_i_within a0 a1 a2 := by kernel_rfl
theorem OK_i_within : EntOK RR E_i_within := fn_done (X := X_i_within) ⟨tyOK, boolOK, eqOK⟩ (ents_of (by exact trivial)) (cf_ok (by kernel_rfl)) ⟨Tryd.func61, rfl, by kernel_rfl, rfl⟩ (fun x => by exact W_i_within x.1 x.2.1 x.2.2)

/-- strings.Split -/
noncomputable def F_strings_Split (a0 : List UInt8) (a1 : List UInt8) : Option (List (List UInt8)) := F_split a0 a1
noncomputable def E_strings_Split : Ent := ⟨a_strings_Split, fun x => F_strings_Split x.1 x.2⟩
theorem OK_strings_Split : EntOK RR E_strings_Split := split_ent fun _ _ _ _ _ h => Or.inl h

/-- slices.Index[[]string,string] -/
noncomputable def B_slices_Index_Sstring_string_0 (s0 : (List (List UInt8))) (s1 : (List UInt8)) (s2 : Int) (s3 : Int) : Option (((List (List UInt8)) × ((List UInt8) × (Int × Int))) ⊕ (Unit ⊕ Int)) :=
  bif decide (s3 < s2) then
    ((getI s0 s3)).bind fun x0 =>
    bif (s1 == x0) then
      some (Sum.inr (Sum.inr s3))
    else
    some (Sum.inl (s0, (s1, (s2, (Go.IntKind.wrap Go.IntKind.i64 (s3 + (1 : Int)))))))
  else
  some (Sum.inr (Sum.inl ()))
noncomputable def F_slices_Index_Sstring_string (a0 : (List (List UInt8))) (a1 : (List UInt8)) : Option (Int) :=
  (loopM (fun (s : ((List (List UInt8)) × ((List UInt8) × (Int × Int)))) => B_slices_Index_Sstring_string_0 s.1 s.2.1 s.2.2.1 s.2.2.2) (a0, (a1, ((((List.length a0) : Nat) : Int), (0 : Int))))).bind fun x0 =>
  Sum.elim
    (fun x1 =>
    some (-(1 : Int)))
    (fun x2 =>
    some x2)
    x0
noncomputable def E_slices_Index_Sstring_string : Ent := ⟨a_slices_Index_Sstring_string, fun x => F_slices_Index_Sstring_string x.1 x.2⟩
noncomputable def X_slices_Index_Sstring_string : TX := ⟨tyTab, codTab, [], [4], [], a_slices_Index_Sstring_string⟩
set_option maxHeartbeats 2000000 in
theorem W_slices_Index_Sstring_string (a0 : List (List UInt8)) (a1 : List UInt8) : wtF X_slices_Index_Sstring_string Tryd.f157 (a0, a1) = F_slices_Index_Sstring_string a0 a1 := by kernel_rfl
theorem OK_slices_Index_Sstring_string : EntOK RR E_slices_Index_Sstring_string := fn_done (X := X_slices_Index_Sstring_string) ⟨tyOK, boolOK, eqOK⟩ (ents_of (by exact trivial)) (cf_ok (by kernel_rfl)) ⟨Tryd.func157, rfl, by kernel_rfl, rfl⟩ (fun x => by exact W_slices_Index_Sstring_string x.1 x.2)

/-- slices.Contains[[]string,string] -/
noncomputable def F_slices_Contains_Sstring_string (a0 : (List (List UInt8))) (a1 : (List UInt8)) : Option (Bool) :=
  ((F_slices_Index_Sstring_string a0 a1)).bind fun x0 =>
  some (decide (x0 ≥ (0 : Int)))
noncomputable def E_slices_Contains_Sstring_string : Ent := ⟨a_slices_Contains_Sstring_string, fun x => F_slices_Contains_Sstring_string x.1 x.2⟩
noncomputable def X_slices_Contains_Sstring_string : TX := ⟨tyTab, codTab, [], [4], [E_slices_Index_Sstring_string], a_slices_Contains_Sstring_string⟩
set_option maxHeartbeats 2000000 in
theorem W_slices_Contains_Sstring_string (a0 : List (List UInt8)) (a1 : List UInt8) : wtF X_slices_Contains_Sstring_string Tryd.f139 (a0, a1) = F_slices_Contains_Sstring_string a0 a1 := by kernel_rfl
theorem OK_slices_Contains_Sstring_string : EntOK RR E_slices_Contains_Sstring_string := fn_done (X := X_slices_Contains_Sstring_string) ⟨tyOK, boolOK, eqOK⟩ (ents_of (by exact ⟨⟨OK_slices_Index_Sstring_string, rfl⟩, trivial⟩)) (cf_ok (by kernel_rfl)) ⟨Tryd.func139, rfl, by kernel_rfl, rfl⟩ (fun x => by exact W_slices_Contains_Sstring_string x.1 x.2)

/-- (*loop.example/g00409/impl.path).fault -/
noncomputable def F_i_path_fault (a0 : ((List (List UInt8)) × (Int × Bool))) (a1 : (List (List (Int × Int)))) (a2 : (List (Int × Int))) (a3 : (List UInt8)) : Option ((List (List UInt8) × Int × Bool) × List (List ((Int × Int))) × List ((Int × Int)) × Int) :=
  ((F_slices_Contains_Sstring_string (List.cons (List.cons 77 List.nil) (List.cons (List.cons 76 List.nil) (List.cons (List.cons 108 List.nil) (List.cons (List.cons 72 List.nil) (List.cons (List.cons 86 List.nil) (List.cons (List.cons 104 List.nil) (List.cons (List.cons 118 List.nil) (List.cons (List.cons 90 List.nil) List.nil)))))))) a3)).bind fun x0 =>
  bif (!x0) then
    some ((a0.1, (a0.2.1, a0.2.2)), (a1, (a2, (2 : Int))))
  else
  bif ((a3 == (List.cons 77 List.nil)) == a0.2.2) then
    some ((a0.1, (a0.2.1, a0.2.2)), (a1, (a2, (4 : Int))))
  else
  bif (a3 == (List.cons 77 List.nil)) then
    bif ((((List.length a1) : Nat) : Int) == (4 : Int)) then
      bif ((((List.length a1) : Nat) : Int) == (4 : Int)) then
        some ((a0.1, (a0.2.1, a0.2.2)), (a1, (a2, (5 : Int))))
      else
      some ((a0.1, (a0.2.1, a0.2.2)), (a1, (a2, (0 : Int))))
    else
    bif (a3 == (List.cons 90 List.nil)) then
      bif decide ((((List.length a2) : Nat) : Int) < (3 : Int)) then
        bif decide ((((List.length a2) : Nat) : Int) < (3 : Int)) then
          some ((a0.1, (a0.2.1, a0.2.2)), (a1, (a2, (5 : Int))))
        else
        some ((a0.1, (a0.2.1, a0.2.2)), (a1, (a2, (0 : Int))))
      else
      bif (!(a3 == (List.cons 77 List.nil))) then
        bif (!(a3 == (List.cons 90 List.nil))) then
          bif ((((List.length a2) : Nat) : Int) == (12 : Int)) then
            some ((a0.1, (a0.2.1, a0.2.2)), (a1, (a2, (5 : Int))))
          else
          some ((a0.1, (a0.2.1, a0.2.2)), (a1, (a2, (0 : Int))))
        else
        some ((a0.1, (a0.2.1, a0.2.2)), (a1, (a2, (0 : Int))))
      else
      some ((a0.1, (a0.2.1, a0.2.2)), (a1, (a2, (0 : Int))))
    else
    bif (!(a3 == (List.cons 77 List.nil))) then
      bif (!(a3 == (List.cons 90 List.nil))) then
        bif ((((List.length a2) : Nat) : Int) == (12 : Int)) then
          some ((a0.1, (a0.2.1, a0.2.2)), (a1, (a2, (5 : Int))))
        else
        some ((a0.1, (a0.2.1, a0.2.2)), (a1, (a2, (0 : Int))))
      else
      some ((a0.1, (a0.2.1, a0.2.2)), (a1, (a2, (0 : Int))))
    else
    some ((a0.1, (a0.2.1, a0.2.2)), (a1, (a2, (0 : Int))))
  else
  bif (a3 == (List.cons 90 List.nil)) then
    bif decide ((((List.length a2) : Nat) : Int) < (3 : Int)) then
      bif decide ((((List.length a2) : Nat) : Int) < (3 : Int)) then
        some ((a0.1, (a0.2.1, a0.2.2)), (a1, (a2, (5 : Int))))
      else
      some ((a0.1, (a0.2.1, a0.2.2)), (a1, (a2, (0 : Int))))
    else
    bif (!(a3 == (List.cons 77 List.nil))) then
      bif (!(a3 == (List.cons 90 List.nil))) then
        bif ((((List.length a2) : Nat) : Int) == (12 : Int)) then
          some ((a0.1, (a0.2.1, a0.2.2)), (a1, (a2, (5 : Int))))
        else
        some ((a0.1, (a0.2.1, a0.2.2)), (a1, (a2, (0 : Int))))
      else
      some ((a0.1, (a0.2.1, a0.2.2)), (a1, (a2, (0 : Int))))
    else
    some ((a0.1, (a0.2.1, a0.2.2)), (a1, (a2, (0 : Int))))
  else
  bif (!(a3 == (List.cons 77 List.nil))) then
    bif (!(a3 == (List.cons 90 List.nil))) then
      bif ((((List.length a2) : Nat) : Int) == (12 : Int)) then
        some ((a0.1, (a0.2.1, a0.2.2)), (a1, (a2, (5 : Int))))
      else
      some ((a0.1, (a0.2.1, a0.2.2)), (a1, (a2, (0 : Int))))
    else
    some ((a0.1, (a0.2.1, a0.2.2)), (a1, (a2, (0 : Int))))
  else
  some ((a0.1, (a0.2.1, a0.2.2)), (a1, (a2, (0 : Int))))
noncomputable def E_i_path_fault : Ent := ⟨a_i_path_fault, fun x => F_i_path_fault x.1 x.2.1 x.2.2.1 x.2.2.2⟩
noncomputable def X_i_path_fault : TX := ⟨tyTab, codTab, [], [4], [E_slices_Contains_Sstring_string], a_i_path_fault⟩
set_option maxHeartbeats 2000000 in
theorem W_i_path_fault (a0 : (List (List UInt8) × Int × Bool)) (a1 : List (List ((Int × Int)))) (a2 : List ((Int × Int))) (a3 : List UInt8) : wtF X_i_path_fault Tryd.f116 (a0, a1, a2, a3) = F_i_path_fault a0 a1 a2 a3 := by kernel_rfl
theorem OK_i_path_fault : EntOK RR E_i_path_fault := fn_done (X := X_i_path_fault) ⟨tyOK, boolOK, eqOK⟩ (ents_of (by exact ⟨⟨OK_slices_Contains_Sstring_string, rfl⟩, trivial⟩)) (cf_ok (by kernel_rfl)) ⟨Tryd.func116, rfl, by kernel_rfl, rfl⟩ (fun x => by exact W_i_path_fault x.1 x.2.1 x.2.2.1 x.2.2.2)

/-- strings.Contains -/
noncomputable def F_strings_Contains (a0 : List UInt8) (a1 : List UInt8) : Option (Bool) := F_contains a0 a1
noncomputable def E_strings_Contains : Ent := ⟨a_strings_Contains, fun x => F_strings_Contains x.1 x.2⟩
theorem OK_strings_Contains : EntOK RR E_strings_Contains := contains_ent fun _ _ _ _ _ h => Or.inr (Or.inl h)

/-- strconv.Atoi -/
noncomputable def F_strconv_Atoi (a0 : List UInt8) : Option (Int × Bool) := F_atoi a0
noncomputable def E_strconv_Atoi : Ent := ⟨a_strconv_Atoi, fun x => F_strconv_Atoi x⟩
theorem OK_strconv_Atoi : EntOK RR E_strconv_Atoi := atoi_ent fun _ _ _ _ _ h => Or.inr (Or.inr (Or.inl h))

/-- loop.example/g00409/impl.isNumber -/
noncomputable def F_i_isNumber (a0 : Int) : Option (Bool) :=
  ((F_i_within a0 (-(9999 : Int)) (9999 : Int))).bind fun x0 =>
  some x0
noncomputable def E_i_isNumber : Ent := ⟨a_i_isNumber, fun x => F_i_isNumber x⟩
noncomputable def X_i_isNumber : TX := ⟨tyTab, codTab, [], [4], [E_i_within], a_i_isNumber⟩
set_option maxHeartbeats 2000000 in
theorem W_i_isNumber (a0 : Int) : wtF X_i_isNumber Tryd.f54 (a0) = F_i_isNumber a0 := by kernel_rfl
theorem OK_i_isNumber : EntOK RR E_i_isNumber := fn_done (X := X_i_isNumber) ⟨tyOK, boolOK, eqOK⟩ (ents_of (by exact ⟨⟨OK_i_within, rfl⟩, trivial⟩)) (cf_ok (by kernel_rfl)) ⟨Tryd.func54, rfl, by kernel_rfl, rfl⟩ (fun x => by exact W_i_isNumber x)

/-- strconv.Itoa -/
noncomputable def F_strconv_Itoa (a0 : Int) : Option (List UInt8) := F_itoa a0
noncomputable def E_strconv_Itoa : Ent := ⟨a_strconv_Itoa, fun x => F_strconv_Itoa x⟩
theorem OK_strconv_Itoa : EntOK RR E_strconv_Itoa := itoa_ent fun _ _ _ _ _ h => Or.inr (Or.inr (Or.inr (h)))

/-- loop.example/g00409/impl.ReadNumber -/
noncomputable def F_i_ReadNumber (a0 : (List UInt8)) : Option (Int × Bool) :=
  ((F_strconv_Atoi a0)).bind fun x0 =>
  bif x0.2 then
    some ((0 : Int), false)
  else
  ((F_i_isNumber x0.1)).bind fun x1 =>
  bif (!x1) then
    some ((0 : Int), false)
  else
  ((F_strconv_Itoa x0.1)).bind fun x2 =>
  bif (!(x2 == a0)) then
    some ((0 : Int), false)
  else
  some (x0.1, true)
noncomputable def E_i_ReadNumber : Ent := ⟨a_i_ReadNumber, fun x => F_i_ReadNumber x⟩
noncomputable def X_i_ReadNumber : TX := ⟨tyTab, codTab, [], [4], [E_strconv_Atoi, E_i_isNumber, E_strconv_Itoa], a_i_ReadNumber⟩
set_option maxHeartbeats 2000000 in
theorem W_i_ReadNumber (a0 : List UInt8) : wtF X_i_ReadNumber Tryd.f38 (a0) = F_i_ReadNumber a0 := by kernel_rfl
theorem OK_i_ReadNumber : EntOK RR E_i_ReadNumber := fn_done (X := X_i_ReadNumber) ⟨tyOK, boolOK, eqOK⟩ (ents_of (by exact ⟨⟨OK_strconv_Atoi, rfl⟩, ⟨⟨OK_i_isNumber, rfl⟩, ⟨⟨OK_strconv_Itoa, rfl⟩, trivial⟩⟩⟩)) (cf_ok (by kernel_rfl)) ⟨Tryd.func38, rfl, by kernel_rfl, rfl⟩ (fun x => by exact W_i_ReadNumber x)

/-- (*loop.example/g00409/impl.path).number -/
noncomputable def F_i_path_number (a0 : ((List (List UInt8)) × (Int × Bool))) (a1 : (List (List (Int × Int)))) (a2 : (List (Int × Int))) : Option ((List (List UInt8) × Int × Bool) × List (List ((Int × Int))) × List ((Int × Int)) × Int × Bool) :=
  bif (a0.2.1 == (((List.length a0.1) : Nat) : Int)) then
    some ((a0.1, (a0.2.1, a0.2.2)), (a1, (a2, ((0 : Int), false))))
  else
  ((getI a0.1 a0.2.1)).bind fun x0 =>
  ((F_i_ReadNumber x0)).bind fun x1 =>
  bif x1.2 then
    some ((a0.1, ((Go.IntKind.wrap Go.IntKind.i64 (a0.2.1 + (1 : Int))), a0.2.2)), (a1, (a2, (x1.1, x1.2))))
  else
  some ((a0.1, (a0.2.1, a0.2.2)), (a1, (a2, (x1.1, x1.2))))
noncomputable def E_i_path_number : Ent := ⟨a_i_path_number, fun x => F_i_path_number x.1 x.2.1 x.2.2⟩
noncomputable def X_i_path_number : TX := ⟨tyTab, codTab, [], [4], [E_i_ReadNumber], a_i_path_number⟩
set_option maxHeartbeats 2000000 in
theorem W_i_path_number (a0 : (List (List UInt8) × Int × Bool)) (a1 : List (List ((Int × Int)))) (a2 : List ((Int × Int))) : wtF X_i_path_number Tryd.f118 (a0, a1, a2) = F_i_path_number a0 a1 a2 := by kernel_rfl
theorem OK_i_path_number : EntOK RR E_i_path_number := fn_done (X := X_i_path_number) ⟨tyOK, boolOK, eqOK⟩ (ents_of (by exact ⟨⟨OK_i_ReadNumber, rfl⟩, trivial⟩)) (cf_ok (by kernel_rfl)) ⟨Tryd.func118, rfl, by kernel_rfl, rfl⟩ (fun x => by exact W_i_path_number x.1 x.2.1 x.2.2)

/-- (*loop.example/g00409/impl.path).next -/
noncomputable def F_i_path_next (a0 : ((List (List UInt8)) × (Int × Bool))) (a1 : (List (List (Int × Int)))) (a2 : (List (Int × Int))) (a3 : (List UInt8)) (a4 : (List Int)) : Option ((List (List UInt8) × Int × Bool) × List (List ((Int × Int))) × List ((Int × Int)) × (Int × Int)) :=
  (bif decide ((((List.length a2) : Nat) : Int) > (0 : Int)) then
      ((idxI (Go.IntKind.wrap Go.IntKind.i64 ((((List.length a2) : Nat) : Int) - (1 : Int))) (List.length a2))).bind fun x0 =>
      ((getN a2 x0)).bind fun x1 =>
      some (Sum.inr ((a0.1, (a0.2.1, a0.2.2)), (((0 : Int), (0 : Int)), ((x1.1, x1.2), (a1, (a2, (a3, a4)))))))
    else
    some (Sum.inr ((a0.1, (a0.2.1, a0.2.2)), (((0 : Int), (0 : Int)), (((0 : Int), (0 : Int)), (a1, (a2, (a3, a4)))))))).bind fun x2 =>
  Sum.elim
    (fun x3 =>
    some x3)
    (fun x4 =>
    bif (x4.2.2.2.2.2.1 == (List.cons 108 List.nil)) then
      ((getI x4.2.2.2.2.2.2 (0 : Int))).bind fun x5 =>
      ((getI x4.2.2.2.2.2.2 (1 : Int))).bind fun x6 =>
      some ((x4.1.1, (x4.1.2.1, x4.1.2.2)), (x4.2.2.2.1, (x4.2.2.2.2.1, ((Go.IntKind.wrap Go.IntKind.i64 (x4.2.2.1.1 + x5)), (Go.IntKind.wrap Go.IntKind.i64 (x4.2.2.1.2 + x6))))))
    else
    bif (x4.2.2.2.2.2.1 == (List.cons 72 List.nil)) then
      ((getI x4.2.2.2.2.2.2 (0 : Int))).bind fun x7 =>
      some ((x4.1.1, (x4.1.2.1, x4.1.2.2)), (x4.2.2.2.1, (x4.2.2.2.2.1, (x7, x4.2.2.1.2))))
    else
    bif (x4.2.2.2.2.2.1 == (List.cons 86 List.nil)) then
      ((getI x4.2.2.2.2.2.2 (0 : Int))).bind fun x8 =>
      some ((x4.1.1, (x4.1.2.1, x4.1.2.2)), (x4.2.2.2.1, (x4.2.2.2.2.1, (x4.2.2.1.1, x8))))
    else
    bif (x4.2.2.2.2.2.1 == (List.cons 104 List.nil)) then
      ((getI x4.2.2.2.2.2.2 (0 : Int))).bind fun x9 =>
      some ((x4.1.1, (x4.1.2.1, x4.1.2.2)), (x4.2.2.2.1, (x4.2.2.2.2.1, ((Go.IntKind.wrap Go.IntKind.i64 (x4.2.2.1.1 + x9)), x4.2.2.1.2))))
    else
    bif (x4.2.2.2.2.2.1 == (List.cons 118 List.nil)) then
      ((getI x4.2.2.2.2.2.2 (0 : Int))).bind fun x10 =>
      some ((x4.1.1, (x4.1.2.1, x4.1.2.2)), (x4.2.2.2.1, (x4.2.2.2.2.1, (x4.2.2.1.1, (Go.IntKind.wrap Go.IntKind.i64 (x4.2.2.1.2 + x10))))))
    else
    ((getI x4.2.2.2.2.2.2 (0 : Int))).bind fun x11 =>
    ((getI x4.2.2.2.2.2.2 (1 : Int))).bind fun x12 =>
    some ((x4.1.1, (x4.1.2.1, x4.1.2.2)), (x4.2.2.2.1, (x4.2.2.2.2.1, (x11, x12)))))
    x2
noncomputable def E_i_path_next : Ent := ⟨a_i_path_next, fun x => F_i_path_next x.1 x.2.1 x.2.2.1 x.2.2.2.1 x.2.2.2.2⟩
noncomputable def X_i_path_next : TX := ⟨tyTab, codTab, [], [4], [], a_i_path_next⟩
set_option maxHeartbeats 2000000 in
theorem W_i_path_next (a0 : (List (List UInt8) × Int × Bool)) (a1 : List (List ((Int × Int)))) (a2 : List ((Int × Int))) (a3 : List UInt8) (a4 : List (Int)) : wtF X_i_path_next Tryd.f119 (a0, a1, a2, a3, a4) = F_i_path_next a0 a1 a2 a3 a4 := by kernel_rfl
theorem OK_i_path_next : EntOK RR E_i_path_next := fn_done (X := X_i_path_next) ⟨tyOK, boolOK, eqOK⟩ (ents_of (by exact trivial)) (cf_ok (by kernel_rfl)) ⟨Tryd.func119, rfl, by kernel_rfl, rfl⟩ (fun x => by exact W_i_path_next x.1 x.2.1 x.2.2.1 x.2.2.2.1 x.2.2.2.2)

/-- loop.example/g00409/impl.GoodPt -/
noncomputable def F_i_GoodPt (a0 : (Int × Int)) : Option (Bool) :=
  ((F_i_within a0.1 (-(1000 : Int)) (1000 : Int))).bind fun x0 =>
  bif x0 then
    ((F_i_within a0.2 (-(1000 : Int)) (1000 : Int))).bind fun x1 =>
    some x1
  else
  some false
noncomputable def E_i_GoodPt : Ent := ⟨a_i_GoodPt, fun x => F_i_GoodPt x⟩
noncomputable def X_i_GoodPt : TX := ⟨tyTab, codTab, [], [4], [E_i_within], a_i_GoodPt⟩
set_option maxHeartbeats 2000000 in
theorem W_i_GoodPt (a0 : (Int × Int)) : wtF X_i_GoodPt Tryd.f120 (a0) = F_i_GoodPt a0 := by kernel_rfl
theorem OK_i_GoodPt : EntOK RR E_i_GoodPt := fn_done (X := X_i_GoodPt) ⟨tyOK, boolOK, eqOK⟩ (ents_of (by exact ⟨⟨OK_i_within, rfl⟩, trivial⟩)) (cf_ok (by kernel_rfl)) ⟨Tryd.func120, rfl, by kernel_rfl, rfl⟩ (fun x => by exact W_i_GoodPt x)

/-- (*loop.example/g00409/impl.path).command -/
noncomputable def B_i_path_command_0 (s0 : ((List (List UInt8)) × (Int × Bool))) (s1 : (List Int)) (s2 : (List (List (Int × Int)))) (s3 : (List (Int × Int))) (s4 : (List UInt8)) (s5 : Int) (s6 : Int) : Option ((((List (List UInt8)) × (Int × Bool)) × ((List Int) × ((List (List (Int × Int))) × ((List (Int × Int)) × ((List UInt8) × (Int × Int)))))) ⊕ ((((List (List UInt8)) × (Int × Bool)) × ((List Int) × ((List (List (Int × Int))) × ((List (Int × Int)) × (List UInt8))))) ⊕ (((List (List UInt8)) × (Int × Bool)) × ((List (List (Int × Int))) × ((List (Int × Int)) × (Int × Int)))))) :=
  bif decide (s6 < s5) then
    ((F_i_path_number (s0.1, (s0.2.1, s0.2.2)) s2 s3)).bind fun x0 =>
    bif (!x0.2.2.2.2) then
      some (Sum.inr (Sum.inr ((x0.1.1, (x0.1.2.1, x0.1.2.2)), (x0.2.1, (x0.2.2.1, ((3 : Int), x0.1.2.1))))))
    else
    ((appL 8 1 s1 (List.cons x0.2.2.2.1 List.nil))).bind fun x1 =>
    some (Sum.inl ((x0.1.1, (x0.1.2.1, x0.1.2.2)), (x1, (x0.2.1, (x0.2.2.1, (s4, (s5, (Go.IntKind.wrap Go.IntKind.i64 (s6 + (1 : Int))))))))))
  else
  some (Sum.inr (Sum.inl ((s0.1, (s0.2.1, s0.2.2)), (s1, (s2, (s3, s4))))))
noncomputable def F_i_path_command (a0 : ((List (List UInt8)) × (Int × Bool))) (a1 : (List (List (Int × Int)))) (a2 : (List (Int × Int))) : Option ((List (List UInt8) × Int × Bool) × List (List ((Int × Int))) × List ((Int × Int)) × Int × Int) :=
  ((getI a0.1 a0.2.1)).bind fun x0 =>
  ((F_i_path_fault (a0.1, (a0.2.1, a0.2.2)) a1 a2 x0)).bind fun x1 =>
  bif (x1.2.2.2 != (0 : Int)) then
    some ((x1.1.1, (x1.1.2.1, x1.1.2.2)), (x1.2.1, (x1.2.2.1, (x1.2.2.2, x1.1.2.1))))
  else
  bif (x0 == (List.cons 90 List.nil)) then
    ((appL 24 1 x1.2.1 (List.cons x1.2.2.1 List.nil))).bind fun x2 =>
    some ((x1.1.1, ((Go.IntKind.wrap Go.IntKind.i64 (x1.1.2.1 + (1 : Int))), false)), (x2, (List.nil, ((0 : Int), (0 : Int)))))
  else
  (((F_strings_Contains (List.cons 72 (List.cons 86 (List.cons 104 (List.cons 118 List.nil)))) x0)).bind fun x3 =>
    bif x3 then
      some (Sum.inr ((x1.1.1, ((Go.IntKind.wrap Go.IntKind.i64 (x1.1.2.1 + (1 : Int))), x1.1.2.2)), (x1.2.1, (x1.2.2.1, (x0, (1 : Int))))))
    else
    some (Sum.inr ((x1.1.1, ((Go.IntKind.wrap Go.IntKind.i64 (x1.1.2.1 + (1 : Int))), x1.1.2.2)), (x1.2.1, (x1.2.2.1, (x0, (2 : Int))))))).bind fun x4 =>
  Sum.elim
    (fun x5 =>
    some x5)
    (fun x6 =>
    (loopM (fun (s : (((List (List UInt8)) × (Int × Bool)) × ((List Int) × ((List (List (Int × Int))) × ((List (Int × Int)) × ((List UInt8) × (Int × Int))))))) => B_i_path_command_0 s.1 s.2.1 s.2.2.1 s.2.2.2.1 s.2.2.2.2.1 s.2.2.2.2.2.1 s.2.2.2.2.2.2) ((x6.1.1, (x6.1.2.1, x6.1.2.2)), (List.nil, (x6.2.1, (x6.2.2.1, (x6.2.2.2.1, (x6.2.2.2.2, (0 : Int)))))))).bind fun x7 =>
    Sum.elim
      (fun x8 =>
      ((F_i_path_next (x8.1.1, (x8.1.2.1, x8.1.2.2)) x8.2.2.1 x8.2.2.2.1 x8.2.2.2.2 x8.2.1)).bind fun x9 =>
      ((F_i_GoodPt (x9.2.2.2.1, x9.2.2.2.2))).bind fun x10 =>
      bif (!x10) then
        some ((x9.1.1, (x9.1.2.1, x9.1.2.2)), (x9.2.1, (x9.2.2.1, ((6 : Int), (Go.IntKind.wrap Go.IntKind.i64 (x9.1.2.1 - (1 : Int)))))))
      else
      ((appL 16 2 x9.2.2.1 (List.cons (x9.2.2.2.1, x9.2.2.2.2) List.nil))).bind fun x11 =>
      some ((x9.1.1, (x9.1.2.1, true)), (x9.2.1, (x11, ((0 : Int), (0 : Int))))))
      (fun x12 =>
      some ((x12.1.1, (x12.1.2.1, x12.1.2.2)), (x12.2.1, (x12.2.2.1, (x12.2.2.2.1, x12.2.2.2.2)))))
      x7)
    x4
noncomputable def E_i_path_command : Ent := ⟨a_i_path_command, fun x => F_i_path_command x.1 x.2.1 x.2.2⟩
noncomputable def X_i_path_command : TX := ⟨tyTab, codTab, [], [4], [E_i_path_fault, E_strings_Contains, E_i_path_number, E_i_path_next, E_i_GoodPt], a_i_path_command⟩
set_option maxHeartbeats 2000000 in
theorem W_i_path_command (a0 : (List (List UInt8) × Int × Bool)) (a1 : List (List ((Int × Int)))) (a2 : List ((Int × Int))) : wtF X_i_path_command Tryd.f90 (a0, a1, a2) = F_i_path_command a0 a1 a2 := by kernel_rfl
theorem OK_i_path_command : EntOK RR E_i_path_command := fn_done (X := X_i_path_command) ⟨tyOK, boolOK, eqOK⟩ (ents_of (by exact ⟨⟨OK_i_path_fault, rfl⟩, ⟨⟨OK_strings_Contains, rfl⟩, ⟨⟨OK_i_path_number, rfl⟩, ⟨⟨OK_i_path_next, rfl⟩, ⟨⟨OK_i_GoodPt, rfl⟩, trivial⟩⟩⟩⟩⟩)) (cf_ok (by kernel_rfl)) ⟨Tryd.func90, rfl, by kernel_rfl, rfl⟩ (fun x => by exact W_i_path_command x.1 x.2.1 x.2.2)

/-- loop.example/g00409/impl.ParsePath -/
noncomputable def B_i_ParsePath_0 (s0 : ((List (List UInt8)) × (Int × Bool))) (s1 : (List (List (Int × Int)))) (s2 : (List (Int × Int))) : Option ((((List (List UInt8)) × (Int × Bool)) × ((List (List (Int × Int))) × (List (Int × Int)))) ⊕ ((((List (List UInt8)) × (Int × Bool)) × ((List (List (Int × Int))) × (List (Int × Int)))) ⊕ ((List (List (Int × Int))) × (Int × (Int × Bool))))) :=
  bif decide (s0.2.1 < (((List.length s0.1) : Nat) : Int)) then
    ((F_i_path_command (s0.1, (s0.2.1, s0.2.2)) s1 s2)).bind fun x0 =>
    bif (x0.2.2.2.1 != (0 : Int)) then
      some (Sum.inr (Sum.inr (List.nil, (x0.2.2.2.1, (x0.2.2.2.2, false)))))
    else
    some (Sum.inl ((x0.1.1, (x0.1.2.1, x0.1.2.2)), (x0.2.1, x0.2.2.1)))
  else
  some (Sum.inr (Sum.inl ((s0.1, (s0.2.1, s0.2.2)), (s1, s2))))
noncomputable def F_i_ParsePath (a0 : (List UInt8)) : Option (List (List ((Int × Int))) × Int × Int × Bool) :=
  ((F_i_within (((List.length a0) : Nat) : Int) (1 : Int) (400 : Int))).bind fun x0 =>
  bif (!x0) then
    some (List.nil, ((1 : Int), ((0 : Int), false)))
  else
  ((F_strings_Split a0 (List.cons 32 List.nil))).bind fun x1 =>
  (loopM (fun (s : (((List (List UInt8)) × (Int × Bool)) × ((List (List (Int × Int))) × (List (Int × Int))))) => B_i_ParsePath_0 s.1 s.2.1 s.2.2) ((x1, ((0 : Int), false)), (List.nil, List.nil))).bind fun x2 =>
  Sum.elim
    (fun x3 =>
    bif x3.1.2.2 then
      some (List.nil, ((7 : Int), ((((List.length x3.1.1) : Nat) : Int), false)))
    else
    some (x3.2.1, ((0 : Int), ((0 : Int), true))))
    (fun x4 =>
    some (x4.1, (x4.2.1, (x4.2.2.1, x4.2.2.2))))
    x2
noncomputable def E_i_ParsePath : Ent := ⟨a_i_ParsePath, fun x => F_i_ParsePath x⟩
noncomputable def X_i_ParsePath : TX := ⟨tyTab, codTab, [], [4], [E_i_within, E_strings_Split, E_i_path_command], a_i_ParsePath⟩
set_option maxHeartbeats 2000000 in
theorem W_i_ParsePath (a0 : List UInt8) : wtF X_i_ParsePath Tryd.f46 (a0) = F_i_ParsePath a0 := by kernel_rfl
theorem OK_i_ParsePath : EntOK RR E_i_ParsePath := fn_done (X := X_i_ParsePath) ⟨tyOK, boolOK, eqOK⟩ (ents_of (by exact ⟨⟨OK_i_within, rfl⟩, ⟨⟨OK_strings_Split, rfl⟩, ⟨⟨OK_i_path_command, rfl⟩, trivial⟩⟩⟩)) (cf_ok (by kernel_rfl)) ⟨Tryd.func46, rfl, by kernel_rfl, rfl⟩ (fun x => by exact W_i_ParsePath x)

/-- loop.example/g00409/impl.GoodWindow -/
noncomputable def F_i_GoodWindow (a0 : (Int × (Int × (Int × Int)))) : Option (Bool) :=
  ((F_i_within a0.1 (-(20 : Int)) (20 : Int))).bind fun x0 =>
  bif x0 then
    ((F_i_within a0.2.1 (-(20 : Int)) (20 : Int))).bind fun x1 =>
    bif x1 then
      ((F_i_within a0.2.2.1 (1 : Int) (8 : Int))).bind fun x2 =>
      bif x2 then
        ((F_i_within a0.2.2.2 (1 : Int) (8 : Int))).bind fun x3 =>
        some x3
      else
      some false
    else
    some false
  else
  some false
noncomputable def E_i_GoodWindow : Ent := ⟨a_i_GoodWindow, fun x => F_i_GoodWindow x⟩
noncomputable def X_i_GoodWindow : TX := ⟨tyTab, codTab, [], [4], [E_i_within], a_i_GoodWindow⟩
set_option maxHeartbeats 2000000 in
theorem W_i_GoodWindow (a0 : (Int × Int × Int × Int)) : wtF X_i_GoodWindow Tryd.f95 (a0) = F_i_GoodWindow a0 := by kernel_rfl
theorem OK_i_GoodWindow : EntOK RR E_i_GoodWindow := fn_done (X := X_i_GoodWindow) ⟨tyOK, boolOK, eqOK⟩ (ents_of (by exact ⟨⟨OK_i_within, rfl⟩, trivial⟩)) (cf_ok (by kernel_rfl)) ⟨Tryd.func95, rfl, by kernel_rfl, rfl⟩ (fun x => by exact W_i_GoodWindow x)

/-- loop.example/g00409/impl.FitsWindow -/
noncomputable def B_i_FitsWindow_1 (s0 : (Int × (Int × (Int × Int)))) (s1 : (List (List (Int × Int)))) (s2 : Int) (s3 : Int) (s4 : (List (Int × Int))) (s5 : Int) (s6 : Int) : Option (((Int × (Int × (Int × Int))) × ((List (List (Int × Int))) × (Int × (Int × ((List (Int × Int)) × (Int × Int)))))) ⊕ (((Int × (Int × (Int × Int))) × ((List (List (Int × Int))) × (Int × Int))) ⊕ (Bool × Bool))) :=
  bif decide (s6 < s5) then
    ((getI s4 s6)).bind fun x0 =>
    ((F_i_within x0.1 s0.1 (Go.IntKind.wrap Go.IntKind.i64 (s0.1 + s0.2.2.1)))).bind fun x1 =>
    bif (!x1) then
      some (Sum.inr (Sum.inr (false, true)))
    else
    ((F_i_within x0.2 s0.2.1 (Go.IntKind.wrap Go.IntKind.i64 (s0.2.1 + s0.2.2.2)))).bind fun x2 =>
    bif (!x2) then
      some (Sum.inr (Sum.inr (false, true)))
    else
    some (Sum.inl ((s0.1, (s0.2.1, (s0.2.2.1, s0.2.2.2))), (s1, (s2, (s3, (s4, (s5, (Go.IntKind.wrap Go.IntKind.i64 (s6 + (1 : Int))))))))))
  else
  some (Sum.inr (Sum.inl ((s0.1, (s0.2.1, (s0.2.2.1, s0.2.2.2))), (s1, (s2, s3)))))
noncomputable def B_i_FitsWindow_0 (s0 : (Int × (Int × (Int × Int)))) (s1 : (List (List (Int × Int)))) (s2 : Int) (s3 : Int) : Option (((Int × (Int × (Int × Int))) × ((List (List (Int × Int))) × (Int × Int))) ⊕ (Unit ⊕ (Bool × Bool))) :=
  bif decide (s3 < s2) then
    ((getI s1 s3)).bind fun x0 =>
    (loopM (fun (s : ((Int × (Int × (Int × Int))) × ((List (List (Int × Int))) × (Int × (Int × ((List (Int × Int)) × (Int × Int))))))) => B_i_FitsWindow_1 s.1 s.2.1 s.2.2.1 s.2.2.2.1 s.2.2.2.2.1 s.2.2.2.2.2.1 s.2.2.2.2.2.2) ((s0.1, (s0.2.1, (s0.2.2.1, s0.2.2.2))), (s1, (s2, (s3, (x0, ((((List.length x0) : Nat) : Int), (0 : Int)))))))).bind fun x1 =>
    Sum.elim
      (fun x2 =>
      some (Sum.inl ((x2.1.1, (x2.1.2.1, (x2.1.2.2.1, x2.1.2.2.2))), (x2.2.1, (x2.2.2.1, (Go.IntKind.wrap Go.IntKind.i64 (x2.2.2.2 + (1 : Int))))))))
      (fun x3 =>
      some (Sum.inr (Sum.inr (x3.1, x3.2))))
      x1
  else
  some (Sum.inr (Sum.inl ()))
noncomputable def F_i_FitsWindow (a0 : (List UInt8)) (a1 : (Int × (Int × (Int × Int)))) : Option (Bool × Bool) :=
  ((F_i_ParsePath a0)).bind fun x0 =>
  bif (!x0.2.2.2) then
    some (false, false)
  else
  ((F_i_GoodWindow (a1.1, (a1.2.1, (a1.2.2.1, a1.2.2.2))))).bind fun x1 =>
  bif (!x1) then
    some (false, false)
  else
  (loopM (fun (s : ((Int × (Int × (Int × Int))) × ((List (List (Int × Int))) × (Int × Int)))) => B_i_FitsWindow_0 s.1 s.2.1 s.2.2.1 s.2.2.2) ((a1.1, (a1.2.1, (a1.2.2.1, a1.2.2.2))), (x0.1, ((((List.length x0.1) : Nat) : Int), (0 : Int))))).bind fun x2 =>
  Sum.elim
    (fun x3 =>
    some (true, true))
    (fun x4 =>
    some (x4.1, x4.2))
    x2
noncomputable def E_i_FitsWindow : Ent := ⟨a_i_FitsWindow, fun x => F_i_FitsWindow x.1 x.2⟩
noncomputable def X_i_FitsWindow : TX := ⟨tyTab, codTab, [], [4], [E_i_ParsePath, E_i_GoodWindow, E_i_within], a_i_FitsWindow⟩
set_option maxHeartbeats 2000000 in
theorem W_i_FitsWindow (a0 : List UInt8) (a1 : (Int × Int × Int × Int)) : wtF X_i_FitsWindow Tryd.f51 (a0, a1) = F_i_FitsWindow a0 a1 := by kernel_rfl
theorem OK_i_FitsWindow : EntOK RR E_i_FitsWindow := fn_done (X := X_i_FitsWindow) ⟨tyOK, boolOK, eqOK⟩ (ents_of (by exact ⟨⟨OK_i_ParsePath, rfl⟩, ⟨⟨OK_i_GoodWindow, rfl⟩, ⟨⟨OK_i_within, rfl⟩, trivial⟩⟩⟩)) (cf_ok (by kernel_rfl)) ⟨Tryd.func51, rfl, by kernel_rfl, rfl⟩ (fun x => by exact W_i_FitsWindow x.1 x.2)

/-- loop.example/g00409/laws.FnExactFitsWindow -/
noncomputable def F_l_FnExactFitsWindow (a0 : (List UInt8)) (a1 : (Int × (Int × (Int × Int)))) : Option (Bool) :=
  bif decide ((((List.length a0) : Nat) : Int) > (1048576 : Int)) then
    some true
  else
  ((F_l_toWindow (a1.1, (a1.2.1, (a1.2.2.1, a1.2.2.2))))).bind fun x0 =>
  ((F_s_FitsWindow a0 (x0.1, (x0.2.1, (x0.2.2.1, x0.2.2.2))))).bind fun x1 =>
  ((F_l_toWindow (a1.1, (a1.2.1, (a1.2.2.1, a1.2.2.2))))).bind fun x2 =>
  ((F_i_FitsWindow a0 (x2.1, (x2.2.1, (x2.2.2.1, x2.2.2.2))))).bind fun x3 =>
  bif (!(x3.1 == x1.1)) then
    some false
  else
  bif (!(x3.2 == x1.2)) then
    some false
  else
  some true
noncomputable def E_l_FnExactFitsWindow : Ent := ⟨a_l_FnExactFitsWindow, fun x => F_l_FnExactFitsWindow x.1 x.2⟩
noncomputable def X_l_FnExactFitsWindow : TX := ⟨tyTab, codTab, [], [4], [E_l_toWindow, E_s_FitsWindow, E_i_FitsWindow], a_l_FnExactFitsWindow⟩
set_option maxHeartbeats 2000000 in
theorem W_l_FnExactFitsWindow (a0 : List UInt8) (a1 : (Int × Int × Int × Int)) : wtF X_l_FnExactFitsWindow Tryd.f13 (a0, a1) = F_l_FnExactFitsWindow a0 a1 := by kernel_rfl
theorem OK_l_FnExactFitsWindow : EntOK RR E_l_FnExactFitsWindow := fn_done (X := X_l_FnExactFitsWindow) ⟨tyOK, boolOK, eqOK⟩ (ents_of (by exact ⟨⟨OK_l_toWindow, rfl⟩, ⟨⟨OK_s_FitsWindow, rfl⟩, ⟨⟨OK_i_FitsWindow, rfl⟩, trivial⟩⟩⟩)) (cf_ok (by kernel_rfl)) ⟨Tryd.func13, rfl, by kernel_rfl, rfl⟩ (fun x => by exact W_l_FnExactFitsWindow x.1 x.2)
end Go.Proofs.YtnhibkgoinnmcaaDoor.Ev
