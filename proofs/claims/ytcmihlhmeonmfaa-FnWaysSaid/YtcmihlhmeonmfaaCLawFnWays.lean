/- The functions that the law FnWays reaches: their types, forms and typed texts (made by wip/gen/mk.py). -/
import Derived.Test.YtcmihlhmeonmfaaEvD
import Derived.Test.YtcmihlhmeonmfaaEvC
import Derived.Test.YtcmihlhmeonmfaaProg
import Derived.KernelRfl
namespace Go.Proofs.Ytcmihlhmeonmfaa.Ev
open Go
set_option maxRecDepth 100000
set_option linter.unusedVariables false
def tyD3 : TyD := ⟨1, 8, false, [(.v (.int .i64 0))], none, false, (some .i64), []⟩
def tyD4 : TyD := ⟨1, 1, false, [(.v (.bool false))], none, false, none, []⟩
def tyD5 : TyD := ⟨1, 1, false, [(.v (.int .u8 0))], none, false, (some .u8), []⟩
def tyD36 : TyD := ⟨1, 24, false, [.em], (some 3), false, none, []⟩
def tyD48 : TyD := ⟨1, 24, false, [.em], (some 5), false, none, []⟩
def tyD50 : TyD := ⟨2, 16, true, [(.v (.int .i64 0)), (.v (.int .i64 0))], none, false, none, [⟨0, 3, 1, false⟩, ⟨1, 3, 1, false⟩]⟩
def tyD62 : TyD := ⟨1, 24, false, [.em], (some 50), false, none, []⟩
def tyD98 : TyD := ⟨1, 8, false, [(.v (.int .u64 0))], none, false, (some .u64), []⟩
def tyD100 : TyD := ⟨3, 40, true, [.em, (.v (.int .i64 0)), (.v (.int .u64 0))], none, false, none, [⟨0, 48, 1, false⟩, ⟨1, 3, 1, false⟩, ⟨2, 98, 1, false⟩]⟩
theorem ty3 : tyOf Try.prog 3 = some tyD3 := by kernel_rfl
theorem ty4 : tyOf Try.prog 4 = some tyD4 := by kernel_rfl
theorem ty5 : tyOf Try.prog 5 = some tyD5 := by kernel_rfl
theorem ty36 : tyOf Try.prog 36 = some tyD36 := by kernel_rfl
theorem ty48 : tyOf Try.prog 48 = some tyD48 := by kernel_rfl
theorem ty50 : tyOf Try.prog 50 = some tyD50 := by kernel_rfl
theorem ty62 : tyOf Try.prog 62 = some tyD62 := by kernel_rfl
theorem ty98 : tyOf Try.prog 98 = some tyD98 := by kernel_rfl
theorem ty100 : tyOf Try.prog 100 = some tyD100 := by kernel_rfl
def tyTab : List (Nat × TyD) := [(3, tyD3), (4, tyD4), (5, tyD5), (36, tyD36), (48, tyD48), (50, tyD50), (62, tyD62), (98, tyD98), (100, tyD100)]
def codTab : List (Nat × Ty) := [(3, .int .i64), (5, .int .u8), (50, .pair (.int .i64) (.int .i64))]
theorem tyOK : ∀ t d, getD tyTab t = some d → tyOf Try.prog t = some d := tab_ok (by unfold tyTab; exact ⟨ty3, ⟨ty4, ⟨ty5, ⟨ty36, ⟨ty48, ⟨ty50, ⟨ty62, ⟨ty98, ⟨ty100, trivial⟩⟩⟩⟩⟩⟩⟩⟩⟩)
theorem bool4 : Try.prog.underlying 4 = some .bool := by kernel_rfl
theorem boolOK : ∀ t, ([4] : List Nat).contains t = true → Try.prog.underlying t = some .bool := by
  intro t h
  simp at h
  rcases h with rfl
  all_goals first | exact bool4
theorem eq50 : EqOK Try.prog 50 := eq_ok Try.underlying50 (by kernel_rfl) (by kernel_rfl) (by kernel_rfl) (by kernel_rfl)
theorem eqOK : ∀ t, ([50] : List Nat).contains t = true → EqOK Try.prog t := by
  intro t h
  simp at h
  rcases h with rfl
  all_goals first | exact eq50
def a_s_l1Cur_next : FAnn := ⟨130, false, 1, [.blk (.box 100 [.im (.int .u8), .int .i64, .int .u64]), .slot 0 (.ref 0 true)], [.blk (.box 100 [.im (.int .u8), .int .i64, .int .u64]), .slot 0 (.cell (.int .i64))],
  [],
  [],
  [(4, [.blk (.box 100 [.im (.int .u8), .int .i64, .int .u64]), .slot 0 (.ref 0 true), .slot 3 (.cell (.int .i64))])]⟩
def a_s_l1Cur_pick : FAnn := ⟨102, false, 1, [.blk (.box 100 [.im (.int .u8), .int .i64, .int .u64]), .slot 0 (.ref 0 true), .slot 1 (.cell (.int .i64))], [.blk (.box 100 [.im (.int .u8), .int .i64, .int .u64]), .slot 0 (.cell (.int .i64))],
  [],
  [],
  []⟩
def a_s_l1Cur_one : FAnn := ⟨116, false, 1, [.blk (.box 100 [.im (.int .u8), .int .i64, .int .u64]), .slot 0 (.ref 0 true), .slot 1 (.cell (.int .i64))], [.blk (.box 100 [.im (.int .u8), .int .i64, .int .u64]), .slot 0 (.cell (.bool))],
  [],
  [],
  []⟩
def a_s_l1Cur_among : FAnn := ⟨97, false, 1, [.blk (.box 100 [.im (.int .u8), .int .i64, .int .u64]), .slot 0 (.ref 0 true), .slot 1 (.cell (.im (.int .i64)))], [.blk (.box 100 [.im (.int .u8), .int .i64, .int .u64]), .slot 0 (.cell (.int .i64))],
  [],
  [],
  []⟩
def a_s_l1Cur_pt : FAnn := ⟨88, false, 1, [.blk (.box 100 [.im (.int .u8), .int .i64, .int .u64]), .slot 0 (.ref 0 true)], [.blk (.box 100 [.im (.int .u8), .int .i64, .int .u64]), .slot 0 (.agg [.int .i64, .int .i64])],
  [],
  [],
  []⟩
def a_s_l1Cur_way : FAnn := ⟨100, false, 1, [.blk (.box 100 [.im (.int .u8), .int .i64, .int .u64]), .slot 0 (.ref 0 true)], [.blk (.box 100 [.im (.int .u8), .int .i64, .int .u64]), .blk (.arr 50 true (.pair (.int .i64) (.int .i64))), .slot 0 (.ref 1 false)],
  [(8, [.blk (.box 100 [.im (.int .u8), .int .i64, .int .u64]), .blk (.arr 50 true (.pair (.int .i64) (.int .i64))), .slot 0 (.ref 0 true), .slot 3 (.ref 1 false), .slot 4 (.cell (.int .i64))]), (12, [.blk (.box 100 [.im (.int .u8), .int .i64, .int .u64]), .blk (.arr 50 true (.pair (.int .i64) (.int .i64))), .slot 0 (.ref 0 true), .slot 3 (.ref 1 false)])],
  [(8, [(.exit 1, [.blk (.box 100 [.im (.int .u8), .int .i64, .int .u64]), .blk (.arr 50 true (.pair (.int .i64) (.int .i64))), .slot 0 (.ref 0 true), .slot 3 (.ref 1 false)])]), (12, [(.exit 3, [.blk (.box 100 [.im (.int .u8), .int .i64, .int .u64]), .blk (.arr 50 true (.pair (.int .i64) (.int .i64))), .slot 3 (.ref 1 false)])])],
  []⟩
def a_s_DrawSplitWay : FAnn := ⟨50, false, 0, [.slot 0 (.cell (.im (.int .u8)))], [.blk (.arr 50 true (.pair (.int .i64) (.int .i64))), .slot 0 (.ref 0 false), .slot 1 (.cell (.int .i64)), .slot 2 (.cell (.int .i64))],
  [],
  [],
  []⟩
def a_i_within : FAnn := ⟨73, false, 0, [.slot 0 (.cell (.int .i64)), .slot 1 (.cell (.int .i64)), .slot 2 (.cell (.int .i64))], [.slot 0 (.cell (.bool))],
  [],
  [],
  []⟩
def a_i_GoodPt : FAnn := ⟨40, false, 0, [.slot 0 (.agg [.int .i64, .int .i64])], [.slot 0 (.cell (.bool))],
  [],
  [],
  []⟩
def a_i_arePts_1 : FAnn := ⟨123, false, 0, [.slot 0 (.agg [.int .i64, .int .i64])], [.slot 0 (.cell (.bool))],
  [],
  [],
  []⟩
def a_slices_IndexFunc_Si_Pt_i_Pt : FAnn := ⟨133, false, 0, [.slot 0 (.cell (.im (.pair (.int .i64) (.int .i64)))), .slot 1 (.clo 123)], [.slot 0 (.cell (.int .i64))],
  [(2, [.slot 0 (.cell (.im (.pair (.int .i64) (.int .i64)))), .slot 1 (.clo 123), .slot 7 (.cell (.int .i64)), .slot 8 (.cell (.int .i64))])],
  [(2, [(.exit 0, []), (.ret, [.slot 4 (.cell (.int .i64))])])],
  []⟩
def a_slices_ContainsFunc_Si_Pt_i_Pt : FAnn := ⟨122, false, 0, [.slot 0 (.cell (.im (.pair (.int .i64) (.int .i64)))), .slot 1 (.clo 123)], [.slot 0 (.cell (.bool))],
  [],
  [],
  []⟩
def a_i_arePts : FAnn := ⟨89, false, 0, [.slot 0 (.cell (.im (.pair (.int .i64) (.int .i64))))], [.slot 0 (.cell (.bool))],
  [],
  [],
  []⟩
def a_i_isWay : FAnn := ⟨80, false, 0, [.slot 0 (.cell (.im (.pair (.int .i64) (.int .i64))))], [.slot 0 (.cell (.bool))],
  [],
  [],
  []⟩
def a_i_SplitWay : FAnn := ⟨51, false, 0, [.slot 0 (.cell (.im (.pair (.int .i64) (.int .i64)))), .slot 1 (.cell (.int .i64)), .slot 2 (.cell (.int .i64))], [.blk (.arr 50 true (.pair (.int .i64) (.int .i64))), .blk (.arr 50 true (.pair (.int .i64) (.int .i64))), .slot 0 (.ref 0 false), .slot 1 (.ref 1 false), .slot 2 (.cell (.bool))],
  [(6, [.blk (.arr 50 true (.pair (.int .i64) (.int .i64))), .blk (.arr 50 true (.pair (.int .i64) (.int .i64))), .slot 0 (.cell (.im (.pair (.int .i64) (.int .i64)))), .slot 1 (.cell (.int .i64)), .slot 2 (.cell (.int .i64)), .slot 9 (.cell (.int .i64)), .slot 10 (.ref 0 false), .slot 11 (.ref 1 false), .slot 12 (.cell (.int .i64))]), (10, [.blk (.arr 50 true (.pair (.int .i64) (.int .i64))), .blk (.arr 50 true (.pair (.int .i64) (.int .i64))), .slot 0 (.cell (.im (.pair (.int .i64) (.int .i64)))), .slot 1 (.cell (.int .i64)), .slot 9 (.cell (.int .i64)), .slot 10 (.ref 0 false), .slot 11 (.ref 1 false), .slot 13 (.cell (.int .i64))])],
  [(6, [(.exit 0, [.blk (.arr 50 true (.pair (.int .i64) (.int .i64))), .blk (.arr 50 true (.pair (.int .i64) (.int .i64))), .slot 0 (.cell (.im (.pair (.int .i64) (.int .i64)))), .slot 1 (.cell (.int .i64)), .slot 2 (.cell (.int .i64)), .slot 9 (.cell (.int .i64)), .slot 10 (.ref 0 false), .slot 11 (.ref 1 false)])]), (10, [(.exit 2, [.blk (.arr 50 true (.pair (.int .i64) (.int .i64))), .blk (.arr 50 true (.pair (.int .i64) (.int .i64))), .slot 10 (.ref 0 false), .slot 11 (.ref 1 false)])])],
  [(4, [.slot 0 (.cell (.im (.pair (.int .i64) (.int .i64)))), .slot 1 (.cell (.int .i64)), .slot 2 (.cell (.int .i64)), .slot 9 (.cell (.int .i64))])]⟩
def a_s_l1In : FAnn := ⟨71, false, 0, [.slot 0 (.cell (.int .i64)), .slot 1 (.cell (.int .i64)), .slot 2 (.cell (.int .i64))], [.slot 0 (.cell (.bool))],
  [],
  [],
  []⟩
def a_s_GoodPt : FAnn := ⟨41, false, 0, [.slot 0 (.agg [.int .i64, .int .i64])], [.slot 0 (.cell (.bool))],
  [],
  [],
  []⟩
def a_s_l8Pts : FAnn := ⟨91, false, 0, [.slot 0 (.cell (.im (.pair (.int .i64) (.int .i64))))], [.slot 0 (.cell (.bool))],
  [(2, [.slot 5 (.cell (.im (.pair (.int .i64) (.int .i64)))), .slot 6 (.cell (.int .i64)), .slot 7 (.cell (.int .i64))])],
  [(2, [(.exit 0, []), (.ret, [.slot 2 (.cell (.bool))])])],
  []⟩
def a_s_l8Way : FAnn := ⟨76, false, 0, [.slot 0 (.cell (.im (.pair (.int .i64) (.int .i64))))], [.slot 0 (.cell (.bool))],
  [],
  [],
  []⟩
def a_s_SplitWay : FAnn := ⟨52, false, 0, [.slot 0 (.cell (.im (.pair (.int .i64) (.int .i64)))), .slot 1 (.cell (.int .i64)), .slot 2 (.cell (.int .i64))], [.blk (.arr 50 true (.pair (.int .i64) (.int .i64))), .blk (.arr 50 true (.pair (.int .i64) (.int .i64))), .slot 0 (.ref 0 false), .slot 1 (.ref 1 false), .slot 2 (.cell (.bool))],
  [],
  [],
  [(3, [.slot 0 (.cell (.im (.pair (.int .i64) (.int .i64)))), .slot 1 (.cell (.int .i64)), .slot 2 (.cell (.int .i64))])]⟩
def a_l_samePts : FAnn := ⟨48, false, 0, [.slot 0 (.cell (.im (.pair (.int .i64) (.int .i64)))), .slot 1 (.cell (.im (.pair (.int .i64) (.int .i64))))], [.slot 0 (.cell (.bool))],
  [(4, [.slot 0 (.cell (.im (.pair (.int .i64) (.int .i64)))), .slot 1 (.cell (.im (.pair (.int .i64) (.int .i64)))), .slot 12 (.cell (.int .i64)), .slot 13 (.cell (.int .i64))])],
  [(4, [(.exit 0, []), (.ret, [.slot 4 (.cell (.bool))])])],
  []⟩
def a_s_DrawOnWay : FAnn := ⟨53, false, 0, [.slot 0 (.cell (.im (.int .u8)))], [.blk (.arr 50 true (.pair (.int .i64) (.int .i64))), .slot 0 (.ref 0 false), .slot 1 (.agg [.int .i64, .int .i64])],
  [],
  [],
  []⟩
def a_i_after : FAnn := ⟨129, false, 0, [.slot 0 (.cell (.im (.pair (.int .i64) (.int .i64)))), .slot 1 (.cell (.int .i64))], [.slot 0 (.cell (.int .i64))],
  [],
  [],
  []⟩
def a_i_signOf : FAnn := ⟨124, false, 0, [.slot 0 (.cell (.int .i64))], [.slot 0 (.cell (.int .i64))],
  [],
  [],
  []⟩
def a_i_orient : FAnn := ⟨93, false, 0, [.slot 0 (.agg [.int .i64, .int .i64]), .slot 1 (.agg [.int .i64, .int .i64]), .slot 2 (.agg [.int .i64, .int .i64])], [.slot 0 (.cell (.int .i64))],
  [],
  [],
  []⟩
def a_i_isOn : FAnn := ⟨95, false, 0, [.slot 0 (.agg [.int .i64, .int .i64]), .slot 1 (.agg [.int .i64, .int .i64]), .slot 2 (.agg [.int .i64, .int .i64])], [.slot 0 (.cell (.bool))],
  [],
  [],
  []⟩
def a_i_onWay : FAnn := ⟨107, false, 0, [.slot 0 (.cell (.im (.pair (.int .i64) (.int .i64)))), .slot 1 (.agg [.int .i64, .int .i64])], [.slot 0 (.cell (.bool))],
  [(2, [.blk (.box 50 [.int .i64, .int .i64]), .slot 0 (.cell (.im (.pair (.int .i64) (.int .i64)))), .slot 3 (.ref 0 true), .slot 7 (.cell (.im (.pair (.int .i64) (.int .i64)))), .slot 8 (.cell (.int .i64)), .slot 9 (.cell (.int .i64))])],
  [(2, [(.exit 0, []), (.ret, [.slot 4 (.cell (.bool))])])],
  []⟩
def a_i_isOff : FAnn := ⟨103, false, 0, [.slot 0 (.cell (.im (.pair (.int .i64) (.int .i64)))), .slot 1 (.agg [.int .i64, .int .i64])], [.slot 0 (.cell (.bool))],
  [],
  [],
  []⟩
def a_i_turns : FAnn := ⟨104, false, 0, [.slot 0 (.cell (.im (.pair (.int .i64) (.int .i64)))), .slot 1 (.agg [.int .i64, .int .i64])], [.slot 0 (.cell (.int .i64)), .slot 1 (.cell (.int .i64))],
  [(3, [.blk (.box 50 [.int .i64, .int .i64]), .slot 0 (.cell (.im (.pair (.int .i64) (.int .i64)))), .slot 3 (.ref 0 true), .slot 6 (.cell (.int .i64)), .slot 7 (.cell (.int .i64)), .slot 11 (.cell (.im (.pair (.int .i64) (.int .i64)))), .slot 12 (.cell (.int .i64)), .slot 13 (.cell (.int .i64))])],
  [(3, [(.exit 0, [.slot 6 (.cell (.int .i64)), .slot 7 (.cell (.int .i64))])])],
  []⟩
def a_i_WindingAt : FAnn := ⟨54, false, 0, [.slot 0 (.cell (.im (.pair (.int .i64) (.int .i64)))), .slot 1 (.agg [.int .i64, .int .i64])], [.slot 0 (.cell (.int .i64)), .slot 1 (.cell (.bool))],
  [],
  [],
  []⟩
def a_i_areaTwice : FAnn := ⟨101, false, 0, [.slot 0 (.cell (.im (.pair (.int .i64) (.int .i64))))], [.slot 0 (.cell (.int .i64))],
  [(3, [.slot 0 (.cell (.im (.pair (.int .i64) (.int .i64)))), .slot 3 (.cell (.int .i64)), .slot 7 (.cell (.im (.pair (.int .i64) (.int .i64)))), .slot 8 (.cell (.int .i64)), .slot 9 (.cell (.int .i64))])],
  [(3, [(.exit 0, [.slot 3 (.cell (.int .i64))])])],
  []⟩
def a_i_AreaTwice : FAnn := ⟨49, false, 0, [.slot 0 (.cell (.im (.pair (.int .i64) (.int .i64))))], [.slot 0 (.cell (.int .i64)), .slot 1 (.cell (.bool))],
  [],
  [],
  []⟩
def a_s_DrawAreaTwice : FAnn := ⟨105, false, 0, [.slot 0 (.cell (.im (.int .u8)))], [.blk (.arr 50 true (.pair (.int .i64) (.int .i64))), .slot 0 (.ref 0 false)],
  [],
  [],
  []⟩
def a_s_DrawWindingSum : FAnn := ⟨55, false, 0, [.slot 0 (.cell (.im (.int .u8)))], [.blk (.arr 50 true (.pair (.int .i64) (.int .i64))), .slot 0 (.ref 0 false)],
  [],
  [],
  []⟩
def a_i_boxOf : FAnn := ⟨106, false, 0, [.slot 0 (.cell (.im (.pair (.int .i64) (.int .i64))))], [.slot 0 (.agg [.int .i64, .int .i64]), .slot 1 (.agg [.int .i64, .int .i64])],
  [(3, [.blk (.box 50 [.int .i64, .int .i64]), .blk (.box 50 [.int .i64, .int .i64]), .blk (.box 50 [.int .i64, .int .i64]), .blk (.box 50 [.int .i64, .int .i64]), .slot 2 (.ref 0 true), .slot 3 (.ref 1 true), .slot 4 (.ref 2 true), .slot 5 (.ref 3 true), .slot 14 (.cell (.im (.pair (.int .i64) (.int .i64)))), .slot 15 (.cell (.int .i64)), .slot 16 (.cell (.int .i64))])],
  [(3, [(.exit 0, [.blk (.box 50 [.int .i64, .int .i64]), .blk (.box 50 [.int .i64, .int .i64]), .blk (.box 50 [.int .i64, .int .i64]), .blk (.box 50 [.int .i64, .int .i64]), .slot 2 (.ref 0 true), .slot 3 (.ref 1 true), .slot 4 (.ref 2 true), .slot 5 (.ref 3 true)])])],
  []⟩
def a_i_WindingSum : FAnn := ⟨56, false, 0, [.slot 0 (.cell (.im (.pair (.int .i64) (.int .i64))))], [.slot 0 (.cell (.int .i64)), .slot 1 (.cell (.bool))],
  [(8, [.blk (.box 50 [.int .i64, .int .i64]), .blk (.box 50 [.int .i64, .int .i64]), .slot 0 (.cell (.im (.pair (.int .i64) (.int .i64)))), .slot 4 (.ref 0 true), .slot 5 (.ref 1 true), .slot 6 (.cell (.int .i64)), .slot 7 (.cell (.int .i64))]), (11, [.blk (.box 50 [.int .i64, .int .i64]), .blk (.box 50 [.int .i64, .int .i64]), .slot 0 (.cell (.im (.pair (.int .i64) (.int .i64)))), .slot 4 (.ref 0 true), .slot 5 (.ref 1 true), .slot 6 (.cell (.int .i64)), .slot 7 (.cell (.int .i64)), .slot 8 (.cell (.int .i64))])],
  [(8, [(.exit 0, [.slot 6 (.cell (.int .i64))])]), (11, [(.exit 2, [.blk (.box 50 [.int .i64, .int .i64]), .blk (.box 50 [.int .i64, .int .i64]), .slot 0 (.cell (.im (.pair (.int .i64) (.int .i64)))), .slot 4 (.ref 0 true), .slot 5 (.ref 1 true), .slot 6 (.cell (.int .i64)), .slot 7 (.cell (.int .i64))])])],
  []⟩
def a_s_l9Box : FAnn := ⟨108, false, 0, [.slot 0 (.cell (.im (.pair (.int .i64) (.int .i64))))], [.slot 0 (.agg [.int .i64, .int .i64]), .slot 1 (.agg [.int .i64, .int .i64])],
  [(4, [.blk (.box 50 [.int .i64, .int .i64]), .blk (.box 50 [.int .i64, .int .i64]), .blk (.box 50 [.int .i64, .int .i64]), .blk (.box 50 [.int .i64, .int .i64]), .slot 2 (.ref 0 true), .slot 3 (.ref 1 true), .slot 4 (.ref 2 true), .slot 5 (.ref 3 true), .slot 14 (.cell (.im (.pair (.int .i64) (.int .i64)))), .slot 15 (.cell (.int .i64)), .slot 16 (.cell (.int .i64))])],
  [(4, [(.exit 0, [.blk (.box 50 [.int .i64, .int .i64]), .blk (.box 50 [.int .i64, .int .i64]), .blk (.box 50 [.int .i64, .int .i64]), .blk (.box 50 [.int .i64, .int .i64]), .slot 2 (.ref 0 true), .slot 3 (.ref 1 true), .slot 4 (.ref 2 true), .slot 5 (.ref 3 true)])])],
  [(8, [.blk (.box 50 [.int .i64, .int .i64]), .blk (.box 50 [.int .i64, .int .i64]), .blk (.box 50 [.int .i64, .int .i64]), .blk (.box 50 [.int .i64, .int .i64]), .blk (.box 50 [.int .i64, .int .i64]), .slot 2 (.ref 0 true), .slot 3 (.ref 1 true), .slot 4 (.ref 2 true), .slot 5 (.ref 3 true), .slot 7 (.ref 4 true), .slot 14 (.cell (.im (.pair (.int .i64) (.int .i64)))), .slot 15 (.cell (.int .i64)), .slot 16 (.cell (.int .i64))]), (10, [.blk (.box 50 [.int .i64, .int .i64]), .blk (.box 50 [.int .i64, .int .i64]), .blk (.box 50 [.int .i64, .int .i64]), .blk (.box 50 [.int .i64, .int .i64]), .blk (.box 50 [.int .i64, .int .i64]), .slot 2 (.ref 0 true), .slot 3 (.ref 1 true), .slot 4 (.ref 2 true), .slot 5 (.ref 3 true), .slot 7 (.ref 4 true), .slot 14 (.cell (.im (.pair (.int .i64) (.int .i64)))), .slot 15 (.cell (.int .i64)), .slot 16 (.cell (.int .i64))]), (12, [.blk (.box 50 [.int .i64, .int .i64]), .blk (.box 50 [.int .i64, .int .i64]), .blk (.box 50 [.int .i64, .int .i64]), .blk (.box 50 [.int .i64, .int .i64]), .blk (.box 50 [.int .i64, .int .i64]), .slot 2 (.ref 0 true), .slot 3 (.ref 1 true), .slot 4 (.ref 2 true), .slot 5 (.ref 3 true), .slot 7 (.ref 4 true), .slot 14 (.cell (.im (.pair (.int .i64) (.int .i64)))), .slot 15 (.cell (.int .i64)), .slot 16 (.cell (.int .i64))])]⟩
def a_s_l8Next : FAnn := ⟨131, false, 0, [.slot 0 (.cell (.im (.pair (.int .i64) (.int .i64)))), .slot 1 (.cell (.int .i64))], [.slot 0 (.agg [.int .i64, .int .i64])],
  [],
  [],
  []⟩
def a_s_l8Cross : FAnn := ⟨126, false, 0, [.slot 0 (.agg [.int .i64, .int .i64]), .slot 1 (.agg [.int .i64, .int .i64]), .slot 2 (.agg [.int .i64, .int .i64])], [.slot 0 (.cell (.int .i64))],
  [],
  [],
  []⟩
def a_s_l8Between : FAnn := ⟨127, false, 0, [.slot 0 (.cell (.int .i64)), .slot 1 (.cell (.int .i64)), .slot 2 (.cell (.int .i64))], [.slot 0 (.cell (.bool))],
  [],
  [],
  []⟩
def a_s_l8On : FAnn := ⟨96, false, 0, [.slot 0 (.agg [.int .i64, .int .i64]), .slot 1 (.agg [.int .i64, .int .i64]), .slot 2 (.agg [.int .i64, .int .i64])], [.slot 0 (.cell (.bool))],
  [],
  [],
  []⟩
def a_s_l9On : FAnn := ⟨109, false, 0, [.slot 0 (.cell (.im (.pair (.int .i64) (.int .i64)))), .slot 1 (.agg [.int .i64, .int .i64])], [.slot 0 (.cell (.bool))],
  [(2, [.blk (.box 50 [.int .i64, .int .i64]), .slot 0 (.cell (.im (.pair (.int .i64) (.int .i64)))), .slot 3 (.ref 0 true), .slot 7 (.cell (.im (.pair (.int .i64) (.int .i64)))), .slot 8 (.cell (.int .i64)), .slot 9 (.cell (.int .i64))])],
  [(2, [(.exit 0, []), (.ret, [.slot 4 (.cell (.bool))])])],
  []⟩
def a_s_l8Sign : FAnn := ⟨125, false, 0, [.slot 0 (.cell (.int .i64))], [.slot 0 (.cell (.int .i64))],
  [],
  [],
  []⟩
def a_s_l8Orient : FAnn := ⟨94, false, 0, [.slot 0 (.agg [.int .i64, .int .i64]), .slot 1 (.agg [.int .i64, .int .i64]), .slot 2 (.agg [.int .i64, .int .i64])], [.slot 0 (.cell (.int .i64))],
  [],
  [],
  []⟩
def a_s_l9Winding : FAnn := ⟨110, false, 0, [.slot 0 (.cell (.im (.pair (.int .i64) (.int .i64)))), .slot 1 (.agg [.int .i64, .int .i64])], [.slot 0 (.cell (.int .i64))],
  [(3, [.blk (.box 50 [.int .i64, .int .i64]), .slot 0 (.cell (.im (.pair (.int .i64) (.int .i64)))), .slot 3 (.ref 0 true), .slot 5 (.cell (.int .i64)), .slot 9 (.cell (.im (.pair (.int .i64) (.int .i64)))), .slot 10 (.cell (.int .i64)), .slot 11 (.cell (.int .i64))])],
  [(3, [(.exit 0, [.slot 5 (.cell (.int .i64))])])],
  []⟩
def a_s_WindingSum : FAnn := ⟨57, false, 0, [.slot 0 (.cell (.im (.pair (.int .i64) (.int .i64))))], [.slot 0 (.cell (.int .i64)), .slot 1 (.cell (.bool))],
  [(8, [.blk (.box 50 [.int .i64, .int .i64]), .blk (.box 50 [.int .i64, .int .i64]), .slot 0 (.cell (.im (.pair (.int .i64) (.int .i64)))), .slot 4 (.ref 0 true), .slot 5 (.ref 1 true), .slot 6 (.cell (.int .i64)), .slot 7 (.cell (.int .i64))]), (11, [.blk (.box 50 [.int .i64, .int .i64]), .blk (.box 50 [.int .i64, .int .i64]), .slot 0 (.cell (.im (.pair (.int .i64) (.int .i64)))), .slot 4 (.ref 0 true), .slot 5 (.ref 1 true), .slot 6 (.cell (.int .i64)), .slot 7 (.cell (.int .i64)), .slot 8 (.cell (.int .i64))])],
  [(8, [(.exit 0, [.slot 6 (.cell (.int .i64))])]), (11, [(.exit 2, [.blk (.box 50 [.int .i64, .int .i64]), .blk (.box 50 [.int .i64, .int .i64]), .slot 0 (.cell (.im (.pair (.int .i64) (.int .i64)))), .slot 4 (.ref 0 true), .slot 5 (.ref 1 true), .slot 6 (.cell (.int .i64)), .slot 7 (.cell (.int .i64))])])],
  []⟩
def a_i_BoxOf : FAnn := ⟨58, false, 0, [.slot 0 (.cell (.im (.pair (.int .i64) (.int .i64))))], [.slot 0 (.agg [.int .i64, .int .i64]), .slot 1 (.agg [.int .i64, .int .i64]), .slot 2 (.cell (.bool))],
  [],
  [],
  []⟩
def a_s_BoxOf : FAnn := ⟨59, false, 0, [.slot 0 (.cell (.im (.pair (.int .i64) (.int .i64))))], [.slot 0 (.agg [.int .i64, .int .i64]), .slot 1 (.agg [.int .i64, .int .i64]), .slot 2 (.cell (.bool))],
  [],
  [],
  []⟩
def a_l_FnWays : FAnn := ⟨9, false, 0, [.slot 0 (.cell (.im (.int .u8))), .slot 1 (.cell (.im (.int .u8)))], [.slot 0 (.cell (.bool))],
  [],
  [],
  [(15, [.blk (.arr 50 true (.pair (.int .i64) (.int .i64))), .blk (.arr 50 true (.pair (.int .i64) (.int .i64))), .blk (.arr 50 true (.pair (.int .i64) (.int .i64))), .blk (.arr 50 true (.pair (.int .i64) (.int .i64))), .slot 1 (.cell (.im (.int .u8))), .slot 5 (.ref 0 false), .slot 8 (.ref 1 false), .slot 9 (.ref 2 false), .slot 14 (.ref 3 false)]), (20, [.slot 1 (.cell (.im (.int .u8)))])]⟩
def annTab : List FAnn := [a_s_l1Cur_next, a_s_l1Cur_pick, a_s_l1Cur_one, a_s_l1Cur_among, a_s_l1Cur_pt, a_s_l1Cur_way, a_s_DrawSplitWay, a_i_within, a_i_GoodPt, a_i_arePts_1, a_slices_IndexFunc_Si_Pt_i_Pt, a_slices_ContainsFunc_Si_Pt_i_Pt, a_i_arePts, a_i_isWay, a_i_SplitWay, a_s_l1In, a_s_GoodPt, a_s_l8Pts, a_s_l8Way, a_s_SplitWay, a_l_samePts, a_s_DrawOnWay, a_i_after, a_i_signOf, a_i_orient, a_i_isOn, a_i_onWay, a_i_isOff, a_i_turns, a_i_WindingAt, a_i_areaTwice, a_i_AreaTwice, a_s_DrawAreaTwice, a_s_DrawWindingSum, a_i_boxOf, a_i_WindingSum, a_s_l9Box, a_s_l8Next, a_s_l8Cross, a_s_l8Between, a_s_l8On, a_s_l9On, a_s_l8Sign, a_s_l8Orient, a_s_l9Winding, a_s_WindingSum, a_i_BoxOf, a_s_BoxOf, a_l_FnWays]
def cf0 : Cfg := cfOf annTab fun _ => false
def noExt : Rel := fun _ _ _ _ _ => False
abbrev RR : Rel := Runs Try.prog cf0 noExt

/-- (*loop.example/g00409/spec.l1Cur).next -/
noncomputable def F_s_l1Cur_next (a0 : ((List Int) × (Int × Int))) : Option ((List (Int) × Int × Int) × Int) :=
  (bif decide (a0.2.1 < (((List.length a0.1) : Nat) : Int)) then
      ((getI a0.1 a0.2.1)).bind fun x0 =>
      some (Sum.inr ((a0.1, (a0.2.1, a0.2.2)), (Go.IntKind.wrap Go.IntKind.i64 x0)))
    else
    some (Sum.inr ((a0.1, (a0.2.1, a0.2.2)), (0 : Int)))).bind fun x1 =>
  Sum.elim
    (fun x2 =>
    some x2)
    (fun x3 =>
    bif decide ((Go.IntKind.wrap Go.IntKind.i64 (x3.1.2.1 + (1 : Int))) ≤ (((List.length x3.1.1) : Nat) : Int)) then
      some ((x3.1.1, ((Go.IntKind.wrap Go.IntKind.i64 (x3.1.2.1 + (1 : Int))), (Go.IntKind.wrap Go.IntKind.u64 ((Go.IntKind.wrap Go.IntKind.u64 ((Go.IntKind.wrap Go.IntKind.u64 (x3.1.2.2 * (6364136223846793005 : Int))) + (Go.IntKind.wrap Go.IntKind.u64 x3.2))) + (1442695040888963407 : Int))))), x3.2)
    else
    some ((x3.1.1, ((Go.IntKind.wrap Go.IntKind.i64 (x3.1.2.1 + (1 : Int))), (Go.IntKind.wrap Go.IntKind.u64 ((Go.IntKind.wrap Go.IntKind.u64 ((Go.IntKind.wrap Go.IntKind.u64 (x3.1.2.2 * (6364136223846793005 : Int))) + (Go.IntKind.wrap Go.IntKind.u64 x3.2))) + (1442695040888963407 : Int))))), (Go.IntKind.wrap Go.IntKind.i64 (andI Go.IntKind.u64 (shrI Go.IntKind.u64 (Go.IntKind.wrap Go.IntKind.u64 ((Go.IntKind.wrap Go.IntKind.u64 ((Go.IntKind.wrap Go.IntKind.u64 (x3.1.2.2 * (6364136223846793005 : Int))) + (Go.IntKind.wrap Go.IntKind.u64 x3.2))) + (1442695040888963407 : Int))) (40 : Int)) (255 : Int)))))
    x1
noncomputable def E_s_l1Cur_next : Ent := ⟨a_s_l1Cur_next, fun x => F_s_l1Cur_next x⟩
noncomputable def X_s_l1Cur_next : TX := ⟨tyTab, codTab, [50], [4], [], a_s_l1Cur_next⟩
set_option maxHeartbeats 2000000 in
theorem W_s_l1Cur_next (a0 : (List (Int) × Int × Int)) : wtF X_s_l1Cur_next Try.f130 (a0) = F_s_l1Cur_next a0 := by kernel_rfl
theorem OK_s_l1Cur_next : EntOK RR E_s_l1Cur_next := fn_done (X := X_s_l1Cur_next) ⟨tyOK, boolOK, eqOK⟩ (ents_of (by exact trivial)) (cf_ok (by kernel_rfl)) ⟨Try.func130, rfl, by kernel_rfl, rfl⟩ (fun x => by exact W_s_l1Cur_next x)

/-- (*loop.example/g00409/spec.l1Cur).pick -/
noncomputable def F_s_l1Cur_pick (a0 : ((List Int) × (Int × Int))) (a1 : Int) : Option ((List (Int) × Int × Int) × Int) :=
  bif decide (a1 ≤ (1 : Int)) then
    some ((a0.1, (a0.2.1, a0.2.2)), (0 : Int))
  else
  ((F_s_l1Cur_next (a0.1, (a0.2.1, a0.2.2)))).bind fun x0 =>
  bif decide (a1 > (200 : Int)) then
    ((F_s_l1Cur_next (x0.1.1, (x0.1.2.1, x0.1.2.2)))).bind fun x1 =>
    bif (a1 == (0 : Int)) then
      none
    else
    some ((x1.1.1, (x1.1.2.1, x1.1.2.2)), (Int.tmod (Go.IntKind.wrap Go.IntKind.i64 ((Go.IntKind.wrap Go.IntKind.i64 (x0.2 * (256 : Int))) + x1.2)) a1))
  else
  bif (a1 == (0 : Int)) then
    none
  else
  some ((x0.1.1, (x0.1.2.1, x0.1.2.2)), (Int.tmod x0.2 a1))
noncomputable def E_s_l1Cur_pick : Ent := ⟨a_s_l1Cur_pick, fun x => F_s_l1Cur_pick x.1 x.2⟩
noncomputable def X_s_l1Cur_pick : TX := ⟨tyTab, codTab, [50], [4], [E_s_l1Cur_next], a_s_l1Cur_pick⟩
set_option maxHeartbeats 2000000 in
theorem W_s_l1Cur_pick (a0 : (List (Int) × Int × Int)) (a1 : Int) : wtF X_s_l1Cur_pick Try.f102 (a0, a1) = F_s_l1Cur_pick a0 a1 := by kernel_rfl
theorem OK_s_l1Cur_pick : EntOK RR E_s_l1Cur_pick := fn_done (X := X_s_l1Cur_pick) ⟨tyOK, boolOK, eqOK⟩ (ents_of (by exact ⟨⟨OK_s_l1Cur_next, rfl⟩, trivial⟩)) (cf_ok (by kernel_rfl)) ⟨Try.func102, rfl, by kernel_rfl, rfl⟩ (fun x => by exact W_s_l1Cur_pick x.1 x.2)

/-- (*loop.example/g00409/spec.l1Cur).one -/
noncomputable def F_s_l1Cur_one (a0 : ((List Int) × (Int × Int))) (a1 : Int) : Option ((List (Int) × Int × Int) × Bool) :=
  ((F_s_l1Cur_pick (a0.1, (a0.2.1, a0.2.2)) a1)).bind fun x0 =>
  some ((x0.1.1, (x0.1.2.1, x0.1.2.2)), (x0.2 == (0 : Int)))
noncomputable def E_s_l1Cur_one : Ent := ⟨a_s_l1Cur_one, fun x => F_s_l1Cur_one x.1 x.2⟩
noncomputable def X_s_l1Cur_one : TX := ⟨tyTab, codTab, [50], [4], [E_s_l1Cur_pick], a_s_l1Cur_one⟩
set_option maxHeartbeats 2000000 in
theorem W_s_l1Cur_one (a0 : (List (Int) × Int × Int)) (a1 : Int) : wtF X_s_l1Cur_one Try.f116 (a0, a1) = F_s_l1Cur_one a0 a1 := by kernel_rfl
theorem OK_s_l1Cur_one : EntOK RR E_s_l1Cur_one := fn_done (X := X_s_l1Cur_one) ⟨tyOK, boolOK, eqOK⟩ (ents_of (by exact ⟨⟨OK_s_l1Cur_pick, rfl⟩, trivial⟩)) (cf_ok (by kernel_rfl)) ⟨Try.func116, rfl, by kernel_rfl, rfl⟩ (fun x => by exact W_s_l1Cur_one x.1 x.2)

/-- (*loop.example/g00409/spec.l1Cur).among -/
noncomputable def F_s_l1Cur_among (a0 : ((List Int) × (Int × Int))) (a1 : (List Int)) : Option ((List (Int) × Int × Int) × Int) :=
  ((F_s_l1Cur_pick (a0.1, (a0.2.1, a0.2.2)) (((List.length a1) : Nat) : Int))).bind fun x0 =>
  ((getI a1 x0.2)).bind fun x1 =>
  some ((x0.1.1, (x0.1.2.1, x0.1.2.2)), x1)
noncomputable def E_s_l1Cur_among : Ent := ⟨a_s_l1Cur_among, fun x => F_s_l1Cur_among x.1 x.2⟩
noncomputable def X_s_l1Cur_among : TX := ⟨tyTab, codTab, [50], [4], [E_s_l1Cur_pick], a_s_l1Cur_among⟩
set_option maxHeartbeats 2000000 in
theorem W_s_l1Cur_among (a0 : (List (Int) × Int × Int)) (a1 : List (Int)) : wtF X_s_l1Cur_among Try.f97 (a0, a1) = F_s_l1Cur_among a0 a1 := by kernel_rfl
theorem OK_s_l1Cur_among : EntOK RR E_s_l1Cur_among := fn_done (X := X_s_l1Cur_among) ⟨tyOK, boolOK, eqOK⟩ (ents_of (by exact ⟨⟨OK_s_l1Cur_pick, rfl⟩, trivial⟩)) (cf_ok (by kernel_rfl)) ⟨Try.func97, rfl, by kernel_rfl, rfl⟩ (fun x => by exact W_s_l1Cur_among x.1 x.2)

/-- (*loop.example/g00409/spec.l1Cur).pt -/
noncomputable def F_s_l1Cur_pt (a0 : ((List Int) × (Int × Int))) : Option ((List (Int) × Int × Int) × (Int × Int)) :=
  ((F_s_l1Cur_one (a0.1, (a0.2.1, a0.2.2)) (40 : Int))).bind fun x0 =>
  bif x0.2 then
    ((F_s_l1Cur_among (x0.1.1, (x0.1.2.1, x0.1.2.2)) (List.cons (-(1000 : Int)) (List.cons (1000 : Int) (List.cons (1001 : Int) List.nil))))).bind fun x1 =>
    ((F_s_l1Cur_pick (x1.1.1, (x1.1.2.1, x1.1.2.2)) (5 : Int))).bind fun x2 =>
    some ((x2.1.1, (x2.1.2.1, x2.1.2.2)), (x1.2, x2.2))
  else
  ((F_s_l1Cur_pick (x0.1.1, (x0.1.2.1, x0.1.2.2)) (9 : Int))).bind fun x3 =>
  ((F_s_l1Cur_pick (x3.1.1, (x3.1.2.1, x3.1.2.2)) (9 : Int))).bind fun x4 =>
  some ((x4.1.1, (x4.1.2.1, x4.1.2.2)), ((Go.IntKind.wrap Go.IntKind.i64 (x3.2 - (2 : Int))), (Go.IntKind.wrap Go.IntKind.i64 (x4.2 - (2 : Int)))))
noncomputable def E_s_l1Cur_pt : Ent := ⟨a_s_l1Cur_pt, fun x => F_s_l1Cur_pt x⟩
noncomputable def X_s_l1Cur_pt : TX := ⟨tyTab, codTab, [50], [4], [E_s_l1Cur_one, E_s_l1Cur_among, E_s_l1Cur_pick], a_s_l1Cur_pt⟩
set_option maxHeartbeats 2000000 in
theorem W_s_l1Cur_pt (a0 : (List (Int) × Int × Int)) : wtF X_s_l1Cur_pt Try.f88 (a0) = F_s_l1Cur_pt a0 := by kernel_rfl
theorem OK_s_l1Cur_pt : EntOK RR E_s_l1Cur_pt := fn_done (X := X_s_l1Cur_pt) ⟨tyOK, boolOK, eqOK⟩ (ents_of (by exact ⟨⟨OK_s_l1Cur_one, rfl⟩, ⟨⟨OK_s_l1Cur_among, rfl⟩, ⟨⟨OK_s_l1Cur_pick, rfl⟩, trivial⟩⟩⟩)) (cf_ok (by kernel_rfl)) ⟨Try.func88, rfl, by kernel_rfl, rfl⟩ (fun x => by exact W_s_l1Cur_pt x)

/-- (*loop.example/g00409/spec.l1Cur).way -/
noncomputable def B_s_l1Cur_way_0 (s0 : ((List Int) × (Int × Int))) (s1 : (List (Int × Int))) (s2 : Int) : Option ((((List Int) × (Int × Int)) × ((List (Int × Int)) × Int)) ⊕ (((List Int) × (Int × Int)) × (List (Int × Int)))) :=
  bif decide (s2 > (0 : Int)) then
    ((F_s_l1Cur_pt (s0.1, (s0.2.1, s0.2.2)))).bind fun x0 =>
    ((appL 16 2 s1 (List.cons (x0.2.1, x0.2.2) List.nil))).bind fun x1 =>
    some (Sum.inl ((x0.1.1, (x0.1.2.1, x0.1.2.2)), (x1, (Go.IntKind.wrap Go.IntKind.i64 (s2 - (1 : Int))))))
  else
  some (Sum.inr ((s0.1, (s0.2.1, s0.2.2)), s1))
noncomputable def B_s_l1Cur_way_1 (s0 : ((List Int) × (Int × Int))) (s1 : (List (Int × Int))) : Option ((((List Int) × (Int × Int)) × (List (Int × Int))) ⊕ (((List Int) × (Int × Int)) × (List (Int × Int)))) :=
  ((F_s_l1Cur_pick (s0.1, (s0.2.1, s0.2.2)) (2 : Int))).bind fun x0 =>
  bif decide ((((List.length s1) : Nat) : Int) < (Go.IntKind.wrap Go.IntKind.i64 ((12 : Int) + x0.2))) then
    ((F_s_l1Cur_pt (x0.1.1, (x0.1.2.1, x0.1.2.2)))).bind fun x1 =>
    ((appL 16 2 s1 (List.cons (x1.2.1, x1.2.2) List.nil))).bind fun x2 =>
    some (Sum.inl ((x1.1.1, (x1.1.2.1, x1.1.2.2)), x2))
  else
  some (Sum.inr ((x0.1.1, (x0.1.2.1, x0.1.2.2)), s1))
noncomputable def F_s_l1Cur_way (a0 : ((List Int) × (Int × Int))) : Option ((List (Int) × Int × Int) × List ((Int × Int))) :=
  ((F_s_l1Cur_pick (a0.1, (a0.2.1, a0.2.2)) (4 : Int))).bind fun x0 =>
  bif (x0.2 == (0 : Int)) then
    ((F_s_l1Cur_pick (x0.1.1, (x0.1.2.1, x0.1.2.2)) (6 : Int))).bind fun x1 =>
    ((F_s_l1Cur_pick (x1.1.1, (x1.1.2.1, x1.1.2.2)) (2 : Int))).bind fun x2 =>
    ((F_s_l1Cur_pick (x2.1.1, (x2.1.2.1, x2.1.2.2)) (3 : Int))).bind fun x3 =>
    ((F_s_l1Cur_pick (x3.1.1, (x3.1.2.1, x3.1.2.2)) (5 : Int))).bind fun x4 =>
    ((F_s_l1Cur_pick (x4.1.1, (x4.1.2.1, x4.1.2.2)) (2 : Int))).bind fun x5 =>
    ((F_s_l1Cur_pick (x5.1.1, (x5.1.2.1, x5.1.2.2)) (5 : Int))).bind fun x6 =>
    some ((x6.1.1, (x6.1.2.1, x6.1.2.2)), (List.cons ((0 : Int), (0 : Int)) (List.cons ((Go.IntKind.wrap Go.IntKind.i64 ((2 : Int) + x1.2)), x2.2) (List.cons ((Go.IntKind.wrap Go.IntKind.i64 ((3 : Int) + x3.2)), (Go.IntKind.wrap Go.IntKind.i64 ((3 : Int) + x4.2))) (List.cons (x5.2, (Go.IntKind.wrap Go.IntKind.i64 ((2 : Int) + x6.2))) List.nil)))))
  else
  bif (x0.2 == (1 : Int)) then
    ((F_s_l1Cur_pick (x0.1.1, (x0.1.2.1, x0.1.2.2)) (4 : Int))).bind fun x7 =>
    ((F_s_l1Cur_pick (x7.1.1, (x7.1.2.1, x7.1.2.2)) (4 : Int))).bind fun x8 =>
    some ((x8.1.1, (x8.1.2.1, x8.1.2.2)), (List.cons ((0 : Int), (0 : Int)) (List.cons ((6 : Int), (0 : Int)) (List.cons ((6 : Int), (6 : Int)) (List.cons ((4 : Int), (6 : Int)) (List.cons ((4 : Int), (Go.IntKind.wrap Go.IntKind.i64 ((1 : Int) + x7.2))) (List.cons ((2 : Int), (Go.IntKind.wrap Go.IntKind.i64 ((1 : Int) + x8.2))) (List.cons ((2 : Int), (6 : Int)) (List.cons ((0 : Int), (6 : Int)) List.nil)))))))))
  else
  ((F_s_l1Cur_pick (x0.1.1, (x0.1.2.1, x0.1.2.2)) (4 : Int))).bind fun x9 =>
  (loopM (fun (s : (((List Int) × (Int × Int)) × ((List (Int × Int)) × Int))) => B_s_l1Cur_way_0 s.1 s.2.1 s.2.2) ((x9.1.1, (x9.1.2.1, x9.1.2.2)), (List.nil, (Go.IntKind.wrap Go.IntKind.i64 ((3 : Int) + x9.2))))).bind fun x10 =>
  ((F_s_l1Cur_one (x10.1.1, (x10.1.2.1, x10.1.2.2)) (20 : Int))).bind fun x11 =>
  bif x11.2 then
    (loopM (fun (s : (((List Int) × (Int × Int)) × (List (Int × Int)))) => B_s_l1Cur_way_1 s.1 s.2) ((x11.1.1, (x11.1.2.1, x11.1.2.2)), x10.2)).bind fun x12 =>
    some ((x12.1.1, (x12.1.2.1, x12.1.2.2)), x12.2)
  else
  some ((x11.1.1, (x11.1.2.1, x11.1.2.2)), x10.2)
noncomputable def E_s_l1Cur_way : Ent := ⟨a_s_l1Cur_way, fun x => F_s_l1Cur_way x⟩
noncomputable def X_s_l1Cur_way : TX := ⟨tyTab, codTab, [50], [4], [E_s_l1Cur_pick, E_s_l1Cur_pt, E_s_l1Cur_one], a_s_l1Cur_way⟩
set_option maxHeartbeats 2000000 in
theorem W_s_l1Cur_way (a0 : (List (Int) × Int × Int)) : wtF X_s_l1Cur_way Try.f100 (a0) = F_s_l1Cur_way a0 := by kernel_rfl
theorem OK_s_l1Cur_way : EntOK RR E_s_l1Cur_way := fn_done (X := X_s_l1Cur_way) ⟨tyOK, boolOK, eqOK⟩ (ents_of (by exact ⟨⟨OK_s_l1Cur_pick, rfl⟩, ⟨⟨OK_s_l1Cur_pt, rfl⟩, ⟨⟨OK_s_l1Cur_one, rfl⟩, trivial⟩⟩⟩)) (cf_ok (by kernel_rfl)) ⟨Try.func100, rfl, by kernel_rfl, rfl⟩ (fun x => by exact W_s_l1Cur_way x)

/-- loop.example/g00409/spec.DrawSplitWay -/
noncomputable def F_s_DrawSplitWay (a0 : (List Int)) : Option (List ((Int × Int)) × Int × Int) :=
  ((F_s_l1Cur_way (a0, ((0 : Int), (0 : Int))))).bind fun x0 =>
  ((F_s_l1Cur_pick (x0.1.1, (x0.1.2.1, x0.1.2.2)) (Go.IntKind.wrap Go.IntKind.i64 ((((List.length x0.2) : Nat) : Int) + (1 : Int))))).bind fun x1 =>
  ((F_s_l1Cur_pick (x1.1.1, (x1.1.2.1, x1.1.2.2)) (Go.IntKind.wrap Go.IntKind.i64 ((((List.length x0.2) : Nat) : Int) + (1 : Int))))).bind fun x2 =>
  some (x0.2, (x1.2, (Go.IntKind.wrap Go.IntKind.i64 ((Go.IntKind.wrap Go.IntKind.i64 (x1.2 + (1 : Int))) + x2.2))))
noncomputable def E_s_DrawSplitWay : Ent := ⟨a_s_DrawSplitWay, fun x => F_s_DrawSplitWay x⟩
noncomputable def X_s_DrawSplitWay : TX := ⟨tyTab, codTab, [50], [4], [E_s_l1Cur_way, E_s_l1Cur_pick], a_s_DrawSplitWay⟩
set_option maxHeartbeats 2000000 in
theorem W_s_DrawSplitWay (a0 : List (Int)) : wtF X_s_DrawSplitWay Try.f50 (a0) = F_s_DrawSplitWay a0 := by kernel_rfl
theorem OK_s_DrawSplitWay : EntOK RR E_s_DrawSplitWay := fn_done (X := X_s_DrawSplitWay) ⟨tyOK, boolOK, eqOK⟩ (ents_of (by exact ⟨⟨OK_s_l1Cur_way, rfl⟩, ⟨⟨OK_s_l1Cur_pick, rfl⟩, trivial⟩⟩)) (cf_ok (by kernel_rfl)) ⟨Try.func50, rfl, by kernel_rfl, rfl⟩ (fun x => by exact W_s_DrawSplitWay x)

/-- loop.example/g00409/impl.within -/
noncomputable def F_i_within (a0 : Int) (a1 : Int) (a2 : Int) : Option (Bool) :=
  bif decide (a0 ≥ a1) then
    some (decide (a0 ≤ a2))
  else
  some false
noncomputable def E_i_within : Ent := ⟨a_i_within, fun x => F_i_within x.1 x.2.1 x.2.2⟩
noncomputable def X_i_within : TX := ⟨tyTab, codTab, [50], [4], [], a_i_within⟩
set_option maxHeartbeats 2000000 in
theorem W_i_within (a0 : Int) (a1 : Int) (a2 : Int) : wtF X_i_within Try.f73 (a0, a1, a2) = F_i_within a0 a1 a2 := by kernel_rfl
theorem OK_i_within : EntOK RR E_i_within := fn_done (X := X_i_within) ⟨tyOK, boolOK, eqOK⟩ (ents_of (by exact trivial)) (cf_ok (by kernel_rfl)) ⟨Try.func73, rfl, by kernel_rfl, rfl⟩ (fun x => by exact W_i_within x.1 x.2.1 x.2.2)

/-- loop.example/g00409/impl.GoodPt -/
noncomputable def F_i_GoodPt (a0 : (Int × Int)) : Option (Bool) :=
  ((F_i_within a0.1 (-(1000 : Int)) (1000 : Int))).bind fun x0 =>
  bif x0 then
    ((F_i_within a0.2 (-(1000 : Int)) (1000 : Int))).bind fun x1 =>
    some x1
  else
  some false
noncomputable def E_i_GoodPt : Ent := ⟨a_i_GoodPt, fun x => F_i_GoodPt x⟩
noncomputable def X_i_GoodPt : TX := ⟨tyTab, codTab, [50], [4], [E_i_within], a_i_GoodPt⟩
set_option maxHeartbeats 2000000 in
theorem W_i_GoodPt (a0 : (Int × Int)) : wtF X_i_GoodPt Try.f40 (a0) = F_i_GoodPt a0 := by kernel_rfl
theorem OK_i_GoodPt : EntOK RR E_i_GoodPt := fn_done (X := X_i_GoodPt) ⟨tyOK, boolOK, eqOK⟩ (ents_of (by exact ⟨⟨OK_i_within, rfl⟩, trivial⟩)) (cf_ok (by kernel_rfl)) ⟨Try.func40, rfl, by kernel_rfl, rfl⟩ (fun x => by exact W_i_GoodPt x)

/-- loop.example/g00409/impl.arePts$1 -/
noncomputable def F_i_arePts_1 (a0 : (Int × Int)) : Option (Bool) :=
  ((F_i_GoodPt (a0.1, a0.2))).bind fun x0 =>
  some (!x0)
noncomputable def E_i_arePts_1 : Ent := ⟨a_i_arePts_1, fun x => F_i_arePts_1 x⟩
noncomputable def X_i_arePts_1 : TX := ⟨tyTab, codTab, [50], [4], [E_i_GoodPt], a_i_arePts_1⟩
set_option maxHeartbeats 2000000 in
theorem W_i_arePts_1 (a0 : (Int × Int)) : wtF X_i_arePts_1 Try.f123 (a0) = F_i_arePts_1 a0 := by kernel_rfl
theorem OK_i_arePts_1 : EntOK RR E_i_arePts_1 := fn_done (X := X_i_arePts_1) ⟨tyOK, boolOK, eqOK⟩ (ents_of (by exact ⟨⟨OK_i_GoodPt, rfl⟩, trivial⟩)) (cf_ok (by kernel_rfl)) ⟨Try.func123, rfl, by kernel_rfl, rfl⟩ (fun x => by exact W_i_arePts_1 x)

/-- slices.IndexFunc[[]loop.example/g00409/impl.Pt,loop.example/g00409/impl.Pt] -/
noncomputable def B_slices_IndexFunc_Si_Pt_i_Pt_0 (s0 : (List (Int × Int))) (s1 : Int) (s2 : Int) : Option (((List (Int × Int)) × (Int × Int)) ⊕ (Unit ⊕ Int)) :=
  bif decide (s2 < s1) then
    ((getI s0 s2)).bind fun x0 =>
    ((F_i_arePts_1 (x0.1, x0.2))).bind fun x1 =>
    bif x1 then
      some (Sum.inr (Sum.inr s2))
    else
    some (Sum.inl (s0, (s1, (Go.IntKind.wrap Go.IntKind.i64 (s2 + (1 : Int))))))
  else
  some (Sum.inr (Sum.inl ()))
noncomputable def F_slices_IndexFunc_Si_Pt_i_Pt (a0 : (List (Int × Int))) : Option (Int) :=
  (loopM (fun (s : ((List (Int × Int)) × (Int × Int))) => B_slices_IndexFunc_Si_Pt_i_Pt_0 s.1 s.2.1 s.2.2) (a0, ((((List.length a0) : Nat) : Int), (0 : Int)))).bind fun x0 =>
  Sum.elim
    (fun x1 =>
    some (-(1 : Int)))
    (fun x2 =>
    some x2)
    x0
noncomputable def E_slices_IndexFunc_Si_Pt_i_Pt : Ent := ⟨a_slices_IndexFunc_Si_Pt_i_Pt, fun x => F_slices_IndexFunc_Si_Pt_i_Pt x⟩
noncomputable def X_slices_IndexFunc_Si_Pt_i_Pt : TX := ⟨tyTab, codTab, [50], [4], [E_i_arePts_1], a_slices_IndexFunc_Si_Pt_i_Pt⟩
set_option maxHeartbeats 2000000 in
theorem W_slices_IndexFunc_Si_Pt_i_Pt (a0 : List ((Int × Int))) : wtF X_slices_IndexFunc_Si_Pt_i_Pt Try.f133 (a0) = F_slices_IndexFunc_Si_Pt_i_Pt a0 := by kernel_rfl
theorem OK_slices_IndexFunc_Si_Pt_i_Pt : EntOK RR E_slices_IndexFunc_Si_Pt_i_Pt := fn_done (X := X_slices_IndexFunc_Si_Pt_i_Pt) ⟨tyOK, boolOK, eqOK⟩ (ents_of (by exact ⟨⟨OK_i_arePts_1, rfl⟩, trivial⟩)) (cf_ok (by kernel_rfl)) ⟨Try.func133, rfl, by kernel_rfl, rfl⟩ (fun x => by exact W_slices_IndexFunc_Si_Pt_i_Pt x)

/-- slices.ContainsFunc[[]loop.example/g00409/impl.Pt,loop.example/g00409/impl.Pt] -/
noncomputable def F_slices_ContainsFunc_Si_Pt_i_Pt (a0 : (List (Int × Int))) : Option (Bool) :=
  ((F_slices_IndexFunc_Si_Pt_i_Pt a0)).bind fun x0 =>
  some (decide (x0 ≥ (0 : Int)))
noncomputable def E_slices_ContainsFunc_Si_Pt_i_Pt : Ent := ⟨a_slices_ContainsFunc_Si_Pt_i_Pt, fun x => F_slices_ContainsFunc_Si_Pt_i_Pt x⟩
noncomputable def X_slices_ContainsFunc_Si_Pt_i_Pt : TX := ⟨tyTab, codTab, [50], [4], [E_slices_IndexFunc_Si_Pt_i_Pt], a_slices_ContainsFunc_Si_Pt_i_Pt⟩
set_option maxHeartbeats 2000000 in
theorem W_slices_ContainsFunc_Si_Pt_i_Pt (a0 : List ((Int × Int))) : wtF X_slices_ContainsFunc_Si_Pt_i_Pt Try.f122 (a0) = F_slices_ContainsFunc_Si_Pt_i_Pt a0 := by kernel_rfl
theorem OK_slices_ContainsFunc_Si_Pt_i_Pt : EntOK RR E_slices_ContainsFunc_Si_Pt_i_Pt := fn_done (X := X_slices_ContainsFunc_Si_Pt_i_Pt) ⟨tyOK, boolOK, eqOK⟩ (ents_of (by exact ⟨⟨OK_slices_IndexFunc_Si_Pt_i_Pt, rfl⟩, trivial⟩)) (cf_ok (by kernel_rfl)) ⟨Try.func122, rfl, by kernel_rfl, rfl⟩ (fun x => by exact W_slices_ContainsFunc_Si_Pt_i_Pt x)

/-- loop.example/g00409/impl.arePts -/
noncomputable def F_i_arePts (a0 : (List (Int × Int))) : Option (Bool) :=
  ((F_slices_ContainsFunc_Si_Pt_i_Pt a0)).bind fun x0 =>
  some (!x0)
noncomputable def E_i_arePts : Ent := ⟨a_i_arePts, fun x => F_i_arePts x⟩
noncomputable def X_i_arePts : TX := ⟨tyTab, codTab, [50], [4], [E_slices_ContainsFunc_Si_Pt_i_Pt], a_i_arePts⟩
set_option maxHeartbeats 2000000 in
theorem W_i_arePts (a0 : List ((Int × Int))) : wtF X_i_arePts Try.f89 (a0) = F_i_arePts a0 := by kernel_rfl
theorem OK_i_arePts : EntOK RR E_i_arePts := fn_done (X := X_i_arePts) ⟨tyOK, boolOK, eqOK⟩ (ents_of (by exact ⟨⟨OK_slices_ContainsFunc_Si_Pt_i_Pt, rfl⟩, trivial⟩)) (cf_ok (by kernel_rfl)) ⟨Try.func89, rfl, by kernel_rfl, rfl⟩ (fun x => by exact W_i_arePts x)

/-- loop.example/g00409/impl.isWay -/
noncomputable def F_i_isWay (a0 : (List (Int × Int))) : Option (Bool) :=
  ((F_i_within (((List.length a0) : Nat) : Int) (3 : Int) (12 : Int))).bind fun x0 =>
  bif x0 then
    ((F_i_arePts a0)).bind fun x1 =>
    some x1
  else
  some false
noncomputable def E_i_isWay : Ent := ⟨a_i_isWay, fun x => F_i_isWay x⟩
noncomputable def X_i_isWay : TX := ⟨tyTab, codTab, [50], [4], [E_i_within, E_i_arePts], a_i_isWay⟩
set_option maxHeartbeats 2000000 in
theorem W_i_isWay (a0 : List ((Int × Int))) : wtF X_i_isWay Try.f80 (a0) = F_i_isWay a0 := by kernel_rfl
theorem OK_i_isWay : EntOK RR E_i_isWay := fn_done (X := X_i_isWay) ⟨tyOK, boolOK, eqOK⟩ (ents_of (by exact ⟨⟨OK_i_within, rfl⟩, ⟨⟨OK_i_arePts, rfl⟩, trivial⟩⟩)) (cf_ok (by kernel_rfl)) ⟨Try.func80, rfl, by kernel_rfl, rfl⟩ (fun x => by exact W_i_isWay x)

/-- loop.example/g00409/impl.SplitWay -/
noncomputable def B_i_SplitWay_0 (s0 : (List (Int × Int))) (s1 : (List (Int × Int))) (s2 : (List (Int × Int))) (s3 : Int) (s4 : Int) (s5 : Int) (s6 : Int) : Option (((List (Int × Int)) × ((List (Int × Int)) × ((List (Int × Int)) × (Int × (Int × (Int × Int)))))) ⊕ ((List (Int × Int)) × ((List (Int × Int)) × ((List (Int × Int)) × (Int × (Int × Int)))))) :=
  bif decide (s6 ≤ s4) then
    ((getI s2 s6)).bind fun x0 =>
    ((appL 16 2 s0 (List.cons (x0.1, x0.2) List.nil))).bind fun x1 =>
    some (Sum.inl (x1, (s1, (s2, (s3, (s4, (s5, (Go.IntKind.wrap Go.IntKind.i64 (s6 + (1 : Int))))))))))
  else
  some (Sum.inr (s0, (s1, (s2, (s3, (s4, s5))))))
noncomputable def B_i_SplitWay_1 (s0 : (List (Int × Int))) (s1 : (List (Int × Int))) (s2 : (List (Int × Int))) (s3 : Int) (s4 : Int) (s5 : Int) : Option (((List (Int × Int)) × ((List (Int × Int)) × ((List (Int × Int)) × (Int × (Int × Int))))) ⊕ ((List (Int × Int)) × (List (Int × Int)))) :=
  bif decide (s5 ≤ (Go.IntKind.wrap Go.IntKind.i64 (s3 + s4))) then
    bif (s4 == (0 : Int)) then
      none
    else
    ((getI s2 (Int.tmod s5 s4))).bind fun x0 =>
    ((appL 16 2 s1 (List.cons (x0.1, x0.2) List.nil))).bind fun x1 =>
    some (Sum.inl (s0, (x1, (s2, (s3, (s4, (Go.IntKind.wrap Go.IntKind.i64 (s5 + (1 : Int)))))))))
  else
  some (Sum.inr (s0, s1))
noncomputable def F_i_SplitWay (a0 : (List (Int × Int))) (a1 : Int) (a2 : Int) : Option (List ((Int × Int)) × List ((Int × Int)) × Bool) :=
  (((F_i_isWay a0)).bind fun x0 =>
    bif (!x0) then
      some (Sum.inl (List.nil, (List.nil, false)))
    else
    ((F_i_within a1 (0 : Int) (Go.IntKind.wrap Go.IntKind.i64 ((((List.length a0) : Nat) : Int) - (1 : Int))))).bind fun x1 =>
    bif (!x1) then
      some (Sum.inl (List.nil, (List.nil, false)))
    else
    ((F_i_within a2 (Go.IntKind.wrap Go.IntKind.i64 (a1 + (2 : Int))) (Go.IntKind.wrap Go.IntKind.i64 ((((List.length a0) : Nat) : Int) - (1 : Int))))).bind fun x2 =>
    bif (!x2) then
      some (Sum.inl (List.nil, (List.nil, false)))
    else
    bif (a1 == (0 : Int)) then
      bif (a2 == (Go.IntKind.wrap Go.IntKind.i64 ((((List.length a0) : Nat) : Int) - (1 : Int)))) then
        some (Sum.inl (List.nil, (List.nil, false)))
      else
      some (Sum.inr (a0, (a1, (a2, (((List.length a0) : Nat) : Int)))))
    else
    some (Sum.inr (a0, (a1, (a2, (((List.length a0) : Nat) : Int)))))).bind fun x3 =>
  Sum.elim
    (fun x4 =>
    some x4)
    (fun x5 =>
    (loopM (fun (s : ((List (Int × Int)) × ((List (Int × Int)) × ((List (Int × Int)) × (Int × (Int × (Int × Int))))))) => B_i_SplitWay_0 s.1 s.2.1 s.2.2.1 s.2.2.2.1 s.2.2.2.2.1 s.2.2.2.2.2.1 s.2.2.2.2.2.2) (List.nil, (List.nil, (x5.1, (x5.2.1, (x5.2.2.1, (x5.2.2.2, x5.2.1))))))).bind fun x6 =>
    (loopM (fun (s : ((List (Int × Int)) × ((List (Int × Int)) × ((List (Int × Int)) × (Int × (Int × Int)))))) => B_i_SplitWay_1 s.1 s.2.1 s.2.2.1 s.2.2.2.1 s.2.2.2.2.1 s.2.2.2.2.2) (x6.1, (x6.2.1, (x6.2.2.1, (x6.2.2.2.1, (x6.2.2.2.2.2, x6.2.2.2.2.1)))))).bind fun x7 =>
    some (x7.1, (x7.2, true)))
    x3
noncomputable def E_i_SplitWay : Ent := ⟨a_i_SplitWay, fun x => F_i_SplitWay x.1 x.2.1 x.2.2⟩
noncomputable def X_i_SplitWay : TX := ⟨tyTab, codTab, [50], [4], [E_i_isWay, E_i_within], a_i_SplitWay⟩
set_option maxHeartbeats 2000000 in
theorem W_i_SplitWay (a0 : List ((Int × Int))) (a1 : Int) (a2 : Int) : wtF X_i_SplitWay Try.f51 (a0, a1, a2) = F_i_SplitWay a0 a1 a2 := by kernel_rfl
theorem OK_i_SplitWay : EntOK RR E_i_SplitWay := fn_done (X := X_i_SplitWay) ⟨tyOK, boolOK, eqOK⟩ (ents_of (by exact ⟨⟨OK_i_isWay, rfl⟩, ⟨⟨OK_i_within, rfl⟩, trivial⟩⟩)) (cf_ok (by kernel_rfl)) ⟨Try.func51, rfl, by kernel_rfl, rfl⟩ (fun x => by exact W_i_SplitWay x.1 x.2.1 x.2.2)

/-- loop.example/g00409/spec.l1In -/
noncomputable def F_s_l1In (a0 : Int) (a1 : Int) (a2 : Int) : Option (Bool) :=
  bif decide (a0 ≥ a1) then
    some (decide (a0 ≤ a2))
  else
  some false
noncomputable def E_s_l1In : Ent := ⟨a_s_l1In, fun x => F_s_l1In x.1 x.2.1 x.2.2⟩
noncomputable def X_s_l1In : TX := ⟨tyTab, codTab, [50], [4], [], a_s_l1In⟩
set_option maxHeartbeats 2000000 in
theorem W_s_l1In (a0 : Int) (a1 : Int) (a2 : Int) : wtF X_s_l1In Try.f71 (a0, a1, a2) = F_s_l1In a0 a1 a2 := by kernel_rfl
theorem OK_s_l1In : EntOK RR E_s_l1In := fn_done (X := X_s_l1In) ⟨tyOK, boolOK, eqOK⟩ (ents_of (by exact trivial)) (cf_ok (by kernel_rfl)) ⟨Try.func71, rfl, by kernel_rfl, rfl⟩ (fun x => by exact W_s_l1In x.1 x.2.1 x.2.2)

/-- loop.example/g00409/spec.GoodPt -/
noncomputable def F_s_GoodPt (a0 : (Int × Int)) : Option (Bool) :=
  ((F_s_l1In a0.1 (-(1000 : Int)) (1000 : Int))).bind fun x0 =>
  bif x0 then
    ((F_s_l1In a0.2 (-(1000 : Int)) (1000 : Int))).bind fun x1 =>
    some x1
  else
  some false
noncomputable def E_s_GoodPt : Ent := ⟨a_s_GoodPt, fun x => F_s_GoodPt x⟩
noncomputable def X_s_GoodPt : TX := ⟨tyTab, codTab, [50], [4], [E_s_l1In], a_s_GoodPt⟩
set_option maxHeartbeats 2000000 in
theorem W_s_GoodPt (a0 : (Int × Int)) : wtF X_s_GoodPt Try.f41 (a0) = F_s_GoodPt a0 := by kernel_rfl
theorem OK_s_GoodPt : EntOK RR E_s_GoodPt := fn_done (X := X_s_GoodPt) ⟨tyOK, boolOK, eqOK⟩ (ents_of (by exact ⟨⟨OK_s_l1In, rfl⟩, trivial⟩)) (cf_ok (by kernel_rfl)) ⟨Try.func41, rfl, by kernel_rfl, rfl⟩ (fun x => by exact W_s_GoodPt x)

/-- loop.example/g00409/spec.l8Pts -/
noncomputable def B_s_l8Pts_0 (s0 : (List (Int × Int))) (s1 : Int) (s2 : Int) : Option (((List (Int × Int)) × (Int × Int)) ⊕ (Unit ⊕ Bool)) :=
  bif decide (s2 < s1) then
    ((getI s0 s2)).bind fun x0 =>
    ((F_s_GoodPt (x0.1, x0.2))).bind fun x1 =>
    bif (!x1) then
      some (Sum.inr (Sum.inr false))
    else
    some (Sum.inl (s0, (s1, (Go.IntKind.wrap Go.IntKind.i64 (s2 + (1 : Int))))))
  else
  some (Sum.inr (Sum.inl ()))
noncomputable def F_s_l8Pts (a0 : (List (Int × Int))) : Option (Bool) :=
  (loopM (fun (s : ((List (Int × Int)) × (Int × Int))) => B_s_l8Pts_0 s.1 s.2.1 s.2.2) (a0, ((((List.length a0) : Nat) : Int), (0 : Int)))).bind fun x0 =>
  Sum.elim
    (fun x1 =>
    some true)
    (fun x2 =>
    some x2)
    x0
noncomputable def E_s_l8Pts : Ent := ⟨a_s_l8Pts, fun x => F_s_l8Pts x⟩
noncomputable def X_s_l8Pts : TX := ⟨tyTab, codTab, [50], [4], [E_s_GoodPt], a_s_l8Pts⟩
set_option maxHeartbeats 2000000 in
theorem W_s_l8Pts (a0 : List ((Int × Int))) : wtF X_s_l8Pts Try.f91 (a0) = F_s_l8Pts a0 := by kernel_rfl
theorem OK_s_l8Pts : EntOK RR E_s_l8Pts := fn_done (X := X_s_l8Pts) ⟨tyOK, boolOK, eqOK⟩ (ents_of (by exact ⟨⟨OK_s_GoodPt, rfl⟩, trivial⟩)) (cf_ok (by kernel_rfl)) ⟨Try.func91, rfl, by kernel_rfl, rfl⟩ (fun x => by exact W_s_l8Pts x)

/-- loop.example/g00409/spec.l8Way -/
noncomputable def F_s_l8Way (a0 : (List (Int × Int))) : Option (Bool) :=
  ((F_s_l1In (((List.length a0) : Nat) : Int) (3 : Int) (12 : Int))).bind fun x0 =>
  bif x0 then
    ((F_s_l8Pts a0)).bind fun x1 =>
    some x1
  else
  some false
noncomputable def E_s_l8Way : Ent := ⟨a_s_l8Way, fun x => F_s_l8Way x⟩
noncomputable def X_s_l8Way : TX := ⟨tyTab, codTab, [50], [4], [E_s_l1In, E_s_l8Pts], a_s_l8Way⟩
set_option maxHeartbeats 2000000 in
theorem W_s_l8Way (a0 : List ((Int × Int))) : wtF X_s_l8Way Try.f76 (a0) = F_s_l8Way a0 := by kernel_rfl
theorem OK_s_l8Way : EntOK RR E_s_l8Way := fn_done (X := X_s_l8Way) ⟨tyOK, boolOK, eqOK⟩ (ents_of (by exact ⟨⟨OK_s_l1In, rfl⟩, ⟨⟨OK_s_l8Pts, rfl⟩, trivial⟩⟩)) (cf_ok (by kernel_rfl)) ⟨Try.func76, rfl, by kernel_rfl, rfl⟩ (fun x => by exact W_s_l8Way x)

/-- loop.example/g00409/spec.SplitWay -/
noncomputable def F_s_SplitWay (a0 : (List (Int × Int))) (a1 : Int) (a2 : Int) : Option (List ((Int × Int)) × List ((Int × Int)) × Bool) :=
  (((F_s_l8Way a0)).bind fun x0 =>
    bif (!x0) then
      some (Sum.inl (List.nil, (List.nil, false)))
    else
    bif decide (a1 < (0 : Int)) then
      some (Sum.inl (List.nil, (List.nil, false)))
    else
    bif decide (a2 ≥ (((List.length a0) : Nat) : Int)) then
      some (Sum.inl (List.nil, (List.nil, false)))
    else
    bif decide (a1 > a2) then
      some (Sum.inl (List.nil, (List.nil, false)))
    else
    bif decide (a2 < (Go.IntKind.wrap Go.IntKind.i64 (a1 + (2 : Int)))) then
      some (Sum.inl (List.nil, (List.nil, false)))
    else
    bif (a1 == (0 : Int)) then
      bif (a2 == (Go.IntKind.wrap Go.IntKind.i64 ((((List.length a0) : Nat) : Int) - (1 : Int)))) then
        some (Sum.inl (List.nil, (List.nil, false)))
      else
      some (Sum.inr (a0, (a1, a2)))
    else
    some (Sum.inr (a0, (a1, a2)))).bind fun x1 =>
  Sum.elim
    (fun x2 =>
    some x2)
    (fun x3 =>
    ((subI x3.2.1 (Go.IntKind.wrap Go.IntKind.i64 (x3.2.2 + (1 : Int))) (List.length x3.1))).bind fun x4 =>
    bif (roomI (List.length (List.drop x4.1 (List.take x4.2 x3.1))) 16 2) then
      ((subI x3.2.2 (((List.length x3.1) : Nat) : Int) (List.length x3.1))).bind fun x5 =>
      bif (roomI (List.length (List.drop x5.1 (List.take x5.2 x3.1))) 16 2) then
        ((subI (0 : Int) (Go.IntKind.wrap Go.IntKind.i64 (x3.2.1 + (1 : Int))) (List.length x3.1))).bind fun x6 =>
        ((appL 16 2 (List.drop x5.1 (List.take x5.2 x3.1)) (List.drop x6.1 (List.take x6.2 x3.1)))).bind fun x7 =>
        some ((List.drop x4.1 (List.take x4.2 x3.1)), (x7, true))
      else
      none
    else
    none)
    x1
noncomputable def E_s_SplitWay : Ent := ⟨a_s_SplitWay, fun x => F_s_SplitWay x.1 x.2.1 x.2.2⟩
noncomputable def X_s_SplitWay : TX := ⟨tyTab, codTab, [50], [4], [E_s_l8Way], a_s_SplitWay⟩
set_option maxHeartbeats 2000000 in
theorem W_s_SplitWay (a0 : List ((Int × Int))) (a1 : Int) (a2 : Int) : wtF X_s_SplitWay Try.f52 (a0, a1, a2) = F_s_SplitWay a0 a1 a2 := by kernel_rfl
theorem OK_s_SplitWay : EntOK RR E_s_SplitWay := fn_done (X := X_s_SplitWay) ⟨tyOK, boolOK, eqOK⟩ (ents_of (by exact ⟨⟨OK_s_l8Way, rfl⟩, trivial⟩)) (cf_ok (by kernel_rfl)) ⟨Try.func52, rfl, by kernel_rfl, rfl⟩ (fun x => by exact W_s_SplitWay x.1 x.2.1 x.2.2)

/-- loop.example/g00409/laws.samePts -/
noncomputable def B_l_samePts_0 (s0 : (List (Int × Int))) (s1 : (List (Int × Int))) (s2 : Int) (s3 : Int) : Option (((List (Int × Int)) × ((List (Int × Int)) × (Int × Int))) ⊕ (Unit ⊕ Bool)) :=
  bif decide (s3 < s2) then
    ((getI s0 s3)).bind fun x0 =>
    ((getI s1 s3)).bind fun x1 =>
    bif (!((x0.1 == x1.1) && (x0.2 == x1.2))) then
      some (Sum.inr (Sum.inr false))
    else
    some (Sum.inl (s0, (s1, (s2, (Go.IntKind.wrap Go.IntKind.i64 (s3 + (1 : Int)))))))
  else
  some (Sum.inr (Sum.inl ()))
noncomputable def F_l_samePts (a0 : (List (Int × Int))) (a1 : (List (Int × Int))) : Option (Bool) :=
  bif ((((List.length a0) : Nat) : Int) != (((List.length a1) : Nat) : Int)) then
    some false
  else
  (loopM (fun (s : ((List (Int × Int)) × ((List (Int × Int)) × (Int × Int)))) => B_l_samePts_0 s.1 s.2.1 s.2.2.1 s.2.2.2) (a0, (a1, ((((List.length a0) : Nat) : Int), (0 : Int))))).bind fun x0 =>
  Sum.elim
    (fun x1 =>
    some true)
    (fun x2 =>
    some x2)
    x0
noncomputable def E_l_samePts : Ent := ⟨a_l_samePts, fun x => F_l_samePts x.1 x.2⟩
noncomputable def X_l_samePts : TX := ⟨tyTab, codTab, [50], [4], [], a_l_samePts⟩
set_option maxHeartbeats 2000000 in
theorem W_l_samePts (a0 : List ((Int × Int))) (a1 : List ((Int × Int))) : wtF X_l_samePts Try.f48 (a0, a1) = F_l_samePts a0 a1 := by kernel_rfl
theorem OK_l_samePts : EntOK RR E_l_samePts := fn_done (X := X_l_samePts) ⟨tyOK, boolOK, eqOK⟩ (ents_of (by exact trivial)) (cf_ok (by kernel_rfl)) ⟨Try.func48, rfl, by kernel_rfl, rfl⟩ (fun x => by exact W_l_samePts x.1 x.2)

/-- loop.example/g00409/spec.DrawOnWay -/
noncomputable def F_s_DrawOnWay (a0 : (List Int)) : Option (List ((Int × Int)) × (Int × Int)) :=
  ((F_s_l1Cur_way (a0, ((0 : Int), (0 : Int))))).bind fun x0 =>
  ((F_s_l1Cur_pt (x0.1.1, (x0.1.2.1, x0.1.2.2)))).bind fun x1 =>
  some (x0.2, (x1.2.1, x1.2.2))
noncomputable def E_s_DrawOnWay : Ent := ⟨a_s_DrawOnWay, fun x => F_s_DrawOnWay x⟩
noncomputable def X_s_DrawOnWay : TX := ⟨tyTab, codTab, [50], [4], [E_s_l1Cur_way, E_s_l1Cur_pt], a_s_DrawOnWay⟩
set_option maxHeartbeats 2000000 in
theorem W_s_DrawOnWay (a0 : List (Int)) : wtF X_s_DrawOnWay Try.f53 (a0) = F_s_DrawOnWay a0 := by kernel_rfl
theorem OK_s_DrawOnWay : EntOK RR E_s_DrawOnWay := fn_done (X := X_s_DrawOnWay) ⟨tyOK, boolOK, eqOK⟩ (ents_of (by exact ⟨⟨OK_s_l1Cur_way, rfl⟩, ⟨⟨OK_s_l1Cur_pt, rfl⟩, trivial⟩⟩)) (cf_ok (by kernel_rfl)) ⟨Try.func53, rfl, by kernel_rfl, rfl⟩ (fun x => by exact W_s_DrawOnWay x)

/-- loop.example/g00409/impl.after -/
noncomputable def F_i_after (a0 : (List (Int × Int))) (a1 : Int) : Option (Int) :=
  bif ((((List.length a0) : Nat) : Int) == (0 : Int)) then
    none
  else
  some (Int.tmod (Go.IntKind.wrap Go.IntKind.i64 (a1 + (1 : Int))) (((List.length a0) : Nat) : Int))
noncomputable def E_i_after : Ent := ⟨a_i_after, fun x => F_i_after x.1 x.2⟩
noncomputable def X_i_after : TX := ⟨tyTab, codTab, [50], [4], [], a_i_after⟩
set_option maxHeartbeats 2000000 in
theorem W_i_after (a0 : List ((Int × Int))) (a1 : Int) : wtF X_i_after Try.f129 (a0, a1) = F_i_after a0 a1 := by kernel_rfl
theorem OK_i_after : EntOK RR E_i_after := fn_done (X := X_i_after) ⟨tyOK, boolOK, eqOK⟩ (ents_of (by exact trivial)) (cf_ok (by kernel_rfl)) ⟨Try.func129, rfl, by kernel_rfl, rfl⟩ (fun x => by exact W_i_after x.1 x.2)

/-- loop.example/g00409/impl.signOf -/
noncomputable def F_i_signOf (a0 : Int) : Option (Int) :=
  bif decide (a0 < (0 : Int)) then
    some (-(1 : Int))
  else
  bif decide (a0 > (0 : Int)) then
    some (1 : Int)
  else
  some (0 : Int)
noncomputable def E_i_signOf : Ent := ⟨a_i_signOf, fun x => F_i_signOf x⟩
noncomputable def X_i_signOf : TX := ⟨tyTab, codTab, [50], [4], [], a_i_signOf⟩
set_option maxHeartbeats 2000000 in
theorem W_i_signOf (a0 : Int) : wtF X_i_signOf Try.f124 (a0) = F_i_signOf a0 := by kernel_rfl
theorem OK_i_signOf : EntOK RR E_i_signOf := fn_done (X := X_i_signOf) ⟨tyOK, boolOK, eqOK⟩ (ents_of (by exact trivial)) (cf_ok (by kernel_rfl)) ⟨Try.func124, rfl, by kernel_rfl, rfl⟩ (fun x => by exact W_i_signOf x)

/-- loop.example/g00409/impl.orient -/
noncomputable def F_i_orient (a0 : (Int × Int)) (a1 : (Int × Int)) (a2 : (Int × Int)) : Option (Int) :=
  ((F_i_signOf (Go.IntKind.wrap Go.IntKind.i64 ((Go.IntKind.wrap Go.IntKind.i64 ((Go.IntKind.wrap Go.IntKind.i64 (a1.1 - a0.1)) * (Go.IntKind.wrap Go.IntKind.i64 (a2.2 - a0.2)))) - (Go.IntKind.wrap Go.IntKind.i64 ((Go.IntKind.wrap Go.IntKind.i64 (a1.2 - a0.2)) * (Go.IntKind.wrap Go.IntKind.i64 (a2.1 - a0.1)))))))).bind fun x0 =>
  some x0
noncomputable def E_i_orient : Ent := ⟨a_i_orient, fun x => F_i_orient x.1 x.2.1 x.2.2⟩
noncomputable def X_i_orient : TX := ⟨tyTab, codTab, [50], [4], [E_i_signOf], a_i_orient⟩
set_option maxHeartbeats 2000000 in
theorem W_i_orient (a0 : (Int × Int)) (a1 : (Int × Int)) (a2 : (Int × Int)) : wtF X_i_orient Try.f93 (a0, a1, a2) = F_i_orient a0 a1 a2 := by kernel_rfl
theorem OK_i_orient : EntOK RR E_i_orient := fn_done (X := X_i_orient) ⟨tyOK, boolOK, eqOK⟩ (ents_of (by exact ⟨⟨OK_i_signOf, rfl⟩, trivial⟩)) (cf_ok (by kernel_rfl)) ⟨Try.func93, rfl, by kernel_rfl, rfl⟩ (fun x => by exact W_i_orient x.1 x.2.1 x.2.2)

/-- loop.example/g00409/impl.isOn -/
noncomputable def F_i_isOn (a0 : (Int × Int)) (a1 : (Int × Int)) (a2 : (Int × Int)) : Option (Bool) :=
  ((F_i_orient (a0.1, a0.2) (a1.1, a1.2) (a2.1, a2.2))).bind fun x0 =>
  bif (x0 == (0 : Int)) then
    ((F_i_within a2.1 (minL (List.cons a0.1 (List.cons a1.1 List.nil))) (maxL (List.cons a0.1 (List.cons a1.1 List.nil))))).bind fun x1 =>
    bif x1 then
      ((F_i_within a2.2 (minL (List.cons a0.2 (List.cons a1.2 List.nil))) (maxL (List.cons a0.2 (List.cons a1.2 List.nil))))).bind fun x2 =>
      some x2
    else
    some false
  else
  some false
noncomputable def E_i_isOn : Ent := ⟨a_i_isOn, fun x => F_i_isOn x.1 x.2.1 x.2.2⟩
noncomputable def X_i_isOn : TX := ⟨tyTab, codTab, [50], [4], [E_i_orient, E_i_within], a_i_isOn⟩
set_option maxHeartbeats 2000000 in
theorem W_i_isOn (a0 : (Int × Int)) (a1 : (Int × Int)) (a2 : (Int × Int)) : wtF X_i_isOn Try.f95 (a0, a1, a2) = F_i_isOn a0 a1 a2 := by kernel_rfl
theorem OK_i_isOn : EntOK RR E_i_isOn := fn_done (X := X_i_isOn) ⟨tyOK, boolOK, eqOK⟩ (ents_of (by exact ⟨⟨OK_i_orient, rfl⟩, ⟨⟨OK_i_within, rfl⟩, trivial⟩⟩)) (cf_ok (by kernel_rfl)) ⟨Try.func95, rfl, by kernel_rfl, rfl⟩ (fun x => by exact W_i_isOn x.1 x.2.1 x.2.2)

/-- loop.example/g00409/impl.onWay -/
noncomputable def B_i_onWay_0 (s0 : (Int × Int)) (s1 : (List (Int × Int))) (s2 : (List (Int × Int))) (s3 : Int) (s4 : Int) : Option (((Int × Int) × ((List (Int × Int)) × ((List (Int × Int)) × (Int × Int)))) ⊕ (Unit ⊕ Bool)) :=
  bif decide (s4 < s3) then
    ((getI s2 s4)).bind fun x0 =>
    ((F_i_after s1 s4)).bind fun x1 =>
    ((getI s1 x1)).bind fun x2 =>
    ((F_i_isOn (x0.1, x0.2) (x2.1, x2.2) (s0.1, s0.2))).bind fun x3 =>
    bif x3 then
      some (Sum.inr (Sum.inr true))
    else
    some (Sum.inl ((s0.1, s0.2), (s1, (s2, (s3, (Go.IntKind.wrap Go.IntKind.i64 (s4 + (1 : Int))))))))
  else
  some (Sum.inr (Sum.inl ()))
noncomputable def F_i_onWay (a0 : (List (Int × Int))) (a1 : (Int × Int)) : Option (Bool) :=
  (loopM (fun (s : ((Int × Int) × ((List (Int × Int)) × ((List (Int × Int)) × (Int × Int))))) => B_i_onWay_0 s.1 s.2.1 s.2.2.1 s.2.2.2.1 s.2.2.2.2) ((a1.1, a1.2), (a0, (a0, ((((List.length a0) : Nat) : Int), (0 : Int)))))).bind fun x0 =>
  Sum.elim
    (fun x1 =>
    some false)
    (fun x2 =>
    some x2)
    x0
noncomputable def E_i_onWay : Ent := ⟨a_i_onWay, fun x => F_i_onWay x.1 x.2⟩
noncomputable def X_i_onWay : TX := ⟨tyTab, codTab, [50], [4], [E_i_after, E_i_isOn], a_i_onWay⟩
set_option maxHeartbeats 2000000 in
theorem W_i_onWay (a0 : List ((Int × Int))) (a1 : (Int × Int)) : wtF X_i_onWay Try.f107 (a0, a1) = F_i_onWay a0 a1 := by kernel_rfl
theorem OK_i_onWay : EntOK RR E_i_onWay := fn_done (X := X_i_onWay) ⟨tyOK, boolOK, eqOK⟩ (ents_of (by exact ⟨⟨OK_i_after, rfl⟩, ⟨⟨OK_i_isOn, rfl⟩, trivial⟩⟩)) (cf_ok (by kernel_rfl)) ⟨Try.func107, rfl, by kernel_rfl, rfl⟩ (fun x => by exact W_i_onWay x.1 x.2)

/-- loop.example/g00409/impl.isOff -/
noncomputable def F_i_isOff (a0 : (List (Int × Int))) (a1 : (Int × Int)) : Option (Bool) :=
  ((F_i_isWay a0)).bind fun x0 =>
  bif x0 then
    ((F_i_GoodPt (a1.1, a1.2))).bind fun x1 =>
    bif x1 then
      ((F_i_onWay a0 (a1.1, a1.2))).bind fun x2 =>
      some (!x2)
    else
    some false
  else
  some false
noncomputable def E_i_isOff : Ent := ⟨a_i_isOff, fun x => F_i_isOff x.1 x.2⟩
noncomputable def X_i_isOff : TX := ⟨tyTab, codTab, [50], [4], [E_i_isWay, E_i_GoodPt, E_i_onWay], a_i_isOff⟩
set_option maxHeartbeats 2000000 in
theorem W_i_isOff (a0 : List ((Int × Int))) (a1 : (Int × Int)) : wtF X_i_isOff Try.f103 (a0, a1) = F_i_isOff a0 a1 := by kernel_rfl
theorem OK_i_isOff : EntOK RR E_i_isOff := fn_done (X := X_i_isOff) ⟨tyOK, boolOK, eqOK⟩ (ents_of (by exact ⟨⟨OK_i_isWay, rfl⟩, ⟨⟨OK_i_GoodPt, rfl⟩, ⟨⟨OK_i_onWay, rfl⟩, trivial⟩⟩⟩)) (cf_ok (by kernel_rfl)) ⟨Try.func103, rfl, by kernel_rfl, rfl⟩ (fun x => by exact W_i_isOff x.1 x.2)

/-- loop.example/g00409/impl.turns -/
noncomputable def B_i_turns_0 (s0 : (Int × Int)) (s1 : (List (Int × Int))) (s2 : Int) (s3 : Int) (s4 : (List (Int × Int))) (s5 : Int) (s6 : Int) : Option (((Int × Int) × ((List (Int × Int)) × (Int × (Int × ((List (Int × Int)) × (Int × Int)))))) ⊕ (Int × Int)) :=
  bif decide (s6 < s5) then
    ((getI s4 s6)).bind fun x0 =>
    ((F_i_after s1 s6)).bind fun x1 =>
    ((getI s1 x1)).bind fun x2 =>
    bif decide (x0.2 ≤ s0.2) then
      bif decide (x2.2 > s0.2) then
        ((F_i_orient (x0.1, x0.2) (x2.1, x2.2) (s0.1, s0.2))).bind fun x3 =>
        bif (x3 == (1 : Int)) then
          some (Sum.inl ((s0.1, s0.2), (s1, ((Go.IntKind.wrap Go.IntKind.i64 (s2 + (1 : Int))), ((Go.IntKind.wrap Go.IntKind.i64 (s3 + (1 : Int))), (s4, (s5, (Go.IntKind.wrap Go.IntKind.i64 (s6 + (1 : Int))))))))))
        else
        bif decide (x0.2 > s0.2) then
          bif decide (x2.2 ≤ s0.2) then
            ((F_i_orient (x0.1, x0.2) (x2.1, x2.2) (s0.1, s0.2))).bind fun x4 =>
            bif (x4 == (-(1 : Int))) then
              some (Sum.inl ((s0.1, s0.2), (s1, ((Go.IntKind.wrap Go.IntKind.i64 (s2 - (1 : Int))), ((Go.IntKind.wrap Go.IntKind.i64 (s3 + (1 : Int))), (s4, (s5, (Go.IntKind.wrap Go.IntKind.i64 (s6 + (1 : Int))))))))))
            else
            some (Sum.inl ((s0.1, s0.2), (s1, (s2, (s3, (s4, (s5, (Go.IntKind.wrap Go.IntKind.i64 (s6 + (1 : Int))))))))))
          else
          some (Sum.inl ((s0.1, s0.2), (s1, (s2, (s3, (s4, (s5, (Go.IntKind.wrap Go.IntKind.i64 (s6 + (1 : Int))))))))))
        else
        some (Sum.inl ((s0.1, s0.2), (s1, (s2, (s3, (s4, (s5, (Go.IntKind.wrap Go.IntKind.i64 (s6 + (1 : Int))))))))))
      else
      bif decide (x0.2 > s0.2) then
        bif decide (x2.2 ≤ s0.2) then
          ((F_i_orient (x0.1, x0.2) (x2.1, x2.2) (s0.1, s0.2))).bind fun x5 =>
          bif (x5 == (-(1 : Int))) then
            some (Sum.inl ((s0.1, s0.2), (s1, ((Go.IntKind.wrap Go.IntKind.i64 (s2 - (1 : Int))), ((Go.IntKind.wrap Go.IntKind.i64 (s3 + (1 : Int))), (s4, (s5, (Go.IntKind.wrap Go.IntKind.i64 (s6 + (1 : Int))))))))))
          else
          some (Sum.inl ((s0.1, s0.2), (s1, (s2, (s3, (s4, (s5, (Go.IntKind.wrap Go.IntKind.i64 (s6 + (1 : Int))))))))))
        else
        some (Sum.inl ((s0.1, s0.2), (s1, (s2, (s3, (s4, (s5, (Go.IntKind.wrap Go.IntKind.i64 (s6 + (1 : Int))))))))))
      else
      some (Sum.inl ((s0.1, s0.2), (s1, (s2, (s3, (s4, (s5, (Go.IntKind.wrap Go.IntKind.i64 (s6 + (1 : Int))))))))))
    else
    bif decide (x0.2 > s0.2) then
      bif decide (x2.2 ≤ s0.2) then
        ((F_i_orient (x0.1, x0.2) (x2.1, x2.2) (s0.1, s0.2))).bind fun x6 =>
        bif (x6 == (-(1 : Int))) then
          some (Sum.inl ((s0.1, s0.2), (s1, ((Go.IntKind.wrap Go.IntKind.i64 (s2 - (1 : Int))), ((Go.IntKind.wrap Go.IntKind.i64 (s3 + (1 : Int))), (s4, (s5, (Go.IntKind.wrap Go.IntKind.i64 (s6 + (1 : Int))))))))))
        else
        some (Sum.inl ((s0.1, s0.2), (s1, (s2, (s3, (s4, (s5, (Go.IntKind.wrap Go.IntKind.i64 (s6 + (1 : Int))))))))))
      else
      some (Sum.inl ((s0.1, s0.2), (s1, (s2, (s3, (s4, (s5, (Go.IntKind.wrap Go.IntKind.i64 (s6 + (1 : Int))))))))))
    else
    some (Sum.inl ((s0.1, s0.2), (s1, (s2, (s3, (s4, (s5, (Go.IntKind.wrap Go.IntKind.i64 (s6 + (1 : Int))))))))))
  else
  some (Sum.inr (s2, s3))
noncomputable def F_i_turns (a0 : (List (Int × Int))) (a1 : (Int × Int)) : Option (Int × Int) :=
  (loopM (fun (s : ((Int × Int) × ((List (Int × Int)) × (Int × (Int × ((List (Int × Int)) × (Int × Int))))))) => B_i_turns_0 s.1 s.2.1 s.2.2.1 s.2.2.2.1 s.2.2.2.2.1 s.2.2.2.2.2.1 s.2.2.2.2.2.2) ((a1.1, a1.2), (a0, ((0 : Int), ((0 : Int), (a0, ((((List.length a0) : Nat) : Int), (0 : Int)))))))).bind fun x0 =>
  some (x0.1, x0.2)
noncomputable def E_i_turns : Ent := ⟨a_i_turns, fun x => F_i_turns x.1 x.2⟩
noncomputable def X_i_turns : TX := ⟨tyTab, codTab, [50], [4], [E_i_after, E_i_orient], a_i_turns⟩
set_option maxHeartbeats 2000000 in
theorem W_i_turns (a0 : List ((Int × Int))) (a1 : (Int × Int)) : wtF X_i_turns Try.f104 (a0, a1) = F_i_turns a0 a1 := by kernel_rfl
theorem OK_i_turns : EntOK RR E_i_turns := fn_done (X := X_i_turns) ⟨tyOK, boolOK, eqOK⟩ (ents_of (by exact ⟨⟨OK_i_after, rfl⟩, ⟨⟨OK_i_orient, rfl⟩, trivial⟩⟩)) (cf_ok (by kernel_rfl)) ⟨Try.func104, rfl, by kernel_rfl, rfl⟩ (fun x => by exact W_i_turns x.1 x.2)

/-- loop.example/g00409/impl.WindingAt -/
noncomputable def F_i_WindingAt (a0 : (List (Int × Int))) (a1 : (Int × Int)) : Option (Int × Bool) :=
  ((F_i_isOff a0 (a1.1, a1.2))).bind fun x0 =>
  bif (!x0) then
    some ((0 : Int), false)
  else
  ((F_i_turns a0 (a1.1, a1.2))).bind fun x1 =>
  some (x1.1, true)
noncomputable def E_i_WindingAt : Ent := ⟨a_i_WindingAt, fun x => F_i_WindingAt x.1 x.2⟩
noncomputable def X_i_WindingAt : TX := ⟨tyTab, codTab, [50], [4], [E_i_isOff, E_i_turns], a_i_WindingAt⟩
set_option maxHeartbeats 2000000 in
theorem W_i_WindingAt (a0 : List ((Int × Int))) (a1 : (Int × Int)) : wtF X_i_WindingAt Try.f54 (a0, a1) = F_i_WindingAt a0 a1 := by kernel_rfl
theorem OK_i_WindingAt : EntOK RR E_i_WindingAt := fn_done (X := X_i_WindingAt) ⟨tyOK, boolOK, eqOK⟩ (ents_of (by exact ⟨⟨OK_i_isOff, rfl⟩, ⟨⟨OK_i_turns, rfl⟩, trivial⟩⟩)) (cf_ok (by kernel_rfl)) ⟨Try.func54, rfl, by kernel_rfl, rfl⟩ (fun x => by exact W_i_WindingAt x.1 x.2)

/-- loop.example/g00409/impl.areaTwice -/
noncomputable def B_i_areaTwice_0 (s0 : (List (Int × Int))) (s1 : Int) (s2 : (List (Int × Int))) (s3 : Int) (s4 : Int) : Option (((List (Int × Int)) × (Int × ((List (Int × Int)) × (Int × Int)))) ⊕ Int) :=
  bif decide (s4 < s3) then
    ((getI s2 s4)).bind fun x0 =>
    ((F_i_after s0 s4)).bind fun x1 =>
    ((getI s0 x1)).bind fun x2 =>
    some (Sum.inl (s0, ((Go.IntKind.wrap Go.IntKind.i64 (s1 + (Go.IntKind.wrap Go.IntKind.i64 ((Go.IntKind.wrap Go.IntKind.i64 (x0.1 * x2.2)) - (Go.IntKind.wrap Go.IntKind.i64 (x2.1 * x0.2)))))), (s2, (s3, (Go.IntKind.wrap Go.IntKind.i64 (s4 + (1 : Int))))))))
  else
  some (Sum.inr s1)
noncomputable def F_i_areaTwice (a0 : (List (Int × Int))) : Option (Int) :=
  (loopM (fun (s : ((List (Int × Int)) × (Int × ((List (Int × Int)) × (Int × Int))))) => B_i_areaTwice_0 s.1 s.2.1 s.2.2.1 s.2.2.2.1 s.2.2.2.2) (a0, ((0 : Int), (a0, ((((List.length a0) : Nat) : Int), (0 : Int)))))).bind fun x0 =>
  some x0
noncomputable def E_i_areaTwice : Ent := ⟨a_i_areaTwice, fun x => F_i_areaTwice x⟩
noncomputable def X_i_areaTwice : TX := ⟨tyTab, codTab, [50], [4], [E_i_after], a_i_areaTwice⟩
set_option maxHeartbeats 2000000 in
theorem W_i_areaTwice (a0 : List ((Int × Int))) : wtF X_i_areaTwice Try.f101 (a0) = F_i_areaTwice a0 := by kernel_rfl
theorem OK_i_areaTwice : EntOK RR E_i_areaTwice := fn_done (X := X_i_areaTwice) ⟨tyOK, boolOK, eqOK⟩ (ents_of (by exact ⟨⟨OK_i_after, rfl⟩, trivial⟩)) (cf_ok (by kernel_rfl)) ⟨Try.func101, rfl, by kernel_rfl, rfl⟩ (fun x => by exact W_i_areaTwice x)

/-- loop.example/g00409/impl.AreaTwice -/
noncomputable def F_i_AreaTwice (a0 : (List (Int × Int))) : Option (Int × Bool) :=
  ((F_i_isWay a0)).bind fun x0 =>
  bif (!x0) then
    some ((0 : Int), false)
  else
  ((F_i_areaTwice a0)).bind fun x1 =>
  some (x1, true)
noncomputable def E_i_AreaTwice : Ent := ⟨a_i_AreaTwice, fun x => F_i_AreaTwice x⟩
noncomputable def X_i_AreaTwice : TX := ⟨tyTab, codTab, [50], [4], [E_i_isWay, E_i_areaTwice], a_i_AreaTwice⟩
set_option maxHeartbeats 2000000 in
theorem W_i_AreaTwice (a0 : List ((Int × Int))) : wtF X_i_AreaTwice Try.f49 (a0) = F_i_AreaTwice a0 := by kernel_rfl
theorem OK_i_AreaTwice : EntOK RR E_i_AreaTwice := fn_done (X := X_i_AreaTwice) ⟨tyOK, boolOK, eqOK⟩ (ents_of (by exact ⟨⟨OK_i_isWay, rfl⟩, ⟨⟨OK_i_areaTwice, rfl⟩, trivial⟩⟩)) (cf_ok (by kernel_rfl)) ⟨Try.func49, rfl, by kernel_rfl, rfl⟩ (fun x => by exact W_i_AreaTwice x)

/-- loop.example/g00409/spec.DrawAreaTwice -/
noncomputable def F_s_DrawAreaTwice (a0 : (List Int)) : Option (List ((Int × Int))) :=
  ((F_s_l1Cur_way (a0, ((0 : Int), (0 : Int))))).bind fun x0 =>
  some x0.2
noncomputable def E_s_DrawAreaTwice : Ent := ⟨a_s_DrawAreaTwice, fun x => F_s_DrawAreaTwice x⟩
noncomputable def X_s_DrawAreaTwice : TX := ⟨tyTab, codTab, [50], [4], [E_s_l1Cur_way], a_s_DrawAreaTwice⟩
set_option maxHeartbeats 2000000 in
theorem W_s_DrawAreaTwice (a0 : List (Int)) : wtF X_s_DrawAreaTwice Try.f105 (a0) = F_s_DrawAreaTwice a0 := by kernel_rfl
theorem OK_s_DrawAreaTwice : EntOK RR E_s_DrawAreaTwice := fn_done (X := X_s_DrawAreaTwice) ⟨tyOK, boolOK, eqOK⟩ (ents_of (by exact ⟨⟨OK_s_l1Cur_way, rfl⟩, trivial⟩)) (cf_ok (by kernel_rfl)) ⟨Try.func105, rfl, by kernel_rfl, rfl⟩ (fun x => by exact W_s_DrawAreaTwice x)

/-- loop.example/g00409/spec.DrawWindingSum -/
noncomputable def F_s_DrawWindingSum (a0 : (List Int)) : Option (List ((Int × Int))) :=
  ((F_s_DrawAreaTwice a0)).bind fun x0 =>
  some x0
noncomputable def E_s_DrawWindingSum : Ent := ⟨a_s_DrawWindingSum, fun x => F_s_DrawWindingSum x⟩
noncomputable def X_s_DrawWindingSum : TX := ⟨tyTab, codTab, [50], [4], [E_s_DrawAreaTwice], a_s_DrawWindingSum⟩
set_option maxHeartbeats 2000000 in
theorem W_s_DrawWindingSum (a0 : List (Int)) : wtF X_s_DrawWindingSum Try.f55 (a0) = F_s_DrawWindingSum a0 := by kernel_rfl
theorem OK_s_DrawWindingSum : EntOK RR E_s_DrawWindingSum := fn_done (X := X_s_DrawWindingSum) ⟨tyOK, boolOK, eqOK⟩ (ents_of (by exact ⟨⟨OK_s_DrawAreaTwice, rfl⟩, trivial⟩)) (cf_ok (by kernel_rfl)) ⟨Try.func55, rfl, by kernel_rfl, rfl⟩ (fun x => by exact W_s_DrawWindingSum x)

/-- loop.example/g00409/impl.boxOf -/
noncomputable def B_i_boxOf_0 (s0 : (Int × Int)) (s1 : (Int × Int)) (s2 : (Int × Int)) (s3 : (Int × Int)) (s4 : (List (Int × Int))) (s5 : Int) (s6 : Int) : Option (((Int × Int) × ((Int × Int) × ((Int × Int) × ((Int × Int) × ((List (Int × Int)) × (Int × Int)))))) ⊕ ((Int × Int) × ((Int × Int) × ((Int × Int) × (Int × Int))))) :=
  bif decide (s6 < s5) then
    ((getI s4 s6)).bind fun x0 =>
    some (Sum.inl ((s0.1, s0.2), ((s1.1, s1.2), (((minL (List.cons s2.1 (List.cons x0.1 List.nil))), (minL (List.cons s2.2 (List.cons x0.2 List.nil)))), (((maxL (List.cons s3.1 (List.cons x0.1 List.nil))), (maxL (List.cons s3.2 (List.cons x0.2 List.nil)))), (s4, (s5, (Go.IntKind.wrap Go.IntKind.i64 (s6 + (1 : Int))))))))))
  else
  some (Sum.inr ((s0.1, s0.2), ((s1.1, s1.2), ((s2.1, s2.2), (s3.1, s3.2)))))
noncomputable def F_i_boxOf (a0 : (List (Int × Int))) : Option ((Int × Int) × (Int × Int)) :=
  ((getI a0 (0 : Int))).bind fun x0 =>
  ((getI a0 (0 : Int))).bind fun x1 =>
  (loopM (fun (s : ((Int × Int) × ((Int × Int) × ((Int × Int) × ((Int × Int) × ((List (Int × Int)) × (Int × Int))))))) => B_i_boxOf_0 s.1 s.2.1 s.2.2.1 s.2.2.2.1 s.2.2.2.2.1 s.2.2.2.2.2.1 s.2.2.2.2.2.2) (((0 : Int), (0 : Int)), (((0 : Int), (0 : Int)), ((x0.1, x0.2), ((x1.1, x1.2), (a0, ((((List.length a0) : Nat) : Int), (0 : Int)))))))).bind fun x2 =>
  some ((x2.2.2.1.1, x2.2.2.1.2), (x2.2.2.2.1, x2.2.2.2.2))
noncomputable def E_i_boxOf : Ent := ⟨a_i_boxOf, fun x => F_i_boxOf x⟩
noncomputable def X_i_boxOf : TX := ⟨tyTab, codTab, [50], [4], [], a_i_boxOf⟩
set_option maxHeartbeats 2000000 in
theorem W_i_boxOf (a0 : List ((Int × Int))) : wtF X_i_boxOf Try.f106 (a0) = F_i_boxOf a0 := by kernel_rfl
theorem OK_i_boxOf : EntOK RR E_i_boxOf := fn_done (X := X_i_boxOf) ⟨tyOK, boolOK, eqOK⟩ (ents_of (by exact trivial)) (cf_ok (by kernel_rfl)) ⟨Try.func106, rfl, by kernel_rfl, rfl⟩ (fun x => by exact W_i_boxOf x)

/-- loop.example/g00409/impl.WindingSum -/
noncomputable def B_i_WindingSum_1 (s0 : (Int × Int)) (s1 : (Int × Int)) (s2 : (List (Int × Int))) (s3 : Int) (s4 : Int) (s5 : Int) : Option (((Int × Int) × ((Int × Int) × ((List (Int × Int)) × (Int × (Int × Int))))) ⊕ ((Int × Int) × ((Int × Int) × ((List (Int × Int)) × (Int × Int))))) :=
  bif decide (s5 ≤ s1.2) then
    ((F_i_onWay s2 (s4, s5))).bind fun x0 =>
    bif (!x0) then
      ((F_i_turns s2 (s4, s5))).bind fun x1 =>
      some (Sum.inl ((s0.1, s0.2), ((s1.1, s1.2), (s2, ((Go.IntKind.wrap Go.IntKind.i64 (s3 + x1.1)), (s4, (Go.IntKind.wrap Go.IntKind.i64 (s5 + (1 : Int)))))))))
    else
    some (Sum.inl ((s0.1, s0.2), ((s1.1, s1.2), (s2, (s3, (s4, (Go.IntKind.wrap Go.IntKind.i64 (s5 + (1 : Int)))))))))
  else
  some (Sum.inr ((s0.1, s0.2), ((s1.1, s1.2), (s2, (s3, s4)))))
noncomputable def B_i_WindingSum_0 (s0 : (Int × Int)) (s1 : (Int × Int)) (s2 : (List (Int × Int))) (s3 : Int) (s4 : Int) : Option (((Int × Int) × ((Int × Int) × ((List (Int × Int)) × (Int × Int)))) ⊕ Int) :=
  bif decide (s4 ≤ s1.1) then
    (loopM (fun (s : ((Int × Int) × ((Int × Int) × ((List (Int × Int)) × (Int × (Int × Int)))))) => B_i_WindingSum_1 s.1 s.2.1 s.2.2.1 s.2.2.2.1 s.2.2.2.2.1 s.2.2.2.2.2) ((s0.1, s0.2), ((s1.1, s1.2), (s2, (s3, (s4, s0.2)))))).bind fun x0 =>
    some (Sum.inl ((x0.1.1, x0.1.2), ((x0.2.1.1, x0.2.1.2), (x0.2.2.1, (x0.2.2.2.1, (Go.IntKind.wrap Go.IntKind.i64 (x0.2.2.2.2 + (1 : Int))))))))
  else
  some (Sum.inr s3)
noncomputable def F_i_WindingSum (a0 : (List (Int × Int))) : Option (Int × Bool) :=
  ((F_i_isWay a0)).bind fun x0 =>
  bif (!x0) then
    some ((0 : Int), false)
  else
  ((F_i_boxOf a0)).bind fun x1 =>
  bif decide ((Go.IntKind.wrap Go.IntKind.i64 ((Go.IntKind.wrap Go.IntKind.i64 ((Go.IntKind.wrap Go.IntKind.i64 (x1.2.1 - x1.1.1)) + (1 : Int))) * (Go.IntKind.wrap Go.IntKind.i64 ((Go.IntKind.wrap Go.IntKind.i64 (x1.2.2 - x1.1.2)) + (1 : Int))))) > (400 : Int)) then
    some ((0 : Int), false)
  else
  (loopM (fun (s : ((Int × Int) × ((Int × Int) × ((List (Int × Int)) × (Int × Int))))) => B_i_WindingSum_0 s.1 s.2.1 s.2.2.1 s.2.2.2.1 s.2.2.2.2) ((x1.1.1, x1.1.2), ((x1.2.1, x1.2.2), (a0, ((0 : Int), x1.1.1))))).bind fun x2 =>
  some (x2, true)
noncomputable def E_i_WindingSum : Ent := ⟨a_i_WindingSum, fun x => F_i_WindingSum x⟩
noncomputable def X_i_WindingSum : TX := ⟨tyTab, codTab, [50], [4], [E_i_isWay, E_i_boxOf, E_i_onWay, E_i_turns], a_i_WindingSum⟩
set_option maxHeartbeats 2000000 in
theorem W_i_WindingSum (a0 : List ((Int × Int))) : wtF X_i_WindingSum Try.f56 (a0) = F_i_WindingSum a0 := by kernel_rfl
theorem OK_i_WindingSum : EntOK RR E_i_WindingSum := fn_done (X := X_i_WindingSum) ⟨tyOK, boolOK, eqOK⟩ (ents_of (by exact ⟨⟨OK_i_isWay, rfl⟩, ⟨⟨OK_i_boxOf, rfl⟩, ⟨⟨OK_i_onWay, rfl⟩, ⟨⟨OK_i_turns, rfl⟩, trivial⟩⟩⟩⟩)) (cf_ok (by kernel_rfl)) ⟨Try.func56, rfl, by kernel_rfl, rfl⟩ (fun x => by exact W_i_WindingSum x)

/-- loop.example/g00409/spec.l9Box -/
noncomputable def B_s_l9Box_0 (s0 : (Int × Int)) (s1 : (Int × Int)) (s2 : (Int × Int)) (s3 : (Int × Int)) (s4 : (List (Int × Int))) (s5 : Int) (s6 : Int) : Option (((Int × Int) × ((Int × Int) × ((Int × Int) × ((Int × Int) × ((List (Int × Int)) × (Int × Int)))))) ⊕ ((Int × Int) × ((Int × Int) × ((Int × Int) × (Int × Int))))) :=
  bif decide (s6 < s5) then
    ((getI s4 s6)).bind fun x0 =>
    (bif decide (x0.1 < s2.1) then
        some (Sum.inr ((s0.1, s0.2), ((s1.1, s1.2), ((x0.1, s2.2), ((s3.1, s3.2), ((x0.1, x0.2), (s4, (s5, s6))))))))
      else
      some (Sum.inr ((s0.1, s0.2), ((s1.1, s1.2), ((s2.1, s2.2), ((s3.1, s3.2), ((x0.1, x0.2), (s4, (s5, s6))))))))).bind fun x1 =>
    Sum.elim
      (fun x2 =>
      some x2)
      (fun x3 =>
      (bif decide (x3.2.2.2.2.1.2 < x3.2.2.1.2) then
          some (Sum.inr ((x3.1.1, x3.1.2), ((x3.2.1.1, x3.2.1.2), ((x3.2.2.1.1, x3.2.2.2.2.1.2), ((x3.2.2.2.1.1, x3.2.2.2.1.2), ((x3.2.2.2.2.1.1, x3.2.2.2.2.1.2), (x3.2.2.2.2.2.1, (x3.2.2.2.2.2.2.1, x3.2.2.2.2.2.2.2))))))))
        else
        some (Sum.inr ((x3.1.1, x3.1.2), ((x3.2.1.1, x3.2.1.2), ((x3.2.2.1.1, x3.2.2.1.2), ((x3.2.2.2.1.1, x3.2.2.2.1.2), ((x3.2.2.2.2.1.1, x3.2.2.2.2.1.2), (x3.2.2.2.2.2.1, (x3.2.2.2.2.2.2.1, x3.2.2.2.2.2.2.2))))))))).bind fun x4 =>
      Sum.elim
        (fun x5 =>
        some x5)
        (fun x6 =>
        (bif decide (x6.2.2.2.2.1.1 > x6.2.2.2.1.1) then
            some (Sum.inr ((x6.1.1, x6.1.2), ((x6.2.1.1, x6.2.1.2), ((x6.2.2.1.1, x6.2.2.1.2), ((x6.2.2.2.2.1.1, x6.2.2.2.1.2), ((x6.2.2.2.2.1.1, x6.2.2.2.2.1.2), (x6.2.2.2.2.2.1, (x6.2.2.2.2.2.2.1, x6.2.2.2.2.2.2.2))))))))
          else
          some (Sum.inr ((x6.1.1, x6.1.2), ((x6.2.1.1, x6.2.1.2), ((x6.2.2.1.1, x6.2.2.1.2), ((x6.2.2.2.1.1, x6.2.2.2.1.2), ((x6.2.2.2.2.1.1, x6.2.2.2.2.1.2), (x6.2.2.2.2.2.1, (x6.2.2.2.2.2.2.1, x6.2.2.2.2.2.2.2))))))))).bind fun x7 =>
        Sum.elim
          (fun x8 =>
          some x8)
          (fun x9 =>
          bif decide (x9.2.2.2.2.1.2 > x9.2.2.2.1.2) then
            some (Sum.inl ((x9.1.1, x9.1.2), ((x9.2.1.1, x9.2.1.2), ((x9.2.2.1.1, x9.2.2.1.2), ((x9.2.2.2.1.1, x9.2.2.2.2.1.2), (x9.2.2.2.2.2.1, (x9.2.2.2.2.2.2.1, (Go.IntKind.wrap Go.IntKind.i64 (x9.2.2.2.2.2.2.2 + (1 : Int))))))))))
          else
          some (Sum.inl ((x9.1.1, x9.1.2), ((x9.2.1.1, x9.2.1.2), ((x9.2.2.1.1, x9.2.2.1.2), ((x9.2.2.2.1.1, x9.2.2.2.1.2), (x9.2.2.2.2.2.1, (x9.2.2.2.2.2.2.1, (Go.IntKind.wrap Go.IntKind.i64 (x9.2.2.2.2.2.2.2 + (1 : Int)))))))))))
          x7)
        x4)
      x1
  else
  some (Sum.inr ((s0.1, s0.2), ((s1.1, s1.2), ((s2.1, s2.2), (s3.1, s3.2)))))
noncomputable def F_s_l9Box (a0 : (List (Int × Int))) : Option ((Int × Int) × (Int × Int)) :=
  ((getI a0 (0 : Int))).bind fun x0 =>
  ((getI a0 (0 : Int))).bind fun x1 =>
  (loopM (fun (s : ((Int × Int) × ((Int × Int) × ((Int × Int) × ((Int × Int) × ((List (Int × Int)) × (Int × Int))))))) => B_s_l9Box_0 s.1 s.2.1 s.2.2.1 s.2.2.2.1 s.2.2.2.2.1 s.2.2.2.2.2.1 s.2.2.2.2.2.2) (((0 : Int), (0 : Int)), (((0 : Int), (0 : Int)), ((x0.1, x0.2), ((x1.1, x1.2), (a0, ((((List.length a0) : Nat) : Int), (0 : Int)))))))).bind fun x2 =>
  some ((x2.2.2.1.1, x2.2.2.1.2), (x2.2.2.2.1, x2.2.2.2.2))
noncomputable def E_s_l9Box : Ent := ⟨a_s_l9Box, fun x => F_s_l9Box x⟩
noncomputable def X_s_l9Box : TX := ⟨tyTab, codTab, [50], [4], [], a_s_l9Box⟩
set_option maxHeartbeats 2000000 in
theorem W_s_l9Box (a0 : List ((Int × Int))) : wtF X_s_l9Box Try.f108 (a0) = F_s_l9Box a0 := by kernel_rfl
theorem OK_s_l9Box : EntOK RR E_s_l9Box := fn_done (X := X_s_l9Box) ⟨tyOK, boolOK, eqOK⟩ (ents_of (by exact trivial)) (cf_ok (by kernel_rfl)) ⟨Try.func108, rfl, by kernel_rfl, rfl⟩ (fun x => by exact W_s_l9Box x)

/-- loop.example/g00409/spec.l8Next -/
noncomputable def F_s_l8Next (a0 : (List (Int × Int))) (a1 : Int) : Option ((Int × Int)) :=
  bif ((((List.length a0) : Nat) : Int) == (0 : Int)) then
    none
  else
  ((getI a0 (Int.tmod (Go.IntKind.wrap Go.IntKind.i64 (a1 + (1 : Int))) (((List.length a0) : Nat) : Int)))).bind fun x0 =>
  some (x0.1, x0.2)
noncomputable def E_s_l8Next : Ent := ⟨a_s_l8Next, fun x => F_s_l8Next x.1 x.2⟩
noncomputable def X_s_l8Next : TX := ⟨tyTab, codTab, [50], [4], [], a_s_l8Next⟩
set_option maxHeartbeats 2000000 in
theorem W_s_l8Next (a0 : List ((Int × Int))) (a1 : Int) : wtF X_s_l8Next Try.f131 (a0, a1) = F_s_l8Next a0 a1 := by kernel_rfl
theorem OK_s_l8Next : EntOK RR E_s_l8Next := fn_done (X := X_s_l8Next) ⟨tyOK, boolOK, eqOK⟩ (ents_of (by exact trivial)) (cf_ok (by kernel_rfl)) ⟨Try.func131, rfl, by kernel_rfl, rfl⟩ (fun x => by exact W_s_l8Next x.1 x.2)

/-- loop.example/g00409/spec.l8Cross -/
noncomputable def F_s_l8Cross (a0 : (Int × Int)) (a1 : (Int × Int)) (a2 : (Int × Int)) : Option (Int) :=
  some (Go.IntKind.wrap Go.IntKind.i64 ((Go.IntKind.wrap Go.IntKind.i64 ((Go.IntKind.wrap Go.IntKind.i64 (a1.1 - a0.1)) * (Go.IntKind.wrap Go.IntKind.i64 (a2.2 - a0.2)))) - (Go.IntKind.wrap Go.IntKind.i64 ((Go.IntKind.wrap Go.IntKind.i64 (a1.2 - a0.2)) * (Go.IntKind.wrap Go.IntKind.i64 (a2.1 - a0.1))))))
noncomputable def E_s_l8Cross : Ent := ⟨a_s_l8Cross, fun x => F_s_l8Cross x.1 x.2.1 x.2.2⟩
noncomputable def X_s_l8Cross : TX := ⟨tyTab, codTab, [50], [4], [], a_s_l8Cross⟩
set_option maxHeartbeats 2000000 in
theorem W_s_l8Cross (a0 : (Int × Int)) (a1 : (Int × Int)) (a2 : (Int × Int)) : wtF X_s_l8Cross Try.f126 (a0, a1, a2) = F_s_l8Cross a0 a1 a2 := by kernel_rfl
theorem OK_s_l8Cross : EntOK RR E_s_l8Cross := fn_done (X := X_s_l8Cross) ⟨tyOK, boolOK, eqOK⟩ (ents_of (by exact trivial)) (cf_ok (by kernel_rfl)) ⟨Try.func126, rfl, by kernel_rfl, rfl⟩ (fun x => by exact W_s_l8Cross x.1 x.2.1 x.2.2)

/-- loop.example/g00409/spec.l8Between -/
noncomputable def F_s_l8Between (a0 : Int) (a1 : Int) (a2 : Int) : Option (Bool) :=
  bif decide (a2 ≥ a0) then
    bif decide (a2 ≤ a1) then
      some true
    else
    bif decide (a2 ≥ a1) then
      some (decide (a2 ≤ a0))
    else
    some false
  else
  bif decide (a2 ≥ a1) then
    some (decide (a2 ≤ a0))
  else
  some false
noncomputable def E_s_l8Between : Ent := ⟨a_s_l8Between, fun x => F_s_l8Between x.1 x.2.1 x.2.2⟩
noncomputable def X_s_l8Between : TX := ⟨tyTab, codTab, [50], [4], [], a_s_l8Between⟩
set_option maxHeartbeats 2000000 in
theorem W_s_l8Between (a0 : Int) (a1 : Int) (a2 : Int) : wtF X_s_l8Between Try.f127 (a0, a1, a2) = F_s_l8Between a0 a1 a2 := by kernel_rfl
theorem OK_s_l8Between : EntOK RR E_s_l8Between := fn_done (X := X_s_l8Between) ⟨tyOK, boolOK, eqOK⟩ (ents_of (by exact trivial)) (cf_ok (by kernel_rfl)) ⟨Try.func127, rfl, by kernel_rfl, rfl⟩ (fun x => by exact W_s_l8Between x.1 x.2.1 x.2.2)

/-- loop.example/g00409/spec.l8On -/
noncomputable def F_s_l8On (a0 : (Int × Int)) (a1 : (Int × Int)) (a2 : (Int × Int)) : Option (Bool) :=
  ((F_s_l8Cross (a0.1, a0.2) (a1.1, a1.2) (a2.1, a2.2))).bind fun x0 =>
  bif (x0 == (0 : Int)) then
    ((F_s_l8Between a0.1 a1.1 a2.1)).bind fun x1 =>
    bif x1 then
      ((F_s_l8Between a0.2 a1.2 a2.2)).bind fun x2 =>
      some x2
    else
    some false
  else
  some false
noncomputable def E_s_l8On : Ent := ⟨a_s_l8On, fun x => F_s_l8On x.1 x.2.1 x.2.2⟩
noncomputable def X_s_l8On : TX := ⟨tyTab, codTab, [50], [4], [E_s_l8Cross, E_s_l8Between], a_s_l8On⟩
set_option maxHeartbeats 2000000 in
theorem W_s_l8On (a0 : (Int × Int)) (a1 : (Int × Int)) (a2 : (Int × Int)) : wtF X_s_l8On Try.f96 (a0, a1, a2) = F_s_l8On a0 a1 a2 := by kernel_rfl
theorem OK_s_l8On : EntOK RR E_s_l8On := fn_done (X := X_s_l8On) ⟨tyOK, boolOK, eqOK⟩ (ents_of (by exact ⟨⟨OK_s_l8Cross, rfl⟩, ⟨⟨OK_s_l8Between, rfl⟩, trivial⟩⟩)) (cf_ok (by kernel_rfl)) ⟨Try.func96, rfl, by kernel_rfl, rfl⟩ (fun x => by exact W_s_l8On x.1 x.2.1 x.2.2)

/-- loop.example/g00409/spec.l9On -/
noncomputable def B_s_l9On_0 (s0 : (Int × Int)) (s1 : (List (Int × Int))) (s2 : (List (Int × Int))) (s3 : Int) (s4 : Int) : Option (((Int × Int) × ((List (Int × Int)) × ((List (Int × Int)) × (Int × Int)))) ⊕ (Unit ⊕ Bool)) :=
  bif decide (s4 < s3) then
    ((getI s2 s4)).bind fun x0 =>
    ((F_s_l8Next s1 s4)).bind fun x1 =>
    ((F_s_l8On (x0.1, x0.2) (x1.1, x1.2) (s0.1, s0.2))).bind fun x2 =>
    bif x2 then
      some (Sum.inr (Sum.inr true))
    else
    some (Sum.inl ((s0.1, s0.2), (s1, (s2, (s3, (Go.IntKind.wrap Go.IntKind.i64 (s4 + (1 : Int))))))))
  else
  some (Sum.inr (Sum.inl ()))
noncomputable def F_s_l9On (a0 : (List (Int × Int))) (a1 : (Int × Int)) : Option (Bool) :=
  (loopM (fun (s : ((Int × Int) × ((List (Int × Int)) × ((List (Int × Int)) × (Int × Int))))) => B_s_l9On_0 s.1 s.2.1 s.2.2.1 s.2.2.2.1 s.2.2.2.2) ((a1.1, a1.2), (a0, (a0, ((((List.length a0) : Nat) : Int), (0 : Int)))))).bind fun x0 =>
  Sum.elim
    (fun x1 =>
    some false)
    (fun x2 =>
    some x2)
    x0
noncomputable def E_s_l9On : Ent := ⟨a_s_l9On, fun x => F_s_l9On x.1 x.2⟩
noncomputable def X_s_l9On : TX := ⟨tyTab, codTab, [50], [4], [E_s_l8Next, E_s_l8On], a_s_l9On⟩
set_option maxHeartbeats 2000000 in
theorem W_s_l9On (a0 : List ((Int × Int))) (a1 : (Int × Int)) : wtF X_s_l9On Try.f109 (a0, a1) = F_s_l9On a0 a1 := by kernel_rfl
theorem OK_s_l9On : EntOK RR E_s_l9On := fn_done (X := X_s_l9On) ⟨tyOK, boolOK, eqOK⟩ (ents_of (by exact ⟨⟨OK_s_l8Next, rfl⟩, ⟨⟨OK_s_l8On, rfl⟩, trivial⟩⟩)) (cf_ok (by kernel_rfl)) ⟨Try.func109, rfl, by kernel_rfl, rfl⟩ (fun x => by exact W_s_l9On x.1 x.2)

/-- loop.example/g00409/spec.l8Sign -/
noncomputable def F_s_l8Sign (a0 : Int) : Option (Int) :=
  bif decide (a0 > (0 : Int)) then
    some (1 : Int)
  else
  bif decide (a0 < (0 : Int)) then
    some (-(1 : Int))
  else
  some (0 : Int)
noncomputable def E_s_l8Sign : Ent := ⟨a_s_l8Sign, fun x => F_s_l8Sign x⟩
noncomputable def X_s_l8Sign : TX := ⟨tyTab, codTab, [50], [4], [], a_s_l8Sign⟩
set_option maxHeartbeats 2000000 in
theorem W_s_l8Sign (a0 : Int) : wtF X_s_l8Sign Try.f125 (a0) = F_s_l8Sign a0 := by kernel_rfl
theorem OK_s_l8Sign : EntOK RR E_s_l8Sign := fn_done (X := X_s_l8Sign) ⟨tyOK, boolOK, eqOK⟩ (ents_of (by exact trivial)) (cf_ok (by kernel_rfl)) ⟨Try.func125, rfl, by kernel_rfl, rfl⟩ (fun x => by exact W_s_l8Sign x)

/-- loop.example/g00409/spec.l8Orient -/
noncomputable def F_s_l8Orient (a0 : (Int × Int)) (a1 : (Int × Int)) (a2 : (Int × Int)) : Option (Int) :=
  ((F_s_l8Cross (a0.1, a0.2) (a1.1, a1.2) (a2.1, a2.2))).bind fun x0 =>
  ((F_s_l8Sign x0)).bind fun x1 =>
  some x1
noncomputable def E_s_l8Orient : Ent := ⟨a_s_l8Orient, fun x => F_s_l8Orient x.1 x.2.1 x.2.2⟩
noncomputable def X_s_l8Orient : TX := ⟨tyTab, codTab, [50], [4], [E_s_l8Cross, E_s_l8Sign], a_s_l8Orient⟩
set_option maxHeartbeats 2000000 in
theorem W_s_l8Orient (a0 : (Int × Int)) (a1 : (Int × Int)) (a2 : (Int × Int)) : wtF X_s_l8Orient Try.f94 (a0, a1, a2) = F_s_l8Orient a0 a1 a2 := by kernel_rfl
theorem OK_s_l8Orient : EntOK RR E_s_l8Orient := fn_done (X := X_s_l8Orient) ⟨tyOK, boolOK, eqOK⟩ (ents_of (by exact ⟨⟨OK_s_l8Cross, rfl⟩, ⟨⟨OK_s_l8Sign, rfl⟩, trivial⟩⟩)) (cf_ok (by kernel_rfl)) ⟨Try.func94, rfl, by kernel_rfl, rfl⟩ (fun x => by exact W_s_l8Orient x.1 x.2.1 x.2.2)

/-- loop.example/g00409/spec.l9Winding -/
noncomputable def B_s_l9Winding_0 (s0 : (Int × Int)) (s1 : (List (Int × Int))) (s2 : Int) (s3 : (List (Int × Int))) (s4 : Int) (s5 : Int) : Option (((Int × Int) × ((List (Int × Int)) × (Int × ((List (Int × Int)) × (Int × Int))))) ⊕ Int) :=
  bif decide (s5 < s4) then
    ((getI s3 s5)).bind fun x0 =>
    ((F_s_l8Next s1 s5)).bind fun x1 =>
    bif decide (x0.2 ≤ s0.2) then
      bif decide (x1.2 > s0.2) then
        ((F_s_l8Orient (x0.1, x0.2) (x1.1, x1.2) (s0.1, s0.2))).bind fun x2 =>
        bif (x2 == (1 : Int)) then
          some (Sum.inl ((s0.1, s0.2), (s1, ((Go.IntKind.wrap Go.IntKind.i64 (s2 + (1 : Int))), (s3, (s4, (Go.IntKind.wrap Go.IntKind.i64 (s5 + (1 : Int)))))))))
        else
        bif decide (x0.2 > s0.2) then
          bif decide (x1.2 ≤ s0.2) then
            ((F_s_l8Orient (x0.1, x0.2) (x1.1, x1.2) (s0.1, s0.2))).bind fun x3 =>
            bif (x3 == (-(1 : Int))) then
              some (Sum.inl ((s0.1, s0.2), (s1, ((Go.IntKind.wrap Go.IntKind.i64 (s2 - (1 : Int))), (s3, (s4, (Go.IntKind.wrap Go.IntKind.i64 (s5 + (1 : Int)))))))))
            else
            some (Sum.inl ((s0.1, s0.2), (s1, (s2, (s3, (s4, (Go.IntKind.wrap Go.IntKind.i64 (s5 + (1 : Int)))))))))
          else
          some (Sum.inl ((s0.1, s0.2), (s1, (s2, (s3, (s4, (Go.IntKind.wrap Go.IntKind.i64 (s5 + (1 : Int)))))))))
        else
        some (Sum.inl ((s0.1, s0.2), (s1, (s2, (s3, (s4, (Go.IntKind.wrap Go.IntKind.i64 (s5 + (1 : Int)))))))))
      else
      bif decide (x0.2 > s0.2) then
        bif decide (x1.2 ≤ s0.2) then
          ((F_s_l8Orient (x0.1, x0.2) (x1.1, x1.2) (s0.1, s0.2))).bind fun x4 =>
          bif (x4 == (-(1 : Int))) then
            some (Sum.inl ((s0.1, s0.2), (s1, ((Go.IntKind.wrap Go.IntKind.i64 (s2 - (1 : Int))), (s3, (s4, (Go.IntKind.wrap Go.IntKind.i64 (s5 + (1 : Int)))))))))
          else
          some (Sum.inl ((s0.1, s0.2), (s1, (s2, (s3, (s4, (Go.IntKind.wrap Go.IntKind.i64 (s5 + (1 : Int)))))))))
        else
        some (Sum.inl ((s0.1, s0.2), (s1, (s2, (s3, (s4, (Go.IntKind.wrap Go.IntKind.i64 (s5 + (1 : Int)))))))))
      else
      some (Sum.inl ((s0.1, s0.2), (s1, (s2, (s3, (s4, (Go.IntKind.wrap Go.IntKind.i64 (s5 + (1 : Int)))))))))
    else
    bif decide (x0.2 > s0.2) then
      bif decide (x1.2 ≤ s0.2) then
        ((F_s_l8Orient (x0.1, x0.2) (x1.1, x1.2) (s0.1, s0.2))).bind fun x5 =>
        bif (x5 == (-(1 : Int))) then
          some (Sum.inl ((s0.1, s0.2), (s1, ((Go.IntKind.wrap Go.IntKind.i64 (s2 - (1 : Int))), (s3, (s4, (Go.IntKind.wrap Go.IntKind.i64 (s5 + (1 : Int)))))))))
        else
        some (Sum.inl ((s0.1, s0.2), (s1, (s2, (s3, (s4, (Go.IntKind.wrap Go.IntKind.i64 (s5 + (1 : Int)))))))))
      else
      some (Sum.inl ((s0.1, s0.2), (s1, (s2, (s3, (s4, (Go.IntKind.wrap Go.IntKind.i64 (s5 + (1 : Int)))))))))
    else
    some (Sum.inl ((s0.1, s0.2), (s1, (s2, (s3, (s4, (Go.IntKind.wrap Go.IntKind.i64 (s5 + (1 : Int)))))))))
  else
  some (Sum.inr s2)
noncomputable def F_s_l9Winding (a0 : (List (Int × Int))) (a1 : (Int × Int)) : Option (Int) :=
  (loopM (fun (s : ((Int × Int) × ((List (Int × Int)) × (Int × ((List (Int × Int)) × (Int × Int)))))) => B_s_l9Winding_0 s.1 s.2.1 s.2.2.1 s.2.2.2.1 s.2.2.2.2.1 s.2.2.2.2.2) ((a1.1, a1.2), (a0, ((0 : Int), (a0, ((((List.length a0) : Nat) : Int), (0 : Int))))))).bind fun x0 =>
  some x0
noncomputable def E_s_l9Winding : Ent := ⟨a_s_l9Winding, fun x => F_s_l9Winding x.1 x.2⟩
noncomputable def X_s_l9Winding : TX := ⟨tyTab, codTab, [50], [4], [E_s_l8Next, E_s_l8Orient], a_s_l9Winding⟩
set_option maxHeartbeats 2000000 in
theorem W_s_l9Winding (a0 : List ((Int × Int))) (a1 : (Int × Int)) : wtF X_s_l9Winding Try.f110 (a0, a1) = F_s_l9Winding a0 a1 := by kernel_rfl
theorem OK_s_l9Winding : EntOK RR E_s_l9Winding := fn_done (X := X_s_l9Winding) ⟨tyOK, boolOK, eqOK⟩ (ents_of (by exact ⟨⟨OK_s_l8Next, rfl⟩, ⟨⟨OK_s_l8Orient, rfl⟩, trivial⟩⟩)) (cf_ok (by kernel_rfl)) ⟨Try.func110, rfl, by kernel_rfl, rfl⟩ (fun x => by exact W_s_l9Winding x.1 x.2)

/-- loop.example/g00409/spec.WindingSum -/
noncomputable def B_s_WindingSum_1 (s0 : (Int × Int)) (s1 : (Int × Int)) (s2 : (List (Int × Int))) (s3 : Int) (s4 : Int) (s5 : Int) : Option (((Int × Int) × ((Int × Int) × ((List (Int × Int)) × (Int × (Int × Int))))) ⊕ ((Int × Int) × ((Int × Int) × ((List (Int × Int)) × (Int × Int))))) :=
  bif decide (s5 ≤ s1.2) then
    ((F_s_l9On s2 (s4, s5))).bind fun x0 =>
    bif (!x0) then
      ((F_s_l9Winding s2 (s4, s5))).bind fun x1 =>
      some (Sum.inl ((s0.1, s0.2), ((s1.1, s1.2), (s2, ((Go.IntKind.wrap Go.IntKind.i64 (s3 + x1)), (s4, (Go.IntKind.wrap Go.IntKind.i64 (s5 + (1 : Int)))))))))
    else
    some (Sum.inl ((s0.1, s0.2), ((s1.1, s1.2), (s2, (s3, (s4, (Go.IntKind.wrap Go.IntKind.i64 (s5 + (1 : Int)))))))))
  else
  some (Sum.inr ((s0.1, s0.2), ((s1.1, s1.2), (s2, (s3, s4)))))
noncomputable def B_s_WindingSum_0 (s0 : (Int × Int)) (s1 : (Int × Int)) (s2 : (List (Int × Int))) (s3 : Int) (s4 : Int) : Option (((Int × Int) × ((Int × Int) × ((List (Int × Int)) × (Int × Int)))) ⊕ Int) :=
  bif decide (s4 ≤ s1.1) then
    (loopM (fun (s : ((Int × Int) × ((Int × Int) × ((List (Int × Int)) × (Int × (Int × Int)))))) => B_s_WindingSum_1 s.1 s.2.1 s.2.2.1 s.2.2.2.1 s.2.2.2.2.1 s.2.2.2.2.2) ((s0.1, s0.2), ((s1.1, s1.2), (s2, (s3, (s4, s0.2)))))).bind fun x0 =>
    some (Sum.inl ((x0.1.1, x0.1.2), ((x0.2.1.1, x0.2.1.2), (x0.2.2.1, (x0.2.2.2.1, (Go.IntKind.wrap Go.IntKind.i64 (x0.2.2.2.2 + (1 : Int))))))))
  else
  some (Sum.inr s3)
noncomputable def F_s_WindingSum (a0 : (List (Int × Int))) : Option (Int × Bool) :=
  ((F_s_l8Way a0)).bind fun x0 =>
  bif (!x0) then
    some ((0 : Int), false)
  else
  ((F_s_l9Box a0)).bind fun x1 =>
  bif decide ((Go.IntKind.wrap Go.IntKind.i64 ((Go.IntKind.wrap Go.IntKind.i64 ((Go.IntKind.wrap Go.IntKind.i64 (x1.2.1 - x1.1.1)) + (1 : Int))) * (Go.IntKind.wrap Go.IntKind.i64 ((Go.IntKind.wrap Go.IntKind.i64 (x1.2.2 - x1.1.2)) + (1 : Int))))) > (400 : Int)) then
    some ((0 : Int), false)
  else
  (loopM (fun (s : ((Int × Int) × ((Int × Int) × ((List (Int × Int)) × (Int × Int))))) => B_s_WindingSum_0 s.1 s.2.1 s.2.2.1 s.2.2.2.1 s.2.2.2.2) ((x1.1.1, x1.1.2), ((x1.2.1, x1.2.2), (a0, ((0 : Int), x1.1.1))))).bind fun x2 =>
  some (x2, true)
noncomputable def E_s_WindingSum : Ent := ⟨a_s_WindingSum, fun x => F_s_WindingSum x⟩
noncomputable def X_s_WindingSum : TX := ⟨tyTab, codTab, [50], [4], [E_s_l8Way, E_s_l9Box, E_s_l9On, E_s_l9Winding], a_s_WindingSum⟩
set_option maxHeartbeats 2000000 in
theorem W_s_WindingSum (a0 : List ((Int × Int))) : wtF X_s_WindingSum Try.f57 (a0) = F_s_WindingSum a0 := by kernel_rfl
theorem OK_s_WindingSum : EntOK RR E_s_WindingSum := fn_done (X := X_s_WindingSum) ⟨tyOK, boolOK, eqOK⟩ (ents_of (by exact ⟨⟨OK_s_l8Way, rfl⟩, ⟨⟨OK_s_l9Box, rfl⟩, ⟨⟨OK_s_l9On, rfl⟩, ⟨⟨OK_s_l9Winding, rfl⟩, trivial⟩⟩⟩⟩)) (cf_ok (by kernel_rfl)) ⟨Try.func57, rfl, by kernel_rfl, rfl⟩ (fun x => by exact W_s_WindingSum x)

/-- loop.example/g00409/impl.BoxOf -/
noncomputable def F_i_BoxOf (a0 : (List (Int × Int))) : Option ((Int × Int) × (Int × Int) × Bool) :=
  ((F_i_isWay a0)).bind fun x0 =>
  bif (!x0) then
    some (((0 : Int), (0 : Int)), (((0 : Int), (0 : Int)), false))
  else
  ((F_i_boxOf a0)).bind fun x1 =>
  some ((x1.1.1, x1.1.2), ((x1.2.1, x1.2.2), true))
noncomputable def E_i_BoxOf : Ent := ⟨a_i_BoxOf, fun x => F_i_BoxOf x⟩
noncomputable def X_i_BoxOf : TX := ⟨tyTab, codTab, [50], [4], [E_i_isWay, E_i_boxOf], a_i_BoxOf⟩
set_option maxHeartbeats 2000000 in
theorem W_i_BoxOf (a0 : List ((Int × Int))) : wtF X_i_BoxOf Try.f58 (a0) = F_i_BoxOf a0 := by kernel_rfl
theorem OK_i_BoxOf : EntOK RR E_i_BoxOf := fn_done (X := X_i_BoxOf) ⟨tyOK, boolOK, eqOK⟩ (ents_of (by exact ⟨⟨OK_i_isWay, rfl⟩, ⟨⟨OK_i_boxOf, rfl⟩, trivial⟩⟩)) (cf_ok (by kernel_rfl)) ⟨Try.func58, rfl, by kernel_rfl, rfl⟩ (fun x => by exact W_i_BoxOf x)

/-- loop.example/g00409/spec.BoxOf -/
noncomputable def F_s_BoxOf (a0 : (List (Int × Int))) : Option ((Int × Int) × (Int × Int) × Bool) :=
  ((F_s_l8Way a0)).bind fun x0 =>
  bif (!x0) then
    some (((0 : Int), (0 : Int)), (((0 : Int), (0 : Int)), false))
  else
  ((F_s_l9Box a0)).bind fun x1 =>
  some ((x1.1.1, x1.1.2), ((x1.2.1, x1.2.2), true))
noncomputable def E_s_BoxOf : Ent := ⟨a_s_BoxOf, fun x => F_s_BoxOf x⟩
noncomputable def X_s_BoxOf : TX := ⟨tyTab, codTab, [50], [4], [E_s_l8Way, E_s_l9Box], a_s_BoxOf⟩
set_option maxHeartbeats 2000000 in
theorem W_s_BoxOf (a0 : List ((Int × Int))) : wtF X_s_BoxOf Try.f59 (a0) = F_s_BoxOf a0 := by kernel_rfl
theorem OK_s_BoxOf : EntOK RR E_s_BoxOf := fn_done (X := X_s_BoxOf) ⟨tyOK, boolOK, eqOK⟩ (ents_of (by exact ⟨⟨OK_s_l8Way, rfl⟩, ⟨⟨OK_s_l9Box, rfl⟩, trivial⟩⟩)) (cf_ok (by kernel_rfl)) ⟨Try.func59, rfl, by kernel_rfl, rfl⟩ (fun x => by exact W_s_BoxOf x)

/-- loop.example/g00409/laws.FnWays -/
noncomputable def F_l_FnWays (a0 : (List Int)) (a1 : (List Int)) : Option (Bool) :=
  bif decide ((Go.IntKind.wrap Go.IntKind.i64 ((((List.length a0) : Nat) : Int) + (((List.length a1) : Nat) : Int))) > (1048576 : Int)) then
    some true
  else
  ((F_s_DrawSplitWay a0)).bind fun x0 =>
  ((F_i_SplitWay x0.1 x0.2.1 x0.2.2)).bind fun x1 =>
  ((F_s_SplitWay x0.1 x0.2.1 x0.2.2)).bind fun x2 =>
  bif (!(x1.2.2 == x2.2.2)) then
    some false
  else
  ((F_l_samePts x1.1 x2.1)).bind fun x3 =>
  bif (!x3) then
    some false
  else
  ((F_l_samePts x1.2.1 x2.2.1)).bind fun x4 =>
  bif (!x4) then
    some false
  else
  (bif x1.2.2 then
      ((F_s_DrawOnWay a1)).bind fun x5 =>
      ((F_i_WindingAt x1.1 (x5.2.1, x5.2.2))).bind fun x6 =>
      ((F_i_WindingAt x1.2.1 (x5.2.1, x5.2.2))).bind fun x7 =>
      ((F_i_WindingAt x0.1 (x5.2.1, x5.2.2))).bind fun x8 =>
      (bif x6.2 then
          bif x7.2 then
            bif x8.2 then
              bif ((Go.IntKind.wrap Go.IntKind.i64 (x6.1 + x7.1)) != x8.1) then
                some (Sum.inl (Sum.inl false))
              else
              some (Sum.inr (x0.1, (x1.1, (x1.2.1, (x5.1, a1)))))
            else
            some (Sum.inr (x0.1, (x1.1, (x1.2.1, (x5.1, a1)))))
          else
          some (Sum.inr (x0.1, (x1.1, (x1.2.1, (x5.1, a1)))))
        else
        some (Sum.inr (x0.1, (x1.1, (x1.2.1, (x5.1, a1)))))).bind fun x9 =>
      Sum.elim
        (fun x10 =>
        some x10)
        (fun x11 =>
        ((F_i_AreaTwice x11.2.1)).bind fun x12 =>
        ((F_i_AreaTwice x11.2.2.1)).bind fun x13 =>
        ((F_i_AreaTwice x11.1)).bind fun x14 =>
        bif (!x12.2) then
          some (Sum.inl false)
        else
        bif (!x13.2) then
          some (Sum.inl false)
        else
        bif (!x14.2) then
          some (Sum.inl false)
        else
        bif ((Go.IntKind.wrap Go.IntKind.i64 (x12.1 + x13.1)) != x14.1) then
          some (Sum.inl false)
        else
        bif decide ((((List.length x11.2.2.2.1) : Nat) : Int) > (100 : Int)) then
          some (Sum.inl false)
        else
        some (Sum.inr x11.2.2.2.2))
        x9
    else
    some (Sum.inr a1)).bind fun x15 =>
  Sum.elim
    (fun x16 =>
    some x16)
    (fun x17 =>
    ((F_s_DrawWindingSum x17)).bind fun x18 =>
    ((F_i_WindingSum x18)).bind fun x19 =>
    ((F_s_WindingSum x18)).bind fun x20 =>
    ((F_i_BoxOf x18)).bind fun x21 =>
    ((F_s_BoxOf x18)).bind fun x22 =>
    bif (x19.2 == x20.2) then
      bif (x19.1 == x20.1) then
        bif (x21.2.2 == x22.2.2) then
          bif ((x21.1.1 == x22.1.1) && (x21.1.2 == x22.1.2)) then
            some ((x21.2.1.1 == x22.2.1.1) && (x21.2.1.2 == x22.2.1.2))
          else
          some false
        else
        some false
      else
      some false
    else
    some false)
    x15
noncomputable def E_l_FnWays : Ent := ⟨a_l_FnWays, fun x => F_l_FnWays x.1 x.2⟩
noncomputable def X_l_FnWays : TX := ⟨tyTab, codTab, [50], [4], [E_s_DrawSplitWay, E_i_SplitWay, E_s_SplitWay, E_l_samePts, E_s_DrawOnWay, E_i_WindingAt, E_i_AreaTwice, E_s_DrawWindingSum, E_i_WindingSum, E_s_WindingSum, E_i_BoxOf, E_s_BoxOf], a_l_FnWays⟩
set_option maxHeartbeats 2000000 in
theorem W_l_FnWays (a0 : List (Int)) (a1 : List (Int)) : wtF X_l_FnWays Try.f9 (a0, a1) = F_l_FnWays a0 a1 := by kernel_rfl
theorem OK_l_FnWays : EntOK RR E_l_FnWays := fn_done (X := X_l_FnWays) ⟨tyOK, boolOK, eqOK⟩ (ents_of (by exact ⟨⟨OK_s_DrawSplitWay, rfl⟩, ⟨⟨OK_i_SplitWay, rfl⟩, ⟨⟨OK_s_SplitWay, rfl⟩, ⟨⟨OK_l_samePts, rfl⟩, ⟨⟨OK_s_DrawOnWay, rfl⟩, ⟨⟨OK_i_WindingAt, rfl⟩, ⟨⟨OK_i_AreaTwice, rfl⟩, ⟨⟨OK_s_DrawWindingSum, rfl⟩, ⟨⟨OK_i_WindingSum, rfl⟩, ⟨⟨OK_s_WindingSum, rfl⟩, ⟨⟨OK_i_BoxOf, rfl⟩, ⟨⟨OK_s_BoxOf, rfl⟩, trivial⟩⟩⟩⟩⟩⟩⟩⟩⟩⟩⟩⟩)) (cf_ok (by kernel_rfl)) ⟨Try.func9, rfl, by kernel_rfl, rfl⟩ (fun x => by exact W_l_FnWays x.1 x.2)
end Go.Proofs.Ytcmihlhmeonmfaa.Ev
