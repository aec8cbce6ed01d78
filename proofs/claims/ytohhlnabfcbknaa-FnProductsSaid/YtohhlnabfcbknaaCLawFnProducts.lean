/- The functions that the law FnProducts reaches: their types, forms and typed texts (made by wip/gen/mk.py). -/
import Derived.Test.YtohhlnabfcbknaaEvMd
import Derived.Test.YtohhlnabfcbknaaEvMc
import Derived.Test.YtohhlnabfcbknaaEvMe
import Derived.Test.YtohhlnabfcbknaaProg
import Derived.KernelRfl
namespace Go.Proofs.Ytohhlnabfcbknaa.Ev
open Go
set_option maxRecDepth 100000
set_option linter.unusedVariables false
def tyD3 : TyD := ⟨1, 8, false, [(.v (.int .i64 0))], none, false, (some .i64), []⟩
def tyD4 : TyD := ⟨1, 1, false, [(.v (.bool false))], none, false, none, []⟩
def tyD5 : TyD := ⟨1, 1, false, [(.v (.int .u8 0))], none, false, (some .u8), []⟩
def tyD22 : TyD := ⟨1, 24, false, [.em], (some 5), false, none, []⟩
def tyD23 : TyD := ⟨1, 24, false, [.em], (some 3), false, none, []⟩
def tyD25 : TyD := ⟨2, 32, true, [(.v (.bool false)), .em], none, false, none, [⟨0, 4, 1, false⟩, ⟨1, 23, 1, false⟩]⟩
def tyD51 : TyD := ⟨1, 8, false, [(.v (.int .u64 0))], none, false, (some .u64), []⟩
def tyD53 : TyD := ⟨3, 40, true, [.em, (.v (.int .i64 0)), (.v (.int .u64 0))], none, false, none, [⟨0, 22, 1, false⟩, ⟨1, 3, 1, false⟩, ⟨2, 51, 1, false⟩]⟩
def tyD58 : TyD := ⟨1, 24, false, [.em], (some 25), false, none, []⟩
def tyD69 : TyD := ⟨1, 8, false, [(.v (.int .u64 0))], none, false, (some .u64), []⟩
theorem ty3 : tyOf Try.prog 3 = some tyD3 := by kernel_rfl
theorem ty4 : tyOf Try.prog 4 = some tyD4 := by kernel_rfl
theorem ty5 : tyOf Try.prog 5 = some tyD5 := by kernel_rfl
theorem ty22 : tyOf Try.prog 22 = some tyD22 := by kernel_rfl
theorem ty23 : tyOf Try.prog 23 = some tyD23 := by kernel_rfl
theorem ty25 : tyOf Try.prog 25 = some tyD25 := by kernel_rfl
theorem ty51 : tyOf Try.prog 51 = some tyD51 := by kernel_rfl
theorem ty53 : tyOf Try.prog 53 = some tyD53 := by kernel_rfl
theorem ty58 : tyOf Try.prog 58 = some tyD58 := by kernel_rfl
theorem ty69 : tyOf Try.prog 69 = some tyD69 := by kernel_rfl
def tyTab : List (Nat × TyD) := [(3, tyD3), (4, tyD4), (5, tyD5), (22, tyD22), (23, tyD23), (25, tyD25), (51, tyD51), (53, tyD53), (58, tyD58), (69, tyD69)]
def codTab : List (Nat × Ty) := [(3, .int .i64), (5, .int .u8), (25, .pair (.bool) (.sl (.int .i64)))]
theorem tyOK : ∀ t d, getD tyTab t = some d → tyOf Try.prog t = some d := tab_ok (by unfold tyTab; exact ⟨ty3, ⟨ty4, ⟨ty5, ⟨ty22, ⟨ty23, ⟨ty25, ⟨ty51, ⟨ty53, ⟨ty58, ⟨ty69, trivial⟩⟩⟩⟩⟩⟩⟩⟩⟩⟩)
theorem bool4 : Try.prog.underlying 4 = some .bool := by kernel_rfl
theorem boolOK : ∀ t, ([4] : List Nat).contains t = true → Try.prog.underlying t = some .bool := by
  intro t h
  simp at h
  rcases h with rfl
  all_goals first | exact bool4
theorem eqOK : ∀ t, ([] : List Nat).contains t = true → EqOK Try.prog t := by
  intro t h
  simp at h
  try exact h.elim
def a_s_l1Cur_next : FAnn := ⟨79, 1, [.blk (.box 53 [.im (.int .u8), .int .i64, .int .u64]), .slot 0 (.ref 0 true)], [.blk (.box 53 [.im (.int .u8), .int .i64, .int .u64]), .slot 0 (.cell (.int .i64))],
  [],
  [],
  [(4, [.blk (.box 53 [.im (.int .u8), .int .i64, .int .u64]), .slot 0 (.ref 0 true), .slot 3 (.cell (.int .i64))])]⟩
def a_s_l1Cur_pick : FAnn := ⟨64, 1, [.blk (.box 53 [.im (.int .u8), .int .i64, .int .u64]), .slot 0 (.ref 0 true), .slot 1 (.cell (.int .i64))], [.blk (.box 53 [.im (.int .u8), .int .i64, .int .u64]), .slot 0 (.cell (.int .i64))],
  [],
  [],
  []⟩
def a_s_l1Cur_one : FAnn := ⟨38, 1, [.blk (.box 53 [.im (.int .u8), .int .i64, .int .u64]), .slot 0 (.ref 0 true), .slot 1 (.cell (.int .i64))], [.blk (.box 53 [.im (.int .u8), .int .i64, .int .u64]), .slot 0 (.cell (.bool))],
  [],
  [],
  []⟩
def a_s_l1Cur_among : FAnn := ⟨65, 1, [.blk (.box 53 [.im (.int .u8), .int .i64, .int .u64]), .slot 0 (.ref 0 true), .slot 1 (.cell (.im (.int .i64)))], [.blk (.box 53 [.im (.int .u8), .int .i64, .int .u64]), .slot 0 (.cell (.int .i64))],
  [],
  [],
  []⟩
def a_s_l1Cut : FAnn := ⟨50, 0, [.slot 0 (.cell (.im (.int .i64)))], [.blk (.arr 3 true (.int .i64)), .slot 0 (.ref 0 false)],
  [(1, [.slot 0 (.cell (.im (.int .i64)))])],
  [(1, [(.exit 0, [.slot 0 (.cell (.im (.int .i64)))])])],
  []⟩
def a_s_l1Make : FAnn := ⟨27, 0, [.slot 0 (.cell (.bool)), .slot 1 (.cell (.im (.int .i64)))], [.blk (.arr 3 true (.int .i64)), .slot 0 (.agg [.bool, .at 0])],
  [],
  [],
  []⟩
def a_s_l1Cur_big : FAnn := ⟨41, 1, [.blk (.box 53 [.im (.int .u8), .int .i64, .int .u64]), .slot 0 (.ref 0 true)], [.blk (.box 53 [.im (.int .u8), .int .i64, .int .u64]), .slot 0 (.agg [.bool, .im (.int .i64)])],
  [(5, [.blk (.box 53 [.im (.int .u8), .int .i64, .int .u64]), .blk (.box 25 [.bool, .im (.int .i64)]), .blk (.arr 3 true (.int .i64)), .slot 0 (.ref 0 true), .slot 2 (.ref 1 true), .slot 3 (.cell (.int .i64)), .slot 4 (.ref 2 false)])],
  [(5, [(.exit 0, [.blk (.box 53 [.im (.int .u8), .int .i64, .int .u64]), .blk (.box 25 [.bool, .im (.int .i64)]), .blk (.arr 3 true (.int .i64)), .slot 0 (.ref 0 true), .slot 2 (.ref 1 true), .slot 4 (.ref 2 false)])])],
  [(4, [.blk (.box 53 [.im (.int .u8), .int .i64, .int .u64]), .blk (.box 25 [.bool, .im (.int .i64)]), .slot 0 (.ref 0 true), .slot 2 (.ref 1 true), .slot 3 (.cell (.int .i64))])]⟩
def a_s_DrawCompareBig : FAnn := ⟨20, 0, [.slot 0 (.cell (.im (.int .u8)))], [.slot 0 (.agg [.bool, .im (.int .i64)]), .slot 1 (.agg [.bool, .im (.int .i64)])],
  [],
  [],
  []⟩
def a_s_DrawMulBig : FAnn := ⟨4, 0, [.slot 0 (.cell (.im (.int .u8)))], [.slot 0 (.agg [.bool, .im (.int .i64)]), .slot 1 (.agg [.bool, .im (.int .i64)])],
  [],
  [],
  []⟩
def a_i_within : FAnn := ⟨62, 0, [.slot 0 (.cell (.int .i64)), .slot 1 (.cell (.int .i64)), .slot 2 (.cell (.int .i64))], [.slot 0 (.cell (.bool))],
  [],
  [],
  []⟩
def a_i_GoodBig_1 : FAnn := ⟨61, 0, [.slot 0 (.cell (.int .i64))], [.slot 0 (.cell (.bool))],
  [],
  [],
  []⟩
def a_slices_IndexFunc_Sint_int : FAnn := ⟨77, 0, [.slot 0 (.cell (.im (.int .i64))), .slot 1 (.clo 61)], [.slot 0 (.cell (.int .i64))],
  [(2, [.slot 0 (.cell (.im (.int .i64))), .slot 1 (.clo 61), .slot 7 (.cell (.int .i64)), .slot 8 (.cell (.int .i64))])],
  [(2, [(.exit 0, []), (.ret, [.slot 4 (.cell (.int .i64))])])],
  []⟩
def a_slices_ContainsFunc_Sint_int : FAnn := ⟨60, 0, [.slot 0 (.cell (.im (.int .i64))), .slot 1 (.clo 61)], [.slot 0 (.cell (.bool))],
  [],
  [],
  []⟩
def a_i_GoodBig : FAnn := ⟨36, 0, [.slot 0 (.agg [.bool, .im (.int .i64)])], [.slot 0 (.cell (.bool))],
  [],
  [],
  []⟩
def a_i_areBig_1 : FAnn := ⟨46, 0, [.slot 0 (.agg [.bool, .im (.int .i64)])], [.slot 0 (.cell (.bool))],
  [],
  [],
  []⟩
def a_slices_IndexFunc_Si_Big_i_Big : FAnn := ⟨66, 0, [.slot 0 (.cell (.im (.pair (.bool) (.sl (.int .i64))))), .slot 1 (.clo 46)], [.slot 0 (.cell (.int .i64))],
  [(2, [.slot 0 (.cell (.im (.pair (.bool) (.sl (.int .i64))))), .slot 1 (.clo 46), .slot 7 (.cell (.int .i64)), .slot 8 (.cell (.int .i64))])],
  [(2, [(.exit 0, []), (.ret, [.slot 4 (.cell (.int .i64))])])],
  []⟩
def a_slices_ContainsFunc_Si_Big_i_Big : FAnn := ⟨45, 0, [.slot 0 (.cell (.im (.pair (.bool) (.sl (.int .i64))))), .slot 1 (.clo 46)], [.slot 0 (.cell (.bool))],
  [],
  [],
  []⟩
def a_i_areBig : FAnn := ⟨21, 0, [.slot 0 (.cell (.im (.pair (.bool) (.sl (.int .i64)))))], [.slot 0 (.cell (.bool))],
  [],
  [],
  []⟩
def a_i_cut : FAnn := ⟨68, 0, [.slot 0 (.cell (.im (.int .i64)))], [.slot 0 (.cell (.im (.int .i64)))],
  [(2, [.slot 0 (.cell (.im (.int .i64))), .slot 3 (.cell (.int .i64))])],
  [(2, [(.exit 0, [.slot 0 (.cell (.im (.int .i64))), .slot 3 (.cell (.int .i64))])])],
  []⟩
def a_slices_Clone_Sint_int : FAnn := ⟨67, 0, [.slot 0 (.cell (.im (.int .i64)))], [.blk (.arr 3 true (.int .i64)), .slot 0 (.ref 0 false)],
  [],
  [],
  []⟩
def a_i_bigOf : FAnn := ⟨47, 0, [.slot 0 (.cell (.bool)), .slot 1 (.cell (.im (.int .i64)))], [.blk (.arr 3 true (.int .i64)), .slot 0 (.agg [.bool, .at 0])],
  [],
  [],
  []⟩
def a_i_Big_mul : FAnn := ⟨23, 0, [.slot 0 (.agg [.bool, .im (.int .i64)]), .slot 1 (.agg [.bool, .im (.int .i64)])], [.blk (.arr 3 true (.int .i64)), .slot 0 (.agg [.bool, .at 0])],
  [(3, [.blk (.box 25 [.bool, .im (.int .i64)]), .blk (.box 25 [.bool, .im (.int .i64)]), .blk (.box 25 [.bool, .im (.int .i64)]), .blk (.arr 3 true (.int .i64)), .slot 2 (.ref 0 true), .slot 3 (.ref 1 true), .slot 4 (.ref 2 true), .slot 5 (.ref 3 false), .slot 20 (.cell (.im (.int .i64))), .slot 21 (.cell (.int .i64)), .slot 22 (.cell (.int .i64))]), (7, [.blk (.box 25 [.bool, .im (.int .i64)]), .blk (.box 25 [.bool, .im (.int .i64)]), .blk (.box 25 [.bool, .im (.int .i64)]), .blk (.arr 3 true (.int .i64)), .slot 2 (.ref 0 true), .slot 3 (.ref 1 true), .slot 4 (.ref 2 true), .slot 5 (.ref 3 false), .slot 6 (.cell (.int .i64)), .slot 7 (.cell (.int .i64)), .slot 8 (.cell (.int .i64)), .slot 20 (.cell (.im (.int .i64))), .slot 21 (.cell (.int .i64)), .slot 22 (.cell (.int .i64)), .slot 28 (.cell (.im (.int .i64))), .slot 29 (.cell (.int .i64)), .slot 30 (.cell (.int .i64))])],
  [(3, [(.exit 0, [.blk (.box 25 [.bool, .im (.int .i64)]), .blk (.box 25 [.bool, .im (.int .i64)]), .blk (.box 25 [.bool, .im (.int .i64)]), .blk (.arr 3 true (.int .i64)), .slot 2 (.ref 0 true), .slot 3 (.ref 1 true), .slot 4 (.ref 2 true), .slot 5 (.ref 3 false)])]), (7, [(.exit 2, [.blk (.box 25 [.bool, .im (.int .i64)]), .blk (.box 25 [.bool, .im (.int .i64)]), .blk (.box 25 [.bool, .im (.int .i64)]), .blk (.arr 3 true (.int .i64)), .slot 2 (.ref 0 true), .slot 3 (.ref 1 true), .slot 4 (.ref 2 true), .slot 5 (.ref 3 false), .slot 6 (.cell (.int .i64)), .slot 8 (.cell (.int .i64)), .slot 20 (.cell (.im (.int .i64))), .slot 21 (.cell (.int .i64)), .slot 22 (.cell (.int .i64))])])],
  []⟩
def a_i_checked : FAnn := ⟨22, 0, [.slot 0 (.agg [.bool, .im (.int .i64)])], [.slot 0 (.agg [.bool, .im (.int .i64)]), .slot 1 (.cell (.bool))],
  [],
  [],
  []⟩
def a_i_MulBig : FAnn := ⟨5, 0, [.slot 0 (.agg [.bool, .im (.int .i64)]), .slot 1 (.agg [.bool, .im (.int .i64)])], [.slot 0 (.agg [.bool, .im (.int .i64)]), .slot 1 (.cell (.bool))],
  [],
  [],
  []⟩
def a_s_l1In : FAnn := ⟨48, 0, [.slot 0 (.cell (.int .i64)), .slot 1 (.cell (.int .i64)), .slot 2 (.cell (.int .i64))], [.slot 0 (.cell (.bool))],
  [],
  [],
  []⟩
def a_s_GoodBig : FAnn := ⟨24, 0, [.slot 0 (.agg [.bool, .im (.int .i64)])], [.slot 0 (.cell (.bool))],
  [(2, [.blk (.box 25 [.bool, .im (.int .i64)]), .slot 1 (.ref 0 true), .slot 7 (.cell (.im (.int .i64))), .slot 8 (.cell (.int .i64)), .slot 9 (.cell (.int .i64))])],
  [(2, [(.exit 0, [.blk (.box 25 [.bool, .im (.int .i64)]), .slot 1 (.ref 0 true)]), (.ret, [.slot 2 (.cell (.bool))])])],
  []⟩
def a_s_l1Limb : FAnn := ⟨69, 0, [.slot 0 (.cell (.im (.int .i64))), .slot 1 (.cell (.int .i64))], [.slot 0 (.cell (.int .i64))],
  [],
  [],
  []⟩
def a_s_l1MulLimbs : FAnn := ⟨49, 0, [.slot 0 (.cell (.im (.int .i64))), .slot 1 (.cell (.im (.int .i64)))], [.blk (.arr 3 true (.int .i64)), .slot 0 (.ref 0 false)],
  [(3, [.blk (.arr 3 true (.int .i64)), .slot 1 (.cell (.im (.int .i64))), .slot 5 (.ref 0 false), .slot 18 (.cell (.im (.int .i64))), .slot 19 (.cell (.int .i64)), .slot 20 (.cell (.int .i64))]), (7, [.blk (.arr 3 true (.int .i64)), .slot 1 (.cell (.im (.int .i64))), .slot 5 (.ref 0 false), .slot 6 (.cell (.int .i64)), .slot 7 (.cell (.int .i64)), .slot 8 (.cell (.int .i64)), .slot 9 (.cell (.int .i64)), .slot 18 (.cell (.im (.int .i64))), .slot 19 (.cell (.int .i64)), .slot 20 (.cell (.int .i64))])],
  [(3, [(.exit 0, [.blk (.arr 3 true (.int .i64)), .slot 5 (.ref 0 false)])]), (7, [(.exit 2, [.blk (.arr 3 true (.int .i64)), .slot 1 (.cell (.im (.int .i64))), .slot 5 (.ref 0 false), .slot 18 (.cell (.im (.int .i64))), .slot 19 (.cell (.int .i64)), .slot 20 (.cell (.int .i64))])])],
  [(9, [.blk (.arr 3 true (.int .i64)), .slot 1 (.cell (.im (.int .i64))), .slot 5 (.ref 0 false), .slot 6 (.cell (.int .i64)), .slot 7 (.cell (.int .i64)), .slot 8 (.cell (.int .i64)), .slot 9 (.cell (.int .i64)), .slot 18 (.cell (.im (.int .i64))), .slot 19 (.cell (.int .i64)), .slot 20 (.cell (.int .i64))])]⟩
def a_s_l1Mul : FAnn := ⟨26, 0, [.slot 0 (.agg [.bool, .im (.int .i64)]), .slot 1 (.agg [.bool, .im (.int .i64)])], [.slot 0 (.agg [.bool, .im (.int .i64)])],
  [],
  [],
  []⟩
def a_s_l1Fits : FAnn := ⟨25, 0, [.slot 0 (.agg [.bool, .im (.int .i64)])], [.slot 0 (.agg [.bool, .im (.int .i64)]), .slot 1 (.cell (.bool))],
  [],
  [],
  []⟩
def a_s_MulBig : FAnn := ⟨6, 0, [.slot 0 (.agg [.bool, .im (.int .i64)]), .slot 1 (.agg [.bool, .im (.int .i64)])], [.slot 0 (.agg [.bool, .im (.int .i64)]), .slot 1 (.cell (.bool))],
  [],
  [],
  []⟩
def a_i_HalvesMul : FAnn := ⟨7, 0, [.slot 0 (.agg [.bool, .im (.int .i64)]), .slot 1 (.agg [.bool, .im (.int .i64)])], [.slot 0 (.agg [.bool, .im (.int .i64)]), .slot 1 (.cell (.bool))],
  [],
  [],
  []⟩
def a_s_l1Low : FAnn := ⟨51, 0, [.slot 0 (.cell (.im (.int .i64))), .slot 1 (.cell (.int .i64))], [.blk (.arr 3 true (.int .i64)), .slot 0 (.ref 0 false)],
  [],
  [],
  []⟩
def a_s_l1High : FAnn := ⟨52, 0, [.slot 0 (.cell (.im (.int .i64))), .slot 1 (.cell (.int .i64))], [.blk (.arr 3 true (.int .i64)), .slot 0 (.ref 0 false)],
  [],
  [],
  []⟩
def a_s_l1AddLimbs : FAnn := ⟨53, 0, [.slot 0 (.cell (.im (.int .i64))), .slot 1 (.cell (.im (.int .i64)))], [.blk (.arr 3 true (.int .i64)), .slot 0 (.ref 0 false)],
  [(4, [.blk (.arr 3 true (.int .i64)), .slot 0 (.cell (.im (.int .i64))), .slot 1 (.cell (.im (.int .i64))), .slot 5 (.ref 0 false), .slot 6 (.cell (.int .i64)), .slot 7 (.cell (.int .i64))])],
  [(4, [(.exit 0, [.blk (.arr 3 true (.int .i64)), .slot 5 (.ref 0 false)])])],
  [(6, [.blk (.arr 3 true (.int .i64)), .slot 0 (.cell (.im (.int .i64))), .slot 1 (.cell (.im (.int .i64))), .slot 5 (.ref 0 false), .slot 6 (.cell (.int .i64)), .slot 7 (.cell (.int .i64))])]⟩
def a_s_l1SubLimbs : FAnn := ⟨54, 0, [.slot 0 (.cell (.im (.int .i64))), .slot 1 (.cell (.im (.int .i64)))], [.blk (.arr 3 true (.int .i64)), .slot 0 (.ref 0 false)],
  [(4, [.blk (.arr 3 true (.int .i64)), .slot 0 (.cell (.im (.int .i64))), .slot 1 (.cell (.im (.int .i64))), .slot 5 (.ref 0 false), .slot 6 (.cell (.int .i64)), .slot 10 (.cell (.int .i64)), .slot 11 (.cell (.int .i64))])],
  [(4, [(.exit 0, [.blk (.arr 3 true (.int .i64)), .slot 5 (.ref 0 false)])])],
  []⟩
def a_s_l1Shift : FAnn := ⟨55, 0, [.slot 0 (.cell (.im (.int .i64))), .slot 1 (.cell (.int .i64))], [.blk (.arr 3 true (.int .i64)), .slot 0 (.ref 0 false)],
  [],
  [],
  []⟩
def a_s_l1Halves : FAnn := ⟨28, 0, [.slot 0 (.cell (.im (.int .i64))), .slot 1 (.cell (.im (.int .i64)))], [.blk (.arr 3 true (.int .i64)), .slot 0 (.ref 0 false)],
  [],
  [],
  [(4, [.slot 0 (.cell (.im (.int .i64))), .slot 1 (.cell (.im (.int .i64))), .slot 5 (.cell (.int .i64))])]⟩
def a_s_HalvesMul : FAnn := ⟨8, 0, [.slot 0 (.agg [.bool, .im (.int .i64)]), .slot 1 (.agg [.bool, .im (.int .i64)])], [.slot 0 (.agg [.bool, .im (.int .i64)]), .slot 1 (.cell (.bool))],
  [],
  [],
  []⟩
def a_i_Big_sign : FAnn := ⟨29, 0, [.slot 0 (.agg [.bool, .im (.int .i64)])], [.slot 0 (.cell (.int .i64))],
  [],
  [],
  []⟩
def a_cmp_isNaN_int : FAnn := ⟨78, 0, [.slot 0 (.cell (.int .i64))], [.slot 0 (.cell (.bool))],
  [],
  [],
  []⟩
def a_cmp_Compare_int : FAnn := ⟨63, 0, [.slot 0 (.cell (.int .i64)), .slot 1 (.cell (.int .i64))], [.slot 0 (.cell (.int .i64))],
  [],
  [],
  []⟩
def a_i_compareLimbs : FAnn := ⟨42, 0, [.slot 0 (.cell (.im (.int .i64))), .slot 1 (.cell (.im (.int .i64)))], [.slot 0 (.cell (.int .i64))],
  [(4, [.slot 0 (.cell (.im (.int .i64))), .slot 1 (.cell (.im (.int .i64))), .slot 5 (.cell (.int .i64))])],
  [(4, [(.exit 0, []), (.ret, [.slot 4 (.cell (.int .i64))])])],
  []⟩
def a_i_divSmall : FAnn := ⟨70, 0, [.slot 0 (.cell (.im (.int .i64))), .slot 1 (.cell (.int .i64))], [.slot 0 (.cell (.im (.int .i64))), .slot 1 (.cell (.int .i64))],
  [(4, [.blk (.arr 3 true (.int .i64)), .slot 0 (.cell (.im (.int .i64))), .slot 1 (.cell (.int .i64)), .slot 6 (.ref 0 false), .slot 7 (.cell (.int .i64)), .slot 8 (.cell (.int .i64))])],
  [(4, [(.exit 0, [.blk (.arr 3 true (.int .i64)), .slot 6 (.ref 0 false), .slot 7 (.cell (.int .i64))])])],
  []⟩
def a_i_BigOf : FAnn := ⟨43, 0, [.slot 0 (.cell (.int .i64))], [.slot 0 (.agg [.bool, .im (.int .i64)])],
  [(6, [.blk (.box 25 [.bool, .im (.int .i64)]), .blk (.arr 3 true (.int .i64)), .slot 2 (.ref 0 true), .slot 3 (.cell (.bool)), .slot 4 (.cell (.int .u64)), .slot 5 (.ref 1 false)])],
  [(6, [(.exit 0, [.blk (.box 25 [.bool, .im (.int .i64)]), .blk (.arr 3 true (.int .i64)), .slot 2 (.ref 0 true), .slot 3 (.cell (.bool)), .slot 5 (.ref 1 false)])])],
  [(5, [.blk (.box 25 [.bool, .im (.int .i64)]), .slot 2 (.ref 0 true), .slot 3 (.cell (.bool)), .slot 4 (.cell (.int .u64))])]⟩
def a_i_divLimbs : FAnn := ⟨56, 0, [.slot 0 (.cell (.im (.int .i64))), .slot 1 (.cell (.im (.int .i64)))], [.slot 0 (.cell (.im (.int .i64))), .slot 1 (.cell (.im (.int .i64)))],
  [(10, [.blk (.arr 3 true (.int .i64)), .blk (.arr 3 true (.int .i64)), .slot 0 (.cell (.im (.int .i64))), .slot 6 (.cell (.int .i64)), .slot 9 (.cell (.int .i64)), .slot 10 (.ref 0 false), .slot 11 (.ref 1 false)]), (14, [.blk (.arr 3 true (.int .i64)), .blk (.arr 3 true (.int .i64)), .blk (.arr 3 true (.int .i64)), .slot 6 (.cell (.int .i64)), .slot 9 (.cell (.int .i64)), .slot 10 (.ref 0 false), .slot 11 (.ref 1 false), .slot 12 (.ref 2 false), .slot 13 (.cell (.int .i64))]), (18, [.blk (.arr 3 true (.int .i64)), .blk (.arr 3 true (.int .i64)), .blk (.arr 3 true (.int .i64)), .slot 6 (.cell (.int .i64)), .slot 9 (.cell (.int .i64)), .slot 10 (.ref 0 false), .slot 11 (.ref 1 false), .slot 12 (.ref 2 false), .slot 13 (.cell (.int .i64)), .slot 15 (.cell (.int .i64)), .slot 16 (.cell (.int .i64))]), (23, [.blk (.arr 3 true (.int .i64)), .blk (.arr 3 true (.int .i64)), .blk (.arr 3 true (.int .i64)), .slot 6 (.cell (.int .i64)), .slot 9 (.cell (.int .i64)), .slot 10 (.ref 0 false), .slot 11 (.ref 1 false), .slot 12 (.ref 2 false), .slot 13 (.cell (.int .i64)), .slot 15 (.cell (.int .i64)), .slot 17 (.cell (.int .i64)), .slot 153 (.cell (.int .i64)), .slot 154 (.cell (.int .i64))]), (37, [.blk (.arr 3 true (.int .i64)), .blk (.arr 3 true (.int .i64)), .blk (.arr 3 true (.int .i64)), .slot 6 (.cell (.int .i64)), .slot 9 (.cell (.int .i64)), .slot 10 (.ref 0 false), .slot 11 (.ref 1 false), .slot 12 (.ref 2 false), .slot 13 (.cell (.int .i64)), .slot 15 (.cell (.int .i64)), .slot 20 (.cell (.int .i64)), .slot 208 (.cell (.int .i64)), .slot 209 (.cell (.int .i64))])],
  [(10, [(.exit 0, [.blk (.arr 3 true (.int .i64)), .blk (.arr 3 true (.int .i64)), .slot 6 (.cell (.int .i64)), .slot 9 (.cell (.int .i64)), .slot 10 (.ref 0 false), .slot 11 (.ref 1 false)])]), (14, [(.exit 2, [.blk (.arr 3 true (.int .i64)), .blk (.arr 3 true (.int .i64)), .slot 6 (.cell (.int .i64)), .slot 9 (.cell (.int .i64)), .slot 10 (.ref 0 false), .slot 12 (.ref 1 false)])]), (18, [(.exit 4, [.blk (.arr 3 true (.int .i64)), .blk (.arr 3 true (.int .i64)), .blk (.arr 3 true (.int .i64)), .slot 6 (.cell (.int .i64)), .slot 9 (.cell (.int .i64)), .slot 10 (.ref 0 false), .slot 11 (.ref 1 false), .slot 12 (.ref 2 false), .slot 13 (.cell (.int .i64)), .slot 15 (.cell (.int .i64))])]), (23, [(.exit 6, [.blk (.arr 3 true (.int .i64)), .blk (.arr 3 true (.int .i64)), .blk (.arr 3 true (.int .i64)), .slot 6 (.cell (.int .i64)), .slot 9 (.cell (.int .i64)), .slot 10 (.ref 0 false), .slot 11 (.ref 1 false), .slot 12 (.ref 2 false), .slot 13 (.cell (.int .i64)), .slot 15 (.cell (.int .i64)), .slot 17 (.cell (.int .i64))])]), (37, [(.exit 8, [.blk (.arr 3 true (.int .i64)), .blk (.arr 3 true (.int .i64)), .blk (.arr 3 true (.int .i64)), .slot 6 (.cell (.int .i64)), .slot 9 (.cell (.int .i64)), .slot 10 (.ref 0 false), .slot 11 (.ref 1 false), .slot 12 (.ref 2 false), .slot 13 (.cell (.int .i64)), .slot 15 (.cell (.int .i64)), .slot 20 (.cell (.int .i64))])])],
  [(19, [.blk (.arr 3 true (.int .i64)), .blk (.arr 3 true (.int .i64)), .blk (.arr 3 true (.int .i64)), .slot 6 (.cell (.int .i64)), .slot 9 (.cell (.int .i64)), .slot 10 (.ref 0 false), .slot 11 (.ref 1 false), .slot 12 (.ref 2 false), .slot 13 (.cell (.int .i64)), .slot 15 (.cell (.int .i64)), .slot 16 (.cell (.int .i64))]), (30, [.blk (.arr 3 true (.int .i64)), .blk (.arr 3 true (.int .i64)), .blk (.arr 3 true (.int .i64)), .slot 6 (.cell (.int .i64)), .slot 9 (.cell (.int .i64)), .slot 10 (.ref 0 false), .slot 11 (.ref 1 false), .slot 12 (.ref 2 false), .slot 13 (.cell (.int .i64)), .slot 15 (.cell (.int .i64)), .slot 17 (.cell (.int .i64)), .slot 18 (.cell (.int .i64)), .slot 19 (.cell (.int .i64)), .slot 153 (.cell (.int .i64)), .slot 154 (.cell (.int .i64))])]⟩
def a_i_Big_div : FAnn := ⟨30, 0, [.slot 0 (.agg [.bool, .im (.int .i64)]), .slot 1 (.agg [.bool, .im (.int .i64)])], [.slot 0 (.agg [.bool, .im (.int .i64)]), .slot 1 (.agg [.bool, .im (.int .i64)])],
  [],
  [],
  []⟩
def a_i_DivBig : FAnn := ⟨9, 0, [.slot 0 (.agg [.bool, .im (.int .i64)]), .slot 1 (.agg [.bool, .im (.int .i64)])], [.slot 0 (.agg [.bool, .im (.int .i64)]), .slot 1 (.agg [.bool, .im (.int .i64)]), .slot 2 (.cell (.bool))],
  [],
  [],
  []⟩
def a_s_l1Cmp : FAnn := ⟨44, 0, [.slot 0 (.cell (.im (.int .i64))), .slot 1 (.cell (.im (.int .i64)))], [.slot 0 (.cell (.int .i64))],
  [(6, [.slot 0 (.cell (.im (.int .i64))), .slot 1 (.cell (.im (.int .i64))), .slot 5 (.cell (.int .i64))])],
  [(6, [(.exit 0, []), (.ret, [.slot 4 (.cell (.int .i64))])])],
  []⟩
def a_s_l1Short : FAnn := ⟨71, 0, [.slot 0 (.cell (.im (.int .i64))), .slot 1 (.cell (.int .i64))], [.blk (.arr 3 true (.int .i64)), .blk (.arr 3 true (.int .i64)), .slot 0 (.ref 0 false), .slot 1 (.ref 1 false)],
  [(4, [.blk (.arr 3 true (.int .i64)), .slot 0 (.cell (.im (.int .i64))), .slot 1 (.cell (.int .i64)), .slot 6 (.ref 0 false), .slot 7 (.cell (.int .i64)), .slot 8 (.cell (.int .i64))])],
  [(4, [(.exit 0, [.blk (.arr 3 true (.int .i64)), .slot 6 (.ref 0 false), .slot 7 (.cell (.int .i64))])])],
  []⟩
def a_s_l1Up : FAnn := ⟨72, 0, [.slot 0 (.cell (.im (.int .i64))), .slot 1 (.cell (.int .i64))], [.blk (.arr 3 true (.int .i64)), .slot 0 (.ref 0 false)],
  [(3, [.blk (.arr 3 true (.int .i64)), .slot 1 (.cell (.int .i64)), .slot 5 (.ref 0 false), .slot 13 (.cell (.im (.int .i64))), .slot 14 (.cell (.int .i64)), .slot 15 (.cell (.int .i64))])],
  [(3, [(.exit 0, [.blk (.arr 3 true (.int .i64)), .slot 5 (.ref 0 false)])])],
  []⟩
def a_s_l1Guess : FAnn := ⟨73, 0, [.slot 0 (.cell (.im (.int .i64))), .slot 1 (.cell (.im (.int .i64))), .slot 2 (.cell (.int .i64))], [.slot 0 (.cell (.int .i64))],
  [(5, [.slot 0 (.cell (.im (.int .i64))), .slot 1 (.cell (.im (.int .i64))), .slot 2 (.cell (.int .i64)), .slot 7 (.cell (.int .i64)), .slot 9 (.cell (.int .i64)), .slot 10 (.cell (.int .i64))])],
  [(5, [(.exit 0, [.slot 9 (.cell (.int .i64))])])],
  [(6, [.slot 0 (.cell (.im (.int .i64))), .slot 1 (.cell (.im (.int .i64))), .slot 2 (.cell (.int .i64)), .slot 7 (.cell (.int .i64)), .slot 9 (.cell (.int .i64)), .slot 10 (.cell (.int .i64))])]⟩
def a_s_l1Less : FAnn := ⟨74, 1, [.blk (.arr 3 true (.int .i64)), .slot 0 (.ref 0 false), .slot 1 (.cell (.im (.int .i64))), .slot 2 (.cell (.int .i64)), .slot 3 (.cell (.int .i64))], [.blk (.arr 3 true (.int .i64)), .slot 0 (.cell (.int .i64))],
  [(3, [.blk (.arr 3 true (.int .i64)), .slot 0 (.ref 0 false), .slot 1 (.cell (.im (.int .i64))), .slot 2 (.cell (.int .i64)), .slot 3 (.cell (.int .i64)), .slot 9 (.cell (.int .i64)), .slot 10 (.cell (.int .i64))])],
  [(3, [(.exit 0, [.blk (.arr 3 true (.int .i64)), .slot 9 (.cell (.int .i64))])])],
  [(10, [.blk (.arr 3 true (.int .i64)), .slot 0 (.ref 0 false), .slot 1 (.cell (.im (.int .i64))), .slot 2 (.cell (.int .i64)), .slot 3 (.cell (.int .i64)), .slot 9 (.cell (.int .i64)), .slot 10 (.cell (.int .i64)), .slot 11 (.cell (.int .i64))])]⟩
def a_s_l1Back : FAnn := ⟨75, 1, [.blk (.arr 3 true (.int .i64)), .slot 0 (.ref 0 false), .slot 1 (.cell (.im (.int .i64))), .slot 2 (.cell (.int .i64))], [.blk (.arr 3 true (.int .i64))],
  [(2, [.blk (.arr 3 true (.int .i64)), .slot 0 (.ref 0 false), .slot 1 (.cell (.im (.int .i64))), .slot 2 (.cell (.int .i64)), .slot 6 (.cell (.int .i64)), .slot 7 (.cell (.int .i64))])],
  [(2, [(.exit 0, [.blk (.arr 3 true (.int .i64))])])],
  []⟩
def a_s_l1Down : FAnn := ⟨76, 0, [.slot 0 (.cell (.im (.int .i64))), .slot 1 (.cell (.int .i64))], [.blk (.arr 3 true (.int .i64)), .slot 0 (.ref 0 false)],
  [(3, [.blk (.arr 3 true (.int .i64)), .slot 0 (.cell (.im (.int .i64))), .slot 1 (.cell (.int .i64)), .slot 5 (.ref 0 false), .slot 11 (.cell (.int .i64)), .slot 12 (.cell (.int .i64))])],
  [(3, [(.exit 0, [.blk (.arr 3 true (.int .i64)), .slot 5 (.ref 0 false)])])],
  []⟩
def a_s_l1DivLimbs : FAnn := ⟨57, 0, [.slot 0 (.cell (.im (.int .i64))), .slot 1 (.cell (.im (.int .i64)))], [.blk (.arr 3 true (.int .i64)), .blk (.arr 3 true (.int .i64)), .slot 0 (.ref 0 false), .slot 1 (.ref 1 false)],
  [(7, [.blk (.arr 3 true (.int .i64)), .slot 0 (.ref 0 false), .slot 1 (.cell (.im (.int .i64))), .slot 6 (.cell (.int .i64))]), (13, [.blk (.arr 3 true (.int .i64)), .blk (.arr 3 true (.int .i64)), .blk (.arr 3 true (.int .i64)), .slot 6 (.cell (.int .i64)), .slot 7 (.ref 0 false), .slot 8 (.ref 1 false), .slot 9 (.ref 2 false), .slot 10 (.cell (.int .i64))])],
  [(7, [(.exit 0, [.blk (.arr 3 true (.int .i64)), .slot 0 (.ref 0 false), .slot 1 (.cell (.im (.int .i64))), .slot 6 (.cell (.int .i64))])]), (13, [(.exit 2, [.blk (.arr 3 true (.int .i64)), .blk (.arr 3 true (.int .i64)), .slot 6 (.cell (.int .i64)), .slot 7 (.ref 0 false), .slot 9 (.ref 1 false)])])],
  []⟩
def a_s_l1Div : FAnn := ⟨31, 0, [.slot 0 (.agg [.bool, .im (.int .i64)]), .slot 1 (.agg [.bool, .im (.int .i64)])], [.slot 0 (.agg [.bool, .im (.int .i64)]), .slot 1 (.agg [.bool, .im (.int .i64)])],
  [],
  [],
  []⟩
def a_s_DivBig : FAnn := ⟨10, 0, [.slot 0 (.agg [.bool, .im (.int .i64)]), .slot 1 (.agg [.bool, .im (.int .i64)])], [.slot 0 (.agg [.bool, .im (.int .i64)]), .slot 1 (.agg [.bool, .im (.int .i64)]), .slot 2 (.cell (.bool))],
  [],
  [],
  []⟩
def a_i_Big_gcd : FAnn := ⟨32, 0, [.slot 0 (.agg [.bool, .im (.int .i64)]), .slot 1 (.agg [.bool, .im (.int .i64)])], [.slot 0 (.agg [.bool, .im (.int .i64)])],
  [(2, [.blk (.box 25 [.bool, .im (.int .i64)]), .slot 4 (.ref 0 true), .slot 5 (.cell (.im (.int .i64))), .slot 6 (.cell (.im (.int .i64)))])],
  [(2, [(.exit 0, [.blk (.box 25 [.bool, .im (.int .i64)]), .slot 4 (.ref 0 true), .slot 5 (.cell (.im (.int .i64)))])])],
  []⟩
def a_i_GcdBig : FAnn := ⟨11, 0, [.slot 0 (.agg [.bool, .im (.int .i64)]), .slot 1 (.agg [.bool, .im (.int .i64)])], [.slot 0 (.agg [.bool, .im (.int .i64)]), .slot 1 (.cell (.bool))],
  [],
  [],
  []⟩
def a_s_l1Gcd : FAnn := ⟨33, 0, [.slot 0 (.cell (.im (.int .i64))), .slot 1 (.cell (.im (.int .i64)))], [.blk (.arr 3 true (.int .i64)), .slot 0 (.ref 0 false)],
  [(1, [.slot 0 (.cell (.im (.int .i64))), .slot 1 (.cell (.im (.int .i64)))])],
  [(1, [(.exit 0, [.slot 0 (.cell (.im (.int .i64)))])])],
  []⟩
def a_s_GcdBig : FAnn := ⟨12, 0, [.slot 0 (.agg [.bool, .im (.int .i64)]), .slot 1 (.agg [.bool, .im (.int .i64)])], [.slot 0 (.agg [.bool, .im (.int .i64)]), .slot 1 (.cell (.bool))],
  [],
  [],
  []⟩
def a_l_sameInts : FAnn := ⟨34, 0, [.slot 0 (.cell (.im (.int .i64))), .slot 1 (.cell (.im (.int .i64)))], [.slot 0 (.cell (.bool))],
  [(4, [.slot 0 (.cell (.im (.int .i64))), .slot 1 (.cell (.im (.int .i64))), .slot 12 (.cell (.int .i64)), .slot 13 (.cell (.int .i64))])],
  [(4, [(.exit 0, []), (.ret, [.slot 4 (.cell (.bool))])])],
  []⟩
def a_l_sameBig : FAnn := ⟨13, 0, [.slot 0 (.agg [.bool, .im (.int .i64)]), .slot 1 (.agg [.bool, .im (.int .i64)])], [.slot 0 (.cell (.bool))],
  [],
  [],
  []⟩
def a_l_zeroBig : FAnn := ⟨14, 0, [.slot 0 (.agg [.bool, .im (.int .i64)])], [.slot 0 (.cell (.bool))],
  [],
  [],
  []⟩
def a_i_addLimbs : FAnn := ⟨58, 0, [.slot 0 (.cell (.im (.int .i64))), .slot 1 (.cell (.im (.int .i64)))], [.blk (.arr 3 true (.int .i64)), .slot 0 (.ref 0 false)],
  [(4, [.blk (.arr 3 true (.int .i64)), .slot 0 (.cell (.im (.int .i64))), .slot 1 (.cell (.im (.int .i64))), .slot 5 (.ref 0 false), .slot 6 (.cell (.int .i64)), .slot 7 (.cell (.int .i64))])],
  [(4, [(.exit 0, [.blk (.arr 3 true (.int .i64)), .slot 5 (.ref 0 false)])])],
  [(6, [.blk (.arr 3 true (.int .i64)), .slot 0 (.cell (.im (.int .i64))), .slot 1 (.cell (.im (.int .i64))), .slot 5 (.ref 0 false), .slot 6 (.cell (.int .i64)), .slot 7 (.cell (.int .i64))]), (8, [.blk (.arr 3 true (.int .i64)), .slot 0 (.cell (.im (.int .i64))), .slot 1 (.cell (.im (.int .i64))), .slot 5 (.ref 0 false), .slot 6 (.cell (.int .i64)), .slot 7 (.cell (.int .i64))]), (10, [.blk (.arr 3 true (.int .i64)), .slot 0 (.cell (.im (.int .i64))), .slot 1 (.cell (.im (.int .i64))), .slot 5 (.ref 0 false), .slot 6 (.cell (.int .i64)), .slot 7 (.cell (.int .i64))])]⟩
def a_i_subLimbs : FAnn := ⟨59, 0, [.slot 0 (.cell (.im (.int .i64))), .slot 1 (.cell (.im (.int .i64)))], [.slot 0 (.cell (.im (.int .i64)))],
  [(4, [.blk (.arr 3 true (.int .i64)), .slot 1 (.cell (.im (.int .i64))), .slot 5 (.ref 0 false), .slot 6 (.cell (.int .i64)), .slot 11 (.cell (.int .i64)), .slot 12 (.cell (.int .i64))])],
  [(4, [(.exit 0, [.blk (.arr 3 true (.int .i64)), .slot 5 (.ref 0 false)])])],
  [(9, [.blk (.arr 3 true (.int .i64)), .slot 1 (.cell (.im (.int .i64))), .slot 5 (.ref 0 false), .slot 7 (.cell (.int .i64)), .slot 11 (.cell (.int .i64)), .slot 12 (.cell (.int .i64))])]⟩
def a_i_Big_add : FAnn := ⟨35, 0, [.slot 0 (.agg [.bool, .im (.int .i64)]), .slot 1 (.agg [.bool, .im (.int .i64)])], [.slot 0 (.agg [.bool, .im (.int .i64)])],
  [],
  [],
  []⟩
def a_i_AddBig : FAnn := ⟨15, 0, [.slot 0 (.agg [.bool, .im (.int .i64)]), .slot 1 (.agg [.bool, .im (.int .i64)])], [.slot 0 (.agg [.bool, .im (.int .i64)]), .slot 1 (.cell (.bool))],
  [],
  [],
  []⟩
def a_i_compareBig : FAnn := ⟨37, 0, [.slot 0 (.agg [.bool, .im (.int .i64)]), .slot 1 (.agg [.bool, .im (.int .i64)])], [.slot 0 (.cell (.int .i64))],
  [],
  [],
  []⟩
def a_i_CompareBig : FAnn := ⟨16, 0, [.slot 0 (.agg [.bool, .im (.int .i64)]), .slot 1 (.agg [.bool, .im (.int .i64)])], [.slot 0 (.cell (.int .i64)), .slot 1 (.cell (.bool))],
  [],
  [],
  []⟩
def a_s_l1Cur_anyInt : FAnn := ⟨40, 1, [.blk (.box 53 [.im (.int .u8), .int .i64, .int .u64]), .slot 0 (.ref 0 true)], [.blk (.box 53 [.im (.int .u8), .int .i64, .int .u64]), .slot 0 (.cell (.int .i64))],
  [],
  [],
  []⟩
def a_s_BigOf : FAnn := ⟨39, 0, [.slot 0 (.cell (.int .i64))], [.slot 0 (.agg [.bool, .im (.int .i64)])],
  [(3, [.blk (.box 25 [.bool, .im (.int .i64)]), .blk (.arr 3 true (.int .i64)), .slot 0 (.cell (.int .i64)), .slot 2 (.ref 0 true), .slot 3 (.ref 1 false), .slot 4 (.cell (.int .i64))])],
  [(3, [(.exit 0, [.blk (.box 25 [.bool, .im (.int .i64)]), .blk (.arr 3 true (.int .i64)), .slot 0 (.cell (.int .i64)), .slot 2 (.ref 0 true), .slot 3 (.ref 1 false)])])],
  []⟩
def a_s_DrawIntOf : FAnn := ⟨17, 0, [.slot 0 (.cell (.im (.int .u8)))], [.slot 0 (.agg [.bool, .im (.int .i64)])],
  [],
  [],
  []⟩
def a_i_IntOf : FAnn := ⟨18, 0, [.slot 0 (.agg [.bool, .im (.int .i64)])], [.slot 0 (.cell (.int .i64)), .slot 1 (.cell (.bool))],
  [(5, [.blk (.box 25 [.bool, .im (.int .i64)]), .slot 1 (.ref 0 true), .slot 4 (.cell (.int .i64)), .slot 5 (.cell (.int .i64))])],
  [(5, [(.exit 0, [.blk (.box 25 [.bool, .im (.int .i64)]), .slot 1 (.ref 0 true), .slot 4 (.cell (.int .i64))])])],
  []⟩
def a_s_IntOf : FAnn := ⟨19, 0, [.slot 0 (.agg [.bool, .im (.int .i64)])], [.slot 0 (.cell (.int .i64)), .slot 1 (.cell (.bool))],
  [(8, [.blk (.box 25 [.bool, .im (.int .i64)]), .slot 1 (.ref 0 true), .slot 5 (.cell (.int .i64)), .slot 6 (.cell (.int .i64))])],
  [(8, [(.exit 0, [.blk (.box 25 [.bool, .im (.int .i64)]), .slot 1 (.ref 0 true), .slot 5 (.cell (.int .i64))])])],
  []⟩
def a_l_FnProducts : FAnn := ⟨3, 0, [.slot 0 (.cell (.im (.int .u8))), .slot 1 (.cell (.im (.int .u8)))], [.slot 0 (.cell (.bool))],
  [],
  [],
  [(18, [.blk (.box 25 [.bool, .im (.int .i64)]), .blk (.box 25 [.bool, .im (.int .i64)]), .blk (.box 25 [.bool, .im (.int .i64)]), .blk (.box 25 [.bool, .im (.int .i64)]), .blk (.box 25 [.bool, .im (.int .i64)]), .slot 1 (.cell (.im (.int .u8))), .slot 5 (.ref 0 true), .slot 6 (.ref 1 true), .slot 15 (.ref 2 true), .slot 16 (.ref 3 true), .slot 17 (.cell (.bool)), .slot 21 (.ref 4 true), .slot 22 (.cell (.bool))]), (26, [.blk (.box 25 [.bool, .im (.int .i64)]), .blk (.box 25 [.bool, .im (.int .i64)]), .blk (.box 25 [.bool, .im (.int .i64)]), .slot 1 (.cell (.im (.int .u8))), .slot 5 (.ref 0 true), .slot 6 (.ref 1 true), .slot 21 (.ref 2 true), .slot 22 (.cell (.bool))]), (31, [.slot 1 (.cell (.im (.int .u8)))])]⟩
def annTab : List FAnn := [a_s_l1Cur_next, a_s_l1Cur_pick, a_s_l1Cur_one, a_s_l1Cur_among, a_s_l1Cut, a_s_l1Make, a_s_l1Cur_big, a_s_DrawCompareBig, a_s_DrawMulBig, a_i_within, a_i_GoodBig_1, a_slices_IndexFunc_Sint_int, a_slices_ContainsFunc_Sint_int, a_i_GoodBig, a_i_areBig_1, a_slices_IndexFunc_Si_Big_i_Big, a_slices_ContainsFunc_Si_Big_i_Big, a_i_areBig, a_i_cut, a_slices_Clone_Sint_int, a_i_bigOf, a_i_Big_mul, a_i_checked, a_i_MulBig, a_s_l1In, a_s_GoodBig, a_s_l1Limb, a_s_l1MulLimbs, a_s_l1Mul, a_s_l1Fits, a_s_MulBig, a_i_HalvesMul, a_s_l1Low, a_s_l1High, a_s_l1AddLimbs, a_s_l1SubLimbs, a_s_l1Shift, a_s_l1Halves, a_s_HalvesMul, a_i_Big_sign, a_cmp_isNaN_int, a_cmp_Compare_int, a_i_compareLimbs, a_i_divSmall, a_i_BigOf, a_i_divLimbs, a_i_Big_div, a_i_DivBig, a_s_l1Cmp, a_s_l1Short, a_s_l1Up, a_s_l1Guess, a_s_l1Less, a_s_l1Back, a_s_l1Down, a_s_l1DivLimbs, a_s_l1Div, a_s_DivBig, a_i_Big_gcd, a_i_GcdBig, a_s_l1Gcd, a_s_GcdBig, a_l_sameInts, a_l_sameBig, a_l_zeroBig, a_i_addLimbs, a_i_subLimbs, a_i_Big_add, a_i_AddBig, a_i_compareBig, a_i_CompareBig, a_s_l1Cur_anyInt, a_s_BigOf, a_s_DrawIntOf, a_i_IntOf, a_s_IntOf, a_l_FnProducts]
def noExt : Rel := fun _ _ _ _ _ => False
def cfC : Cfg := cfOf [a_slices_Clone_Sint_int] fun _ => false
def cloneTab : List (FuncId × TypeId × Nat × Bool) := [(67, 3, Ty.size (.int .i64), true)]
theorem cl_slices_Clone_Sint_int : CloneOK Try.prog (67, 3, Ty.size (.int .i64), true) := ⟨Try.f67, 23, 4, tyD23, tyD3, Try.func67, by kernel_rfl, by kernel_rfl, rfl, ty23, rfl, ty3, by kernel_rfl, rfl, rfl⟩
theorem clones_ok : ∀ x ∈ cloneTab, CloneOK Try.prog x := by
  intro x hx
  simp only [cloneTab, List.mem_cons, List.not_mem_nil, or_false] at hx
  rcases hx with rfl
  exact cl_slices_Clone_Sint_int
def ext0 : Rel := cloneRel (Runs Try.prog cfC noExt) cloneTab
theorem ext_spec {J : Tabs} : ∀ g args blks r blks', ext0 g args blks r blks' → CSpec Try.prog J g args blks r blks' := cloneRel_spec (by kernel_rfl) clones_ok
def cf0 : Cfg := cfOf annTab fun g => ([67] : List Nat).contains g
abbrev RR : Rel := Runs Try.prog cf0 ext0

/-- (*loop.example/g00409/spec.l1Cur).next -/
noncomputable def F_s_l1Cur_next (a0 : ((List Int) × (Int × Int))) : Option ((List (Int) × Int × Int) × Int) :=
  (bif decide (a0.2.1 < (((List.length a0.1) : Nat) : Int)) then
      ((getI a0.1 a0.2.1)).bind fun x0 =>
      some (Sum.inr ((a0.1, (a0.2.1, a0.2.2)), (Go.IntKind.wrap Go.IntKind.i64 x0)))
    else
    some (Sum.inr ((a0.1, (a0.2.1, a0.2.2)), (0 : Int)))).bind fun x1 =>
  Sum.elim
    (fun x2 =>
    some x2)
    (fun x3 =>
    bif decide ((Go.IntKind.wrap Go.IntKind.i64 (x3.1.2.1 + (1 : Int))) ≤ (((List.length x3.1.1) : Nat) : Int)) then
      some ((x3.1.1, ((Go.IntKind.wrap Go.IntKind.i64 (x3.1.2.1 + (1 : Int))), (Go.IntKind.wrap Go.IntKind.u64 ((Go.IntKind.wrap Go.IntKind.u64 ((Go.IntKind.wrap Go.IntKind.u64 (x3.1.2.2 * (6364136223846793005 : Int))) + (Go.IntKind.wrap Go.IntKind.u64 x3.2))) + (1442695040888963407 : Int))))), x3.2)
    else
    some ((x3.1.1, ((Go.IntKind.wrap Go.IntKind.i64 (x3.1.2.1 + (1 : Int))), (Go.IntKind.wrap Go.IntKind.u64 ((Go.IntKind.wrap Go.IntKind.u64 ((Go.IntKind.wrap Go.IntKind.u64 (x3.1.2.2 * (6364136223846793005 : Int))) + (Go.IntKind.wrap Go.IntKind.u64 x3.2))) + (1442695040888963407 : Int))))), (Go.IntKind.wrap Go.IntKind.i64 (andI Go.IntKind.u64 (shrI Go.IntKind.u64 (Go.IntKind.wrap Go.IntKind.u64 ((Go.IntKind.wrap Go.IntKind.u64 ((Go.IntKind.wrap Go.IntKind.u64 (x3.1.2.2 * (6364136223846793005 : Int))) + (Go.IntKind.wrap Go.IntKind.u64 x3.2))) + (1442695040888963407 : Int))) (40 : Int)) (255 : Int)))))
    x1
noncomputable def E_s_l1Cur_next : Ent := ⟨a_s_l1Cur_next, fun x => F_s_l1Cur_next x⟩
noncomputable def X_s_l1Cur_next : TX := ⟨tyTab, codTab, [], [4], [], a_s_l1Cur_next⟩
set_option maxHeartbeats 2000000 in
theorem W_s_l1Cur_next (a0 : (List (Int) × Int × Int)) : wtF X_s_l1Cur_next Try.f79 (a0) = F_s_l1Cur_next a0 := by kernel_rfl
theorem OK_s_l1Cur_next : EntOK RR E_s_l1Cur_next := fn_done (X := X_s_l1Cur_next) ⟨tyOK, boolOK, eqOK⟩ (ents_of (by exact trivial)) (cf_ok (by kernel_rfl)) ⟨Try.func79, rfl, by kernel_rfl, rfl⟩ (fun x => by exact W_s_l1Cur_next x)

/-- (*loop.example/g00409/spec.l1Cur).pick -/
noncomputable def F_s_l1Cur_pick (a0 : ((List Int) × (Int × Int))) (a1 : Int) : Option ((List (Int) × Int × Int) × Int) :=
  bif decide (a1 ≤ (1 : Int)) then
    some ((a0.1, (a0.2.1, a0.2.2)), (0 : Int))
  else
  ((F_s_l1Cur_next (a0.1, (a0.2.1, a0.2.2)))).bind fun x0 =>
  bif decide (a1 > (200 : Int)) then
    ((F_s_l1Cur_next (x0.1.1, (x0.1.2.1, x0.1.2.2)))).bind fun x1 =>
    bif (a1 == (0 : Int)) then
      none
    else
    some ((x1.1.1, (x1.1.2.1, x1.1.2.2)), (Int.tmod (Go.IntKind.wrap Go.IntKind.i64 ((Go.IntKind.wrap Go.IntKind.i64 (x0.2 * (256 : Int))) + x1.2)) a1))
  else
  bif (a1 == (0 : Int)) then
    none
  else
  some ((x0.1.1, (x0.1.2.1, x0.1.2.2)), (Int.tmod x0.2 a1))
noncomputable def E_s_l1Cur_pick : Ent := ⟨a_s_l1Cur_pick, fun x => F_s_l1Cur_pick x.1 x.2⟩
noncomputable def X_s_l1Cur_pick : TX := ⟨tyTab, codTab, [], [4], [E_s_l1Cur_next], a_s_l1Cur_pick⟩
set_option maxHeartbeats 2000000 in
theorem W_s_l1Cur_pick (a0 : (List (Int) × Int × Int)) (a1 : Int) : wtF X_s_l1Cur_pick Try.f64 (a0, a1) = F_s_l1Cur_pick a0 a1 := by kernel_rfl
theorem OK_s_l1Cur_pick : EntOK RR E_s_l1Cur_pick := fn_done (X := X_s_l1Cur_pick) ⟨tyOK, boolOK, eqOK⟩ (ents_of (by exact ⟨⟨OK_s_l1Cur_next, rfl⟩, trivial⟩)) (cf_ok (by kernel_rfl)) ⟨Try.func64, rfl, by kernel_rfl, rfl⟩ (fun x => by exact W_s_l1Cur_pick x.1 x.2)

/-- (*loop.example/g00409/spec.l1Cur).one -/
noncomputable def F_s_l1Cur_one (a0 : ((List Int) × (Int × Int))) (a1 : Int) : Option ((List (Int) × Int × Int) × Bool) :=
  ((F_s_l1Cur_pick (a0.1, (a0.2.1, a0.2.2)) a1)).bind fun x0 =>
  some ((x0.1.1, (x0.1.2.1, x0.1.2.2)), (x0.2 == (0 : Int)))
noncomputable def E_s_l1Cur_one : Ent := ⟨a_s_l1Cur_one, fun x => F_s_l1Cur_one x.1 x.2⟩
noncomputable def X_s_l1Cur_one : TX := ⟨tyTab, codTab, [], [4], [E_s_l1Cur_pick], a_s_l1Cur_one⟩
set_option maxHeartbeats 2000000 in
theorem W_s_l1Cur_one (a0 : (List (Int) × Int × Int)) (a1 : Int) : wtF X_s_l1Cur_one Try.f38 (a0, a1) = F_s_l1Cur_one a0 a1 := by kernel_rfl
theorem OK_s_l1Cur_one : EntOK RR E_s_l1Cur_one := fn_done (X := X_s_l1Cur_one) ⟨tyOK, boolOK, eqOK⟩ (ents_of (by exact ⟨⟨OK_s_l1Cur_pick, rfl⟩, trivial⟩)) (cf_ok (by kernel_rfl)) ⟨Try.func38, rfl, by kernel_rfl, rfl⟩ (fun x => by exact W_s_l1Cur_one x.1 x.2)

/-- (*loop.example/g00409/spec.l1Cur).among -/
noncomputable def F_s_l1Cur_among (a0 : ((List Int) × (Int × Int))) (a1 : (List Int)) : Option ((List (Int) × Int × Int) × Int) :=
  ((F_s_l1Cur_pick (a0.1, (a0.2.1, a0.2.2)) (((List.length a1) : Nat) : Int))).bind fun x0 =>
  ((getI a1 x0.2)).bind fun x1 =>
  some ((x0.1.1, (x0.1.2.1, x0.1.2.2)), x1)
noncomputable def E_s_l1Cur_among : Ent := ⟨a_s_l1Cur_among, fun x => F_s_l1Cur_among x.1 x.2⟩
noncomputable def X_s_l1Cur_among : TX := ⟨tyTab, codTab, [], [4], [E_s_l1Cur_pick], a_s_l1Cur_among⟩
set_option maxHeartbeats 2000000 in
theorem W_s_l1Cur_among (a0 : (List (Int) × Int × Int)) (a1 : List (Int)) : wtF X_s_l1Cur_among Try.f65 (a0, a1) = F_s_l1Cur_among a0 a1 := by kernel_rfl
theorem OK_s_l1Cur_among : EntOK RR E_s_l1Cur_among := fn_done (X := X_s_l1Cur_among) ⟨tyOK, boolOK, eqOK⟩ (ents_of (by exact ⟨⟨OK_s_l1Cur_pick, rfl⟩, trivial⟩)) (cf_ok (by kernel_rfl)) ⟨Try.func65, rfl, by kernel_rfl, rfl⟩ (fun x => by exact W_s_l1Cur_among x.1 x.2)

/-- loop.example/g00409/spec.l1Cut -/
noncomputable def B_s_l1Cut_0 (s0 : (List Int)) : Option ((List Int) ⊕ (List Int)) :=
  bif decide ((((List.length s0) : Nat) : Int) > (0 : Int)) then
    ((getI s0 (Go.IntKind.wrap Go.IntKind.i64 ((((List.length s0) : Nat) : Int) - (1 : Int))))).bind fun x0 =>
    bif (x0 == (0 : Int)) then
      ((subI (0 : Int) (Go.IntKind.wrap Go.IntKind.i64 ((((List.length s0) : Nat) : Int) - (1 : Int))) (List.length s0))).bind fun x1 =>
      some (Sum.inl (List.drop x1.1 (List.take x1.2 s0)))
    else
    some (Sum.inr s0)
  else
  some (Sum.inr s0)
noncomputable def F_s_l1Cut (a0 : (List Int)) : Option (List (Int)) :=
  (loopM (fun (s : (List Int)) => B_s_l1Cut_0 s) a0).bind fun x0 =>
  bif (roomI (List.length x0) 8 1) then
    some x0
  else
  none
noncomputable def E_s_l1Cut : Ent := ⟨a_s_l1Cut, fun x => F_s_l1Cut x⟩
noncomputable def X_s_l1Cut : TX := ⟨tyTab, codTab, [], [4], [], a_s_l1Cut⟩
set_option maxHeartbeats 2000000 in
theorem W_s_l1Cut (a0 : List (Int)) : wtF X_s_l1Cut Try.f50 (a0) = F_s_l1Cut a0 := by kernel_rfl
theorem OK_s_l1Cut : EntOK RR E_s_l1Cut := fn_done (X := X_s_l1Cut) ⟨tyOK, boolOK, eqOK⟩ (ents_of (by exact trivial)) (cf_ok (by kernel_rfl)) ⟨Try.func50, rfl, by kernel_rfl, rfl⟩ (fun x => by exact W_s_l1Cut x)

/-- loop.example/g00409/spec.l1Make -/
noncomputable def F_s_l1Make (a0 : Bool) (a1 : (List Int)) : Option (List (Int) × (Bool)) :=
  ((F_s_l1Cut a1)).bind fun x0 =>
  bif a0 then
    some (x0, decide ((((List.length x0) : Nat) : Int) > (0 : Int)))
  else
  some (x0, false)
noncomputable def E_s_l1Make : Ent := ⟨a_s_l1Make, fun x => F_s_l1Make x.1 x.2⟩
noncomputable def X_s_l1Make : TX := ⟨tyTab, codTab, [], [4], [E_s_l1Cut], a_s_l1Make⟩
set_option maxHeartbeats 2000000 in
theorem W_s_l1Make (a0 : Bool) (a1 : List (Int)) : wtF X_s_l1Make Try.f27 (a0, a1) = F_s_l1Make a0 a1 := by kernel_rfl
theorem OK_s_l1Make : EntOK RR E_s_l1Make := fn_done (X := X_s_l1Make) ⟨tyOK, boolOK, eqOK⟩ (ents_of (by exact ⟨⟨OK_s_l1Cut, rfl⟩, trivial⟩)) (cf_ok (by kernel_rfl)) ⟨Try.func27, rfl, by kernel_rfl, rfl⟩ (fun x => by exact W_s_l1Make x.1 x.2)

/-- (*loop.example/g00409/spec.l1Cur).big -/
noncomputable def B_s_l1Cur_big_0 (s0 : ((List Int) × (Int × Int))) (s1 : (Bool × (List Int))) (s2 : (List Int)) (s3 : Int) : Option ((((List Int) × (Int × Int)) × ((Bool × (List Int)) × ((List Int) × Int))) ⊕ (((List Int) × (Int × Int)) × ((Bool × (List Int)) × (List Int)))) :=
  bif decide (s3 > (0 : Int)) then
    ((F_s_l1Cur_pick (s0.1, (s0.2.1, s0.2.2)) (256 : Int))).bind fun x0 =>
    ((F_s_l1Cur_pick (x0.1.1, (x0.1.2.1, x0.1.2.2)) (256 : Int))).bind fun x1 =>
    ((F_s_l1Cur_among (x1.1.1, (x1.1.2.1, x1.1.2.2)) (List.cons (0 : Int) (List.cons (1 : Int) (List.cons (65535 : Int) (List.cons (32768 : Int) (List.cons (Go.IntKind.wrap Go.IntKind.i64 ((Go.IntKind.wrap Go.IntKind.i64 ((256 : Int) * x0.2)) + x1.2)) (List.cons (7 : Int) List.nil)))))))).bind fun x2 =>
    ((appL 8 1 s2 (List.cons x2.2 List.nil))).bind fun x3 =>
    some (Sum.inl ((x2.1.1, (x2.1.2.1, x2.1.2.2)), ((s1.1, s1.2), (x3, (Go.IntKind.wrap Go.IntKind.i64 (s3 - (1 : Int)))))))
  else
  some (Sum.inr ((s0.1, (s0.2.1, s0.2.2)), ((s1.1, s1.2), s2)))
noncomputable def F_s_l1Cur_big (a0 : ((List Int) × (Int × Int))) : Option ((List (Int) × Int × Int) × (Bool × List (Int))) :=
  ((F_s_l1Cur_pick (a0.1, (a0.2.1, a0.2.2)) (6 : Int))).bind fun x0 =>
  (((F_s_l1Cur_one (x0.1.1, (x0.1.2.1, x0.1.2.2)) (12 : Int))).bind fun x1 =>
    bif x1.2 then
      ((F_s_l1Cur_among (x1.1.1, (x1.1.2.1, x1.1.2.2)) (List.cons (20 : Int) (List.cons (39 : Int) (List.cons (40 : Int) (List.cons (41 : Int) List.nil)))))).bind fun x2 =>
      some (Sum.inr ((x2.1.1, (x2.1.2.1, x2.1.2.2)), ((false, List.nil), x2.2)))
    else
    some (Sum.inr ((x1.1.1, (x1.1.2.1, x1.1.2.2)), ((false, List.nil), x0.2)))).bind fun x3 =>
  Sum.elim
    (fun x4 =>
    some x4)
    (fun x5 =>
    (loopM (fun (s : (((List Int) × (Int × Int)) × ((Bool × (List Int)) × ((List Int) × Int)))) => B_s_l1Cur_big_0 s.1 s.2.1 s.2.2.1 s.2.2.2) ((x5.1.1, (x5.1.2.1, x5.1.2.2)), ((x5.2.1.1, x5.2.1.2), (List.nil, x5.2.2)))).bind fun x6 =>
    ((F_s_l1Cur_one (x6.1.1, (x6.1.2.1, x6.1.2.2)) (3 : Int))).bind fun x7 =>
    ((F_s_l1Make x7.2 x6.2.2)).bind fun x8 =>
    ((F_s_l1Cur_one (x7.1.1, (x7.1.2.1, x7.1.2.2)) (40 : Int))).bind fun x9 =>
    bif x9.2 then
      ((F_s_l1Cur_among (x9.1.1, (x9.1.2.1, x9.1.2.2)) (List.cons (0 : Int) (List.cons (-(1 : Int)) (List.cons (65536 : Int) List.nil))))).bind fun x10 =>
      ((appL 8 1 x8.1 (List.cons x10.2 List.nil))).bind fun x11 =>
      some ((x10.1.1, (x10.1.2.1, x10.1.2.2)), (x8.2, x11))
    else
    some ((x9.1.1, (x9.1.2.1, x9.1.2.2)), (x8.2, x8.1)))
    x3
noncomputable def E_s_l1Cur_big : Ent := ⟨a_s_l1Cur_big, fun x => F_s_l1Cur_big x⟩
noncomputable def X_s_l1Cur_big : TX := ⟨tyTab, codTab, [], [4], [E_s_l1Cur_pick, E_s_l1Cur_one, E_s_l1Cur_among, E_s_l1Make], a_s_l1Cur_big⟩
set_option maxHeartbeats 2000000 in
theorem W_s_l1Cur_big (a0 : (List (Int) × Int × Int)) : wtF X_s_l1Cur_big Try.f41 (a0) = F_s_l1Cur_big a0 := by kernel_rfl
theorem OK_s_l1Cur_big : EntOK RR E_s_l1Cur_big := fn_done (X := X_s_l1Cur_big) ⟨tyOK, boolOK, eqOK⟩ (ents_of (by exact ⟨⟨OK_s_l1Cur_pick, rfl⟩, ⟨⟨OK_s_l1Cur_one, rfl⟩, ⟨⟨OK_s_l1Cur_among, rfl⟩, ⟨⟨OK_s_l1Make, rfl⟩, trivial⟩⟩⟩⟩)) (cf_ok (by kernel_rfl)) ⟨Try.func41, rfl, by kernel_rfl, rfl⟩ (fun x => by exact W_s_l1Cur_big x)

/-- loop.example/g00409/spec.DrawCompareBig -/
noncomputable def F_s_DrawCompareBig (a0 : (List Int)) : Option ((Bool × List (Int)) × (Bool × List (Int))) :=
  ((F_s_l1Cur_big (a0, ((0 : Int), (0 : Int))))).bind fun x0 =>
  ((F_s_l1Cur_one (x0.1.1, (x0.1.2.1, x0.1.2.2)) (4 : Int))).bind fun x1 =>
  bif x1.2 then
    some ((x0.2.1, x0.2.2), (x0.2.1, x0.2.2))
  else
  ((F_s_l1Cur_big (x1.1.1, (x1.1.2.1, x1.1.2.2)))).bind fun x2 =>
  some ((x0.2.1, x0.2.2), (x2.2.1, x2.2.2))
noncomputable def E_s_DrawCompareBig : Ent := ⟨a_s_DrawCompareBig, fun x => F_s_DrawCompareBig x⟩
noncomputable def X_s_DrawCompareBig : TX := ⟨tyTab, codTab, [], [4], [E_s_l1Cur_big, E_s_l1Cur_one], a_s_DrawCompareBig⟩
set_option maxHeartbeats 2000000 in
theorem W_s_DrawCompareBig (a0 : List (Int)) : wtF X_s_DrawCompareBig Try.f20 (a0) = F_s_DrawCompareBig a0 := by kernel_rfl
theorem OK_s_DrawCompareBig : EntOK RR E_s_DrawCompareBig := fn_done (X := X_s_DrawCompareBig) ⟨tyOK, boolOK, eqOK⟩ (ents_of (by exact ⟨⟨OK_s_l1Cur_big, rfl⟩, ⟨⟨OK_s_l1Cur_one, rfl⟩, trivial⟩⟩)) (cf_ok (by kernel_rfl)) ⟨Try.func20, rfl, by kernel_rfl, rfl⟩ (fun x => by exact W_s_DrawCompareBig x)

/-- loop.example/g00409/spec.DrawMulBig -/
noncomputable def F_s_DrawMulBig (a0 : (List Int)) : Option ((Bool × List (Int)) × (Bool × List (Int))) :=
  ((F_s_DrawCompareBig a0)).bind fun x0 =>
  some ((x0.1.1, x0.1.2), (x0.2.1, x0.2.2))
noncomputable def E_s_DrawMulBig : Ent := ⟨a_s_DrawMulBig, fun x => F_s_DrawMulBig x⟩
noncomputable def X_s_DrawMulBig : TX := ⟨tyTab, codTab, [], [4], [E_s_DrawCompareBig], a_s_DrawMulBig⟩
set_option maxHeartbeats 2000000 in
theorem W_s_DrawMulBig (a0 : List (Int)) : wtF X_s_DrawMulBig Try.f4 (a0) = F_s_DrawMulBig a0 := by kernel_rfl
theorem OK_s_DrawMulBig : EntOK RR E_s_DrawMulBig := fn_done (X := X_s_DrawMulBig) ⟨tyOK, boolOK, eqOK⟩ (ents_of (by exact ⟨⟨OK_s_DrawCompareBig, rfl⟩, trivial⟩)) (cf_ok (by kernel_rfl)) ⟨Try.func4, rfl, by kernel_rfl, rfl⟩ (fun x => by exact W_s_DrawMulBig x)

/-- loop.example/g00409/impl.within -/
noncomputable def F_i_within (a0 : Int) (a1 : Int) (a2 : Int) : Option (Bool) :=
  bif decide (a0 ≥ a1) then
    some (decide (a0 ≤ a2))
  else
  some false
noncomputable def E_i_within : Ent := ⟨a_i_within, fun x => F_i_within x.1 x.2.1 x.2.2⟩
noncomputable def X_i_within : TX := ⟨tyTab, codTab, [], [4], [], a_i_within⟩
set_option maxHeartbeats 2000000 in
theorem W_i_within (a0 : Int) (a1 : Int) (a2 : Int) : wtF X_i_within Try.f62 (a0, a1, a2) = F_i_within a0 a1 a2 := by kernel_rfl
theorem OK_i_within : EntOK RR E_i_within := fn_done (X := X_i_within) ⟨tyOK, boolOK, eqOK⟩ (ents_of (by exact trivial)) (cf_ok (by kernel_rfl)) ⟨Try.func62, rfl, by kernel_rfl, rfl⟩ (fun x => by exact W_i_within x.1 x.2.1 x.2.2)

/-- loop.example/g00409/impl.GoodBig$1 -/
noncomputable def F_i_GoodBig_1 (a0 : Int) : Option (Bool) :=
  ((F_i_within a0 (0 : Int) (65535 : Int))).bind fun x0 =>
  some (!x0)
noncomputable def E_i_GoodBig_1 : Ent := ⟨a_i_GoodBig_1, fun x => F_i_GoodBig_1 x⟩
noncomputable def X_i_GoodBig_1 : TX := ⟨tyTab, codTab, [], [4], [E_i_within], a_i_GoodBig_1⟩
set_option maxHeartbeats 2000000 in
theorem W_i_GoodBig_1 (a0 : Int) : wtF X_i_GoodBig_1 Try.f61 (a0) = F_i_GoodBig_1 a0 := by kernel_rfl
theorem OK_i_GoodBig_1 : EntOK RR E_i_GoodBig_1 := fn_done (X := X_i_GoodBig_1) ⟨tyOK, boolOK, eqOK⟩ (ents_of (by exact ⟨⟨OK_i_within, rfl⟩, trivial⟩)) (cf_ok (by kernel_rfl)) ⟨Try.func61, rfl, by kernel_rfl, rfl⟩ (fun x => by exact W_i_GoodBig_1 x)

/-- slices.IndexFunc[[]int,int] -/
noncomputable def B_slices_IndexFunc_Sint_int_0 (s0 : (List Int)) (s1 : Int) (s2 : Int) : Option (((List Int) × (Int × Int)) ⊕ (Unit ⊕ Int)) :=
  bif decide (s2 < s1) then
    ((getI s0 s2)).bind fun x0 =>
    ((F_i_GoodBig_1 x0)).bind fun x1 =>
    bif x1 then
      some (Sum.inr (Sum.inr s2))
    else
    some (Sum.inl (s0, (s1, (Go.IntKind.wrap Go.IntKind.i64 (s2 + (1 : Int))))))
  else
  some (Sum.inr (Sum.inl ()))
noncomputable def F_slices_IndexFunc_Sint_int (a0 : (List Int)) : Option (Int) :=
  (loopM (fun (s : ((List Int) × (Int × Int))) => B_slices_IndexFunc_Sint_int_0 s.1 s.2.1 s.2.2) (a0, ((((List.length a0) : Nat) : Int), (0 : Int)))).bind fun x0 =>
  Sum.elim
    (fun x1 =>
    some (-(1 : Int)))
    (fun x2 =>
    some x2)
    x0
noncomputable def E_slices_IndexFunc_Sint_int : Ent := ⟨a_slices_IndexFunc_Sint_int, fun x => F_slices_IndexFunc_Sint_int x⟩
noncomputable def X_slices_IndexFunc_Sint_int : TX := ⟨tyTab, codTab, [], [4], [E_i_GoodBig_1], a_slices_IndexFunc_Sint_int⟩
set_option maxHeartbeats 2000000 in
theorem W_slices_IndexFunc_Sint_int (a0 : List (Int)) : wtF X_slices_IndexFunc_Sint_int Try.f77 (a0) = F_slices_IndexFunc_Sint_int a0 := by kernel_rfl
theorem OK_slices_IndexFunc_Sint_int : EntOK RR E_slices_IndexFunc_Sint_int := fn_done (X := X_slices_IndexFunc_Sint_int) ⟨tyOK, boolOK, eqOK⟩ (ents_of (by exact ⟨⟨OK_i_GoodBig_1, rfl⟩, trivial⟩)) (cf_ok (by kernel_rfl)) ⟨Try.func77, rfl, by kernel_rfl, rfl⟩ (fun x => by exact W_slices_IndexFunc_Sint_int x)

/-- slices.ContainsFunc[[]int,int] -/
noncomputable def F_slices_ContainsFunc_Sint_int (a0 : (List Int)) : Option (Bool) :=
  ((F_slices_IndexFunc_Sint_int a0)).bind fun x0 =>
  some (decide (x0 ≥ (0 : Int)))
noncomputable def E_slices_ContainsFunc_Sint_int : Ent := ⟨a_slices_ContainsFunc_Sint_int, fun x => F_slices_ContainsFunc_Sint_int x⟩
noncomputable def X_slices_ContainsFunc_Sint_int : TX := ⟨tyTab, codTab, [], [4], [E_slices_IndexFunc_Sint_int], a_slices_ContainsFunc_Sint_int⟩
set_option maxHeartbeats 2000000 in
theorem W_slices_ContainsFunc_Sint_int (a0 : List (Int)) : wtF X_slices_ContainsFunc_Sint_int Try.f60 (a0) = F_slices_ContainsFunc_Sint_int a0 := by kernel_rfl
theorem OK_slices_ContainsFunc_Sint_int : EntOK RR E_slices_ContainsFunc_Sint_int := fn_done (X := X_slices_ContainsFunc_Sint_int) ⟨tyOK, boolOK, eqOK⟩ (ents_of (by exact ⟨⟨OK_slices_IndexFunc_Sint_int, rfl⟩, trivial⟩)) (cf_ok (by kernel_rfl)) ⟨Try.func60, rfl, by kernel_rfl, rfl⟩ (fun x => by exact W_slices_ContainsFunc_Sint_int x)

/-- loop.example/g00409/impl.GoodBig -/
noncomputable def F_i_GoodBig (a0 : (Bool × (List Int))) : Option (Bool) :=
  bif decide ((((List.length a0.2) : Nat) : Int) > (40 : Int)) then
    some false
  else
  bif ((((List.length a0.2) : Nat) : Int) == (0 : Int)) then
    bif a0.1 then
      some false
    else
    bif decide ((((List.length a0.2) : Nat) : Int) > (0 : Int)) then
      ((getI a0.2 (Go.IntKind.wrap Go.IntKind.i64 ((((List.length a0.2) : Nat) : Int) - (1 : Int))))).bind fun x0 =>
      bif (x0 == (0 : Int)) then
        some false
      else
      ((F_slices_ContainsFunc_Sint_int a0.2)).bind fun x1 =>
      some (!x1)
    else
    ((F_slices_ContainsFunc_Sint_int a0.2)).bind fun x2 =>
    some (!x2)
  else
  bif decide ((((List.length a0.2) : Nat) : Int) > (0 : Int)) then
    ((getI a0.2 (Go.IntKind.wrap Go.IntKind.i64 ((((List.length a0.2) : Nat) : Int) - (1 : Int))))).bind fun x3 =>
    bif (x3 == (0 : Int)) then
      some false
    else
    ((F_slices_ContainsFunc_Sint_int a0.2)).bind fun x4 =>
    some (!x4)
  else
  ((F_slices_ContainsFunc_Sint_int a0.2)).bind fun x5 =>
  some (!x5)
noncomputable def E_i_GoodBig : Ent := ⟨a_i_GoodBig, fun x => F_i_GoodBig x⟩
noncomputable def X_i_GoodBig : TX := ⟨tyTab, codTab, [], [4], [E_slices_ContainsFunc_Sint_int], a_i_GoodBig⟩
set_option maxHeartbeats 2000000 in
theorem W_i_GoodBig (a0 : (Bool × List (Int))) : wtF X_i_GoodBig Try.f36 (a0) = F_i_GoodBig a0 := by kernel_rfl
theorem OK_i_GoodBig : EntOK RR E_i_GoodBig := fn_done (X := X_i_GoodBig) ⟨tyOK, boolOK, eqOK⟩ (ents_of (by exact ⟨⟨OK_slices_ContainsFunc_Sint_int, rfl⟩, trivial⟩)) (cf_ok (by kernel_rfl)) ⟨Try.func36, rfl, by kernel_rfl, rfl⟩ (fun x => by exact W_i_GoodBig x)

/-- loop.example/g00409/impl.areBig$1 -/
noncomputable def F_i_areBig_1 (a0 : (Bool × (List Int))) : Option (Bool) :=
  ((F_i_GoodBig (a0.1, a0.2))).bind fun x0 =>
  some (!x0)
noncomputable def E_i_areBig_1 : Ent := ⟨a_i_areBig_1, fun x => F_i_areBig_1 x⟩
noncomputable def X_i_areBig_1 : TX := ⟨tyTab, codTab, [], [4], [E_i_GoodBig], a_i_areBig_1⟩
set_option maxHeartbeats 2000000 in
theorem W_i_areBig_1 (a0 : (Bool × List (Int))) : wtF X_i_areBig_1 Try.f46 (a0) = F_i_areBig_1 a0 := by kernel_rfl
theorem OK_i_areBig_1 : EntOK RR E_i_areBig_1 := fn_done (X := X_i_areBig_1) ⟨tyOK, boolOK, eqOK⟩ (ents_of (by exact ⟨⟨OK_i_GoodBig, rfl⟩, trivial⟩)) (cf_ok (by kernel_rfl)) ⟨Try.func46, rfl, by kernel_rfl, rfl⟩ (fun x => by exact W_i_areBig_1 x)

/-- slices.IndexFunc[[]loop.example/g00409/impl.Big,loop.example/g00409/impl.Big] -/
noncomputable def B_slices_IndexFunc_Si_Big_i_Big_0 (s0 : (List (Bool × (List Int)))) (s1 : Int) (s2 : Int) : Option (((List (Bool × (List Int))) × (Int × Int)) ⊕ (Unit ⊕ Int)) :=
  bif decide (s2 < s1) then
    ((getI s0 s2)).bind fun x0 =>
    ((F_i_areBig_1 (x0.1, x0.2))).bind fun x1 =>
    bif x1 then
      some (Sum.inr (Sum.inr s2))
    else
    some (Sum.inl (s0, (s1, (Go.IntKind.wrap Go.IntKind.i64 (s2 + (1 : Int))))))
  else
  some (Sum.inr (Sum.inl ()))
noncomputable def F_slices_IndexFunc_Si_Big_i_Big (a0 : (List (Bool × (List Int)))) : Option (Int) :=
  (loopM (fun (s : ((List (Bool × (List Int))) × (Int × Int))) => B_slices_IndexFunc_Si_Big_i_Big_0 s.1 s.2.1 s.2.2) (a0, ((((List.length a0) : Nat) : Int), (0 : Int)))).bind fun x0 =>
  Sum.elim
    (fun x1 =>
    some (-(1 : Int)))
    (fun x2 =>
    some x2)
    x0
noncomputable def E_slices_IndexFunc_Si_Big_i_Big : Ent := ⟨a_slices_IndexFunc_Si_Big_i_Big, fun x => F_slices_IndexFunc_Si_Big_i_Big x⟩
noncomputable def X_slices_IndexFunc_Si_Big_i_Big : TX := ⟨tyTab, codTab, [], [4], [E_i_areBig_1], a_slices_IndexFunc_Si_Big_i_Big⟩
set_option maxHeartbeats 2000000 in
theorem W_slices_IndexFunc_Si_Big_i_Big (a0 : List ((Bool × List (Int)))) : wtF X_slices_IndexFunc_Si_Big_i_Big Try.f66 (a0) = F_slices_IndexFunc_Si_Big_i_Big a0 := by kernel_rfl
theorem OK_slices_IndexFunc_Si_Big_i_Big : EntOK RR E_slices_IndexFunc_Si_Big_i_Big := fn_done (X := X_slices_IndexFunc_Si_Big_i_Big) ⟨tyOK, boolOK, eqOK⟩ (ents_of (by exact ⟨⟨OK_i_areBig_1, rfl⟩, trivial⟩)) (cf_ok (by kernel_rfl)) ⟨Try.func66, rfl, by kernel_rfl, rfl⟩ (fun x => by exact W_slices_IndexFunc_Si_Big_i_Big x)

/-- slices.ContainsFunc[[]loop.example/g00409/impl.Big,loop.example/g00409/impl.Big] -/
noncomputable def F_slices_ContainsFunc_Si_Big_i_Big (a0 : (List (Bool × (List Int)))) : Option (Bool) :=
  ((F_slices_IndexFunc_Si_Big_i_Big a0)).bind fun x0 =>
  some (decide (x0 ≥ (0 : Int)))
noncomputable def E_slices_ContainsFunc_Si_Big_i_Big : Ent := ⟨a_slices_ContainsFunc_Si_Big_i_Big, fun x => F_slices_ContainsFunc_Si_Big_i_Big x⟩
noncomputable def X_slices_ContainsFunc_Si_Big_i_Big : TX := ⟨tyTab, codTab, [], [4], [E_slices_IndexFunc_Si_Big_i_Big], a_slices_ContainsFunc_Si_Big_i_Big⟩
set_option maxHeartbeats 2000000 in
theorem W_slices_ContainsFunc_Si_Big_i_Big (a0 : List ((Bool × List (Int)))) : wtF X_slices_ContainsFunc_Si_Big_i_Big Try.f45 (a0) = F_slices_ContainsFunc_Si_Big_i_Big a0 := by kernel_rfl
theorem OK_slices_ContainsFunc_Si_Big_i_Big : EntOK RR E_slices_ContainsFunc_Si_Big_i_Big := fn_done (X := X_slices_ContainsFunc_Si_Big_i_Big) ⟨tyOK, boolOK, eqOK⟩ (ents_of (by exact ⟨⟨OK_slices_IndexFunc_Si_Big_i_Big, rfl⟩, trivial⟩)) (cf_ok (by kernel_rfl)) ⟨Try.func45, rfl, by kernel_rfl, rfl⟩ (fun x => by exact W_slices_ContainsFunc_Si_Big_i_Big x)

/-- loop.example/g00409/impl.areBig -/
noncomputable def F_i_areBig (a0 : (List (Bool × (List Int)))) : Option (Bool) :=
  ((F_slices_ContainsFunc_Si_Big_i_Big a0)).bind fun x0 =>
  some (!x0)
noncomputable def E_i_areBig : Ent := ⟨a_i_areBig, fun x => F_i_areBig x⟩
noncomputable def X_i_areBig : TX := ⟨tyTab, codTab, [], [4], [E_slices_ContainsFunc_Si_Big_i_Big], a_i_areBig⟩
set_option maxHeartbeats 2000000 in
theorem W_i_areBig (a0 : List ((Bool × List (Int)))) : wtF X_i_areBig Try.f21 (a0) = F_i_areBig a0 := by kernel_rfl
theorem OK_i_areBig : EntOK RR E_i_areBig := fn_done (X := X_i_areBig) ⟨tyOK, boolOK, eqOK⟩ (ents_of (by exact ⟨⟨OK_slices_ContainsFunc_Si_Big_i_Big, rfl⟩, trivial⟩)) (cf_ok (by kernel_rfl)) ⟨Try.func21, rfl, by kernel_rfl, rfl⟩ (fun x => by exact W_i_areBig x)

/-- loop.example/g00409/impl.cut -/
noncomputable def B_i_cut_0 (s0 : (List Int)) (s1 : Int) : Option (((List Int) × Int) ⊕ ((List Int) × Int)) :=
  bif decide (s1 > (0 : Int)) then
    ((getI s0 (Go.IntKind.wrap Go.IntKind.i64 (s1 - (1 : Int))))).bind fun x0 =>
    bif (x0 == (0 : Int)) then
      some (Sum.inl (s0, (Go.IntKind.wrap Go.IntKind.i64 (s1 - (1 : Int)))))
    else
    some (Sum.inr (s0, s1))
  else
  some (Sum.inr (s0, s1))
noncomputable def F_i_cut (a0 : (List Int)) : Option (List (Int)) :=
  (loopM (fun (s : ((List Int) × Int)) => B_i_cut_0 s.1 s.2) (a0, (((List.length a0) : Nat) : Int))).bind fun x0 =>
  ((subI (0 : Int) x0.2 (List.length x0.1))).bind fun x1 =>
  some (List.drop x1.1 (List.take x1.2 x0.1))
noncomputable def E_i_cut : Ent := ⟨a_i_cut, fun x => F_i_cut x⟩
noncomputable def X_i_cut : TX := ⟨tyTab, codTab, [], [4], [], a_i_cut⟩
set_option maxHeartbeats 2000000 in
theorem W_i_cut (a0 : List (Int)) : wtF X_i_cut Try.f68 (a0) = F_i_cut a0 := by kernel_rfl
theorem OK_i_cut : EntOK RR E_i_cut := fn_done (X := X_i_cut) ⟨tyOK, boolOK, eqOK⟩ (ents_of (by exact trivial)) (cf_ok (by kernel_rfl)) ⟨Try.func68, rfl, by kernel_rfl, rfl⟩ (fun x => by exact W_i_cut x)

/-- slices.Clone[[]int,int] -/
noncomputable def F_slices_Clone_Sint_int_ne (a0 : (List Int)) : Option (List (Int)) :=
  ((neL a0)).bind fun x0 =>
  bif (roomI (List.length a0) 8 1) then
    some a0
  else
  none
noncomputable def E_slices_Clone_Sint_int_ne : Ent := ⟨a_slices_Clone_Sint_int, fun x => F_slices_Clone_Sint_int_ne x⟩
noncomputable def X_slices_Clone_Sint_int : TX := ⟨tyTab, codTab, [], [4], [], a_slices_Clone_Sint_int⟩
set_option maxHeartbeats 2000000 in
theorem W_slices_Clone_Sint_int (a0 : List (Int)) : wtF X_slices_Clone_Sint_int Try.f67 a0 = F_slices_Clone_Sint_int_ne a0 := by kernel_rfl
theorem OKn_slices_Clone_Sint_int : EntOK (Runs Try.prog cfC noExt) E_slices_Clone_Sint_int_ne := fn_done (X := X_slices_Clone_Sint_int) ⟨tyOK, boolOK, eqOK⟩ (ents_nil rfl) (cf_ok (by kernel_rfl)) ⟨Try.func67, rfl, by kernel_rfl, rfl⟩ (fun x => by exact W_slices_Clone_Sint_int x)
noncomputable def F_slices_Clone_Sint_int (a0 : List (Int)) : Option (List (Int)) := orNil F_slices_Clone_Sint_int_ne a0
noncomputable def E_slices_Clone_Sint_int : Ent := ⟨a_slices_Clone_Sint_int, fun x => F_slices_Clone_Sint_int x⟩
theorem OK_slices_Clone_Sint_int : EntOK RR E_slices_Clone_Sint_int := clone_ent OKn_slices_Clone_Sint_int (.head _)

/-- loop.example/g00409/impl.bigOf -/
noncomputable def F_i_bigOf (a0 : Bool) (a1 : (List Int)) : Option (List (Int) × (Bool)) :=
  ((F_i_cut a1)).bind fun x0 =>
  ((F_slices_Clone_Sint_int x0)).bind fun x1 =>
  bif a0 then
    some (x1, decide ((((List.length x1) : Nat) : Int) > (0 : Int)))
  else
  some (x1, false)
noncomputable def E_i_bigOf : Ent := ⟨a_i_bigOf, fun x => F_i_bigOf x.1 x.2⟩
noncomputable def X_i_bigOf : TX := ⟨tyTab, codTab, [], [4], [E_i_cut, E_slices_Clone_Sint_int], a_i_bigOf⟩
set_option maxHeartbeats 2000000 in
theorem W_i_bigOf (a0 : Bool) (a1 : List (Int)) : wtF X_i_bigOf Try.f47 (a0, a1) = F_i_bigOf a0 a1 := by kernel_rfl
theorem OK_i_bigOf : EntOK RR E_i_bigOf := fn_done (X := X_i_bigOf) ⟨tyOK, boolOK, eqOK⟩ (ents_of (by exact ⟨⟨OK_i_cut, rfl⟩, ⟨⟨OK_slices_Clone_Sint_int, rfl⟩, trivial⟩⟩)) (cf_ok (by kernel_rfl)) ⟨Try.func47, rfl, by kernel_rfl, rfl⟩ (fun x => by exact W_i_bigOf x.1 x.2)

/-- (loop.example/g00409/impl.Big).mul -/
noncomputable def B_i_Big_mul_1 (s0 : (Bool × (List Int))) (s1 : (Bool × (List Int))) (s2 : (Bool × (List Int))) (s3 : (List Int)) (s4 : Int) (s5 : Int) (s6 : Int) (s7 : (List Int)) (s8 : Int) (s9 : Int) (s10 : (List Int)) (s11 : Int) (s12 : Int) : Option (((Bool × (List Int)) × ((Bool × (List Int)) × ((Bool × (List Int)) × ((List Int) × (Int × (Int × (Int × ((List Int) × (Int × (Int × ((List Int) × (Int × Int)))))))))))) ⊕ ((Bool × (List Int)) × ((Bool × (List Int)) × ((Bool × (List Int)) × ((List Int) × (Int × (Int × ((List Int) × (Int × Int))))))))) :=
  bif decide (s12 < s11) then
    ((getI s10 s12)).bind fun x0 =>
    ((idxI (Go.IntKind.wrap Go.IntKind.i64 (s4 + s12)) (List.length s3))).bind fun x1 =>
    ((getN s3 x1)).bind fun x2 =>
    ((idxI (Go.IntKind.wrap Go.IntKind.i64 (s4 + s12)) (List.length s3))).bind fun x3 =>
    ((getN s3 x3)).bind fun x4 =>
    some (Sum.inl ((s0.1, s0.2), ((s1.1, s1.2), ((s2.1, s2.2), ((List.set s3 x3 (Int.tmod (Go.IntKind.wrap Go.IntKind.i64 (s6 + (Go.IntKind.wrap Go.IntKind.i64 (x2 + (Go.IntKind.wrap Go.IntKind.i64 (s5 * x0)))))) (65536 : Int))), (s4, (s5, ((Go.IntKind.wrap Go.IntKind.i64 (Int.tdiv (Go.IntKind.wrap Go.IntKind.i64 (s6 + (Go.IntKind.wrap Go.IntKind.i64 (x2 + (Go.IntKind.wrap Go.IntKind.i64 (s5 * x0)))))) (65536 : Int))), (s7, (s8, (s9, (s10, (s11, (Go.IntKind.wrap Go.IntKind.i64 (s12 + (1 : Int))))))))))))))))
  else
  some (Sum.inr ((s0.1, s0.2), ((s1.1, s1.2), ((s2.1, s2.2), (s3, (s4, (s6, (s7, (s8, s9)))))))))
noncomputable def B_i_Big_mul_0 (s0 : (Bool × (List Int))) (s1 : (Bool × (List Int))) (s2 : (Bool × (List Int))) (s3 : (List Int)) (s4 : (List Int)) (s5 : Int) (s6 : Int) : Option (((Bool × (List Int)) × ((Bool × (List Int)) × ((Bool × (List Int)) × ((List Int) × ((List Int) × (Int × Int)))))) ⊕ ((Bool × (List Int)) × ((Bool × (List Int)) × ((Bool × (List Int)) × (List Int))))) :=
  bif decide (s6 < s5) then
    ((getI s4 s6)).bind fun x0 =>
    (loopM (fun (s : ((Bool × (List Int)) × ((Bool × (List Int)) × ((Bool × (List Int)) × ((List Int) × (Int × (Int × (Int × ((List Int) × (Int × (Int × ((List Int) × (Int × Int))))))))))))) => B_i_Big_mul_1 s.1 s.2.1 s.2.2.1 s.2.2.2.1 s.2.2.2.2.1 s.2.2.2.2.2.1 s.2.2.2.2.2.2.1 s.2.2.2.2.2.2.2.1 s.2.2.2.2.2.2.2.2.1 s.2.2.2.2.2.2.2.2.2.1 s.2.2.2.2.2.2.2.2.2.2.1 s.2.2.2.2.2.2.2.2.2.2.2.1 s.2.2.2.2.2.2.2.2.2.2.2.2) ((s0.1, s0.2), ((s1.1, s1.2), ((s2.1, s2.2), (s3, (s6, (x0, ((0 : Int), (s4, (s5, (s6, (s1.2, ((((List.length s1.2) : Nat) : Int), (0 : Int)))))))))))))).bind fun x1 =>
    ((idxI (Go.IntKind.wrap Go.IntKind.i64 (x1.2.2.2.2.1 + (((List.length x1.2.1.2) : Nat) : Int))) (List.length x1.2.2.2.1))).bind fun x2 =>
    ((getN x1.2.2.2.1 x2)).bind fun x3 =>
    ((idxI (Go.IntKind.wrap Go.IntKind.i64 (x1.2.2.2.2.1 + (((List.length x1.2.1.2) : Nat) : Int))) (List.length x1.2.2.2.1))).bind fun x4 =>
    ((getN x1.2.2.2.1 x4)).bind fun x5 =>
    some (Sum.inl ((x1.1.1, x1.1.2), ((x1.2.1.1, x1.2.1.2), ((x1.2.2.1.1, x1.2.2.1.2), ((List.set x1.2.2.2.1 x4 (Go.IntKind.wrap Go.IntKind.i64 (x3 + x1.2.2.2.2.2.1))), (x1.2.2.2.2.2.2.1, (x1.2.2.2.2.2.2.2.1, (Go.IntKind.wrap Go.IntKind.i64 (x1.2.2.2.2.2.2.2.2 + (1 : Int))))))))))
  else
  some (Sum.inr ((s0.1, s0.2), ((s1.1, s1.2), ((s2.1, s2.2), s3))))
noncomputable def F_i_Big_mul (a0 : (Bool × (List Int))) (a1 : (Bool × (List Int))) : Option (List (Int) × (Bool)) :=
  ((lenI (Go.IntKind.wrap Go.IntKind.i64 ((((List.length a0.2) : Nat) : Int) + (((List.length a1.2) : Nat) : Int))) 8 1)).bind fun x0 =>
  (loopM (fun (s : ((Bool × (List Int)) × ((Bool × (List Int)) × ((Bool × (List Int)) × ((List Int) × ((List Int) × (Int × Int))))))) => B_i_Big_mul_0 s.1 s.2.1 s.2.2.1 s.2.2.2.1 s.2.2.2.2.1 s.2.2.2.2.2.1 s.2.2.2.2.2.2) ((a0.1, a0.2), ((a1.1, a1.2), ((false, List.nil), ((List.replicate x0 (0 : Int)), (a0.2, ((((List.length a0.2) : Nat) : Int), (0 : Int)))))))).bind fun x1 =>
  ((F_i_bigOf (!(x1.1.1 == x1.2.1.1)) x1.2.2.2)).bind fun x2 =>
  some (x2.1, x2.2)
noncomputable def E_i_Big_mul : Ent := ⟨a_i_Big_mul, fun x => F_i_Big_mul x.1 x.2⟩
noncomputable def X_i_Big_mul : TX := ⟨tyTab, codTab, [], [4], [E_i_bigOf], a_i_Big_mul⟩
set_option maxHeartbeats 2000000 in
theorem W_i_Big_mul (a0 : (Bool × List (Int))) (a1 : (Bool × List (Int))) : wtF X_i_Big_mul Try.f23 (a0, a1) = F_i_Big_mul a0 a1 := by kernel_rfl
theorem OK_i_Big_mul : EntOK RR E_i_Big_mul := fn_done (X := X_i_Big_mul) ⟨tyOK, boolOK, eqOK⟩ (ents_of (by exact ⟨⟨OK_i_bigOf, rfl⟩, trivial⟩)) (cf_ok (by kernel_rfl)) ⟨Try.func23, rfl, by kernel_rfl, rfl⟩ (fun x => by exact W_i_Big_mul x.1 x.2)

/-- loop.example/g00409/impl.checked -/
noncomputable def F_i_checked (a0 : (Bool × (List Int))) : Option ((Bool × List (Int)) × Bool) :=
  bif decide ((((List.length a0.2) : Nat) : Int) > (40 : Int)) then
    some ((false, List.nil), false)
  else
  some ((a0.1, a0.2), true)
noncomputable def E_i_checked : Ent := ⟨a_i_checked, fun x => F_i_checked x⟩
noncomputable def X_i_checked : TX := ⟨tyTab, codTab, [], [4], [], a_i_checked⟩
set_option maxHeartbeats 2000000 in
theorem W_i_checked (a0 : (Bool × List (Int))) : wtF X_i_checked Try.f22 (a0) = F_i_checked a0 := by kernel_rfl
theorem OK_i_checked : EntOK RR E_i_checked := fn_done (X := X_i_checked) ⟨tyOK, boolOK, eqOK⟩ (ents_of (by exact trivial)) (cf_ok (by kernel_rfl)) ⟨Try.func22, rfl, by kernel_rfl, rfl⟩ (fun x => by exact W_i_checked x)

/-- loop.example/g00409/impl.MulBig -/
noncomputable def F_i_MulBig (a0 : (Bool × (List Int))) (a1 : (Bool × (List Int))) : Option ((Bool × List (Int)) × Bool) :=
  ((F_i_areBig (List.cons (a0.1, a0.2) (List.cons (a1.1, a1.2) List.nil)))).bind fun x0 =>
  bif (!x0) then
    some ((false, List.nil), false)
  else
  ((F_i_Big_mul (a0.1, a0.2) (a1.1, a1.2))).bind fun x1 =>
  ((F_i_checked (x1.2, x1.1))).bind fun x2 =>
  some ((x2.1.1, x2.1.2), x2.2)
noncomputable def E_i_MulBig : Ent := ⟨a_i_MulBig, fun x => F_i_MulBig x.1 x.2⟩
noncomputable def X_i_MulBig : TX := ⟨tyTab, codTab, [], [4], [E_i_areBig, E_i_Big_mul, E_i_checked], a_i_MulBig⟩
set_option maxHeartbeats 2000000 in
theorem W_i_MulBig (a0 : (Bool × List (Int))) (a1 : (Bool × List (Int))) : wtF X_i_MulBig Try.f5 (a0, a1) = F_i_MulBig a0 a1 := by kernel_rfl
theorem OK_i_MulBig : EntOK RR E_i_MulBig := fn_done (X := X_i_MulBig) ⟨tyOK, boolOK, eqOK⟩ (ents_of (by exact ⟨⟨OK_i_areBig, rfl⟩, ⟨⟨OK_i_Big_mul, rfl⟩, ⟨⟨OK_i_checked, rfl⟩, trivial⟩⟩⟩)) (cf_ok (by kernel_rfl)) ⟨Try.func5, rfl, by kernel_rfl, rfl⟩ (fun x => by exact W_i_MulBig x.1 x.2)

/-- loop.example/g00409/spec.l1In -/
noncomputable def F_s_l1In (a0 : Int) (a1 : Int) (a2 : Int) : Option (Bool) :=
  bif decide (a0 ≥ a1) then
    some (decide (a0 ≤ a2))
  else
  some false
noncomputable def E_s_l1In : Ent := ⟨a_s_l1In, fun x => F_s_l1In x.1 x.2.1 x.2.2⟩
noncomputable def X_s_l1In : TX := ⟨tyTab, codTab, [], [4], [], a_s_l1In⟩
set_option maxHeartbeats 2000000 in
theorem W_s_l1In (a0 : Int) (a1 : Int) (a2 : Int) : wtF X_s_l1In Try.f48 (a0, a1, a2) = F_s_l1In a0 a1 a2 := by kernel_rfl
theorem OK_s_l1In : EntOK RR E_s_l1In := fn_done (X := X_s_l1In) ⟨tyOK, boolOK, eqOK⟩ (ents_of (by exact trivial)) (cf_ok (by kernel_rfl)) ⟨Try.func48, rfl, by kernel_rfl, rfl⟩ (fun x => by exact W_s_l1In x.1 x.2.1 x.2.2)

/-- loop.example/g00409/spec.GoodBig -/
noncomputable def B_s_GoodBig_0 (s0 : (Bool × (List Int))) (s1 : (List Int)) (s2 : Int) (s3 : Int) : Option (((Bool × (List Int)) × ((List Int) × (Int × Int))) ⊕ ((Bool × (List Int)) ⊕ Bool)) :=
  bif decide (s3 < s2) then
    ((getI s1 s3)).bind fun x0 =>
    ((F_s_l1In x0 (0 : Int) (65535 : Int))).bind fun x1 =>
    bif (!x1) then
      some (Sum.inr (Sum.inr false))
    else
    some (Sum.inl ((s0.1, s0.2), (s1, (s2, (Go.IntKind.wrap Go.IntKind.i64 (s3 + (1 : Int)))))))
  else
  some (Sum.inr (Sum.inl (s0.1, s0.2)))
noncomputable def F_s_GoodBig (a0 : (Bool × (List Int))) : Option (Bool) :=
  (loopM (fun (s : ((Bool × (List Int)) × ((List Int) × (Int × Int)))) => B_s_GoodBig_0 s.1 s.2.1 s.2.2.1 s.2.2.2) ((a0.1, a0.2), (a0.2, ((((List.length a0.2) : Nat) : Int), (0 : Int))))).bind fun x0 =>
  Sum.elim
    (fun x1 =>
    bif ((((List.length x1.2) : Nat) : Int) == (0 : Int)) then
      some (!x1.1)
    else
    bif decide ((((List.length x1.2) : Nat) : Int) ≤ (40 : Int)) then
      ((getI x1.2 (Go.IntKind.wrap Go.IntKind.i64 ((((List.length x1.2) : Nat) : Int) - (1 : Int))))).bind fun x2 =>
      some (x2 != (0 : Int))
    else
    some false)
    (fun x3 =>
    some x3)
    x0
noncomputable def E_s_GoodBig : Ent := ⟨a_s_GoodBig, fun x => F_s_GoodBig x⟩
noncomputable def X_s_GoodBig : TX := ⟨tyTab, codTab, [], [4], [E_s_l1In], a_s_GoodBig⟩
set_option maxHeartbeats 2000000 in
theorem W_s_GoodBig (a0 : (Bool × List (Int))) : wtF X_s_GoodBig Try.f24 (a0) = F_s_GoodBig a0 := by kernel_rfl
theorem OK_s_GoodBig : EntOK RR E_s_GoodBig := fn_done (X := X_s_GoodBig) ⟨tyOK, boolOK, eqOK⟩ (ents_of (by exact ⟨⟨OK_s_l1In, rfl⟩, trivial⟩)) (cf_ok (by kernel_rfl)) ⟨Try.func24, rfl, by kernel_rfl, rfl⟩ (fun x => by exact W_s_GoodBig x)

/-- loop.example/g00409/spec.l1Limb -/
noncomputable def F_s_l1Limb (a0 : (List Int)) (a1 : Int) : Option (Int) :=
  bif decide (a1 < (((List.length a0) : Nat) : Int)) then
    ((getI a0 a1)).bind fun x0 =>
    some x0
  else
  some (0 : Int)
noncomputable def E_s_l1Limb : Ent := ⟨a_s_l1Limb, fun x => F_s_l1Limb x.1 x.2⟩
noncomputable def X_s_l1Limb : TX := ⟨tyTab, codTab, [], [4], [], a_s_l1Limb⟩
set_option maxHeartbeats 2000000 in
theorem W_s_l1Limb (a0 : List (Int)) (a1 : Int) : wtF X_s_l1Limb Try.f69 (a0, a1) = F_s_l1Limb a0 a1 := by kernel_rfl
theorem OK_s_l1Limb : EntOK RR E_s_l1Limb := fn_done (X := X_s_l1Limb) ⟨tyOK, boolOK, eqOK⟩ (ents_of (by exact trivial)) (cf_ok (by kernel_rfl)) ⟨Try.func69, rfl, by kernel_rfl, rfl⟩ (fun x => by exact W_s_l1Limb x.1 x.2)

/-- loop.example/g00409/spec.l1MulLimbs -/
noncomputable def B_s_l1MulLimbs_1 (s0 : (List Int)) (s1 : (List Int)) (s2 : Int) (s3 : Int) (s4 : Int) (s5 : Int) (s6 : (List Int)) (s7 : Int) (s8 : Int) : Option (((List Int) × ((List Int) × (Int × (Int × (Int × (Int × ((List Int) × (Int × Int)))))))) ⊕ ((List Int) × ((List Int) × ((List Int) × (Int × Int))))) :=
  (bif decide (s5 < (((List.length s1) : Nat) : Int)) then
      some (Sum.inr (s0, (s1, (s2, (s3, (s4, (s5, (s6, (s7, s8)))))))))
    else
    bif decide (s4 > (0 : Int)) then
      some (Sum.inr (s0, (s1, (s2, (s3, (s4, (s5, (s6, (s7, s8)))))))))
    else
    some (Sum.inl (Sum.inr (s0, (s1, (s6, (s7, s8))))))).bind fun x0 =>
  Sum.elim
    (fun x1 =>
    some x1)
    (fun x2 =>
    ((idxI (Go.IntKind.wrap Go.IntKind.i64 (x2.2.2.1 + x2.2.2.2.2.2.1)) (List.length x2.1))).bind fun x3 =>
    ((getN x2.1 x3)).bind fun x4 =>
    ((F_s_l1Limb x2.2.1 x2.2.2.2.2.2.1)).bind fun x5 =>
    ((idxI (Go.IntKind.wrap Go.IntKind.i64 (x2.2.2.1 + x2.2.2.2.2.2.1)) (List.length x2.1))).bind fun x6 =>
    ((getN x2.1 x6)).bind fun x7 =>
    some (Sum.inl ((List.set x2.1 x6 (Int.tmod (Go.IntKind.wrap Go.IntKind.i64 ((Go.IntKind.wrap Go.IntKind.i64 (x4 + (Go.IntKind.wrap Go.IntKind.i64 (x2.2.2.2.1 * x5)))) + x2.2.2.2.2.1)) (65536 : Int))), (x2.2.1, (x2.2.2.1, (x2.2.2.2.1, ((Go.IntKind.wrap Go.IntKind.i64 (Int.tdiv (Go.IntKind.wrap Go.IntKind.i64 ((Go.IntKind.wrap Go.IntKind.i64 (x4 + (Go.IntKind.wrap Go.IntKind.i64 (x2.2.2.2.1 * x5)))) + x2.2.2.2.2.1)) (65536 : Int))), ((Go.IntKind.wrap Go.IntKind.i64 (x2.2.2.2.2.2.1 + (1 : Int))), (x2.2.2.2.2.2.2.1, (x2.2.2.2.2.2.2.2.1, x2.2.2.2.2.2.2.2.2))))))))))
    x0
noncomputable def B_s_l1MulLimbs_0 (s0 : (List Int)) (s1 : (List Int)) (s2 : (List Int)) (s3 : Int) (s4 : Int) : Option (((List Int) × ((List Int) × ((List Int) × (Int × Int)))) ⊕ (List Int)) :=
  bif decide (s4 < s3) then
    ((getI s2 s4)).bind fun x0 =>
    (loopM (fun (s : ((List Int) × ((List Int) × (Int × (Int × (Int × (Int × ((List Int) × (Int × Int))))))))) => B_s_l1MulLimbs_1 s.1 s.2.1 s.2.2.1 s.2.2.2.1 s.2.2.2.2.1 s.2.2.2.2.2.1 s.2.2.2.2.2.2.1 s.2.2.2.2.2.2.2.1 s.2.2.2.2.2.2.2.2) (s0, (s1, (s4, (x0, ((0 : Int), ((0 : Int), (s2, (s3, s4))))))))).bind fun x1 =>
    some (Sum.inl (x1.1, (x1.2.1, (x1.2.2.1, (x1.2.2.2.1, (Go.IntKind.wrap Go.IntKind.i64 (x1.2.2.2.2 + (1 : Int))))))))
  else
  some (Sum.inr s0)
noncomputable def F_s_l1MulLimbs (a0 : (List Int)) (a1 : (List Int)) : Option (List (Int)) :=
  ((lenI (Go.IntKind.wrap Go.IntKind.i64 ((Go.IntKind.wrap Go.IntKind.i64 ((((List.length a0) : Nat) : Int) + (((List.length a1) : Nat) : Int))) + (1 : Int))) 8 1)).bind fun x0 =>
  (loopM (fun (s : ((List Int) × ((List Int) × ((List Int) × (Int × Int))))) => B_s_l1MulLimbs_0 s.1 s.2.1 s.2.2.1 s.2.2.2.1 s.2.2.2.2) ((List.replicate x0 (0 : Int)), (a1, (a0, ((((List.length a0) : Nat) : Int), (0 : Int)))))).bind fun x1 =>
  ((F_s_l1Cut x1)).bind fun x2 =>
  some x2
noncomputable def E_s_l1MulLimbs : Ent := ⟨a_s_l1MulLimbs, fun x => F_s_l1MulLimbs x.1 x.2⟩
noncomputable def X_s_l1MulLimbs : TX := ⟨tyTab, codTab, [], [4], [E_s_l1Limb, E_s_l1Cut], a_s_l1MulLimbs⟩
set_option maxHeartbeats 2000000 in
theorem W_s_l1MulLimbs (a0 : List (Int)) (a1 : List (Int)) : wtF X_s_l1MulLimbs Try.f49 (a0, a1) = F_s_l1MulLimbs a0 a1 := by kernel_rfl
theorem OK_s_l1MulLimbs : EntOK RR E_s_l1MulLimbs := fn_done (X := X_s_l1MulLimbs) ⟨tyOK, boolOK, eqOK⟩ (ents_of (by exact ⟨⟨OK_s_l1Limb, rfl⟩, ⟨⟨OK_s_l1Cut, rfl⟩, trivial⟩⟩)) (cf_ok (by kernel_rfl)) ⟨Try.func49, rfl, by kernel_rfl, rfl⟩ (fun x => by exact W_s_l1MulLimbs x.1 x.2)

/-- loop.example/g00409/spec.l1Mul -/
noncomputable def F_s_l1Mul (a0 : (Bool × (List Int))) (a1 : (Bool × (List Int))) : Option ((Bool × List (Int))) :=
  ((F_s_l1MulLimbs a0.2 a1.2)).bind fun x0 =>
  ((F_s_l1Make (!(a0.1 == a1.1)) x0)).bind fun x1 =>
  some (x1.2, x1.1)
noncomputable def E_s_l1Mul : Ent := ⟨a_s_l1Mul, fun x => F_s_l1Mul x.1 x.2⟩
noncomputable def X_s_l1Mul : TX := ⟨tyTab, codTab, [], [4], [E_s_l1MulLimbs, E_s_l1Make], a_s_l1Mul⟩
set_option maxHeartbeats 2000000 in
theorem W_s_l1Mul (a0 : (Bool × List (Int))) (a1 : (Bool × List (Int))) : wtF X_s_l1Mul Try.f26 (a0, a1) = F_s_l1Mul a0 a1 := by kernel_rfl
theorem OK_s_l1Mul : EntOK RR E_s_l1Mul := fn_done (X := X_s_l1Mul) ⟨tyOK, boolOK, eqOK⟩ (ents_of (by exact ⟨⟨OK_s_l1MulLimbs, rfl⟩, ⟨⟨OK_s_l1Make, rfl⟩, trivial⟩⟩)) (cf_ok (by kernel_rfl)) ⟨Try.func26, rfl, by kernel_rfl, rfl⟩ (fun x => by exact W_s_l1Mul x.1 x.2)

/-- loop.example/g00409/spec.l1Fits -/
noncomputable def F_s_l1Fits (a0 : (Bool × (List Int))) : Option ((Bool × List (Int)) × Bool) :=
  bif decide ((((List.length a0.2) : Nat) : Int) > (40 : Int)) then
    some ((false, List.nil), false)
  else
  some ((a0.1, a0.2), true)
noncomputable def E_s_l1Fits : Ent := ⟨a_s_l1Fits, fun x => F_s_l1Fits x⟩
noncomputable def X_s_l1Fits : TX := ⟨tyTab, codTab, [], [4], [], a_s_l1Fits⟩
set_option maxHeartbeats 2000000 in
theorem W_s_l1Fits (a0 : (Bool × List (Int))) : wtF X_s_l1Fits Try.f25 (a0) = F_s_l1Fits a0 := by kernel_rfl
theorem OK_s_l1Fits : EntOK RR E_s_l1Fits := fn_done (X := X_s_l1Fits) ⟨tyOK, boolOK, eqOK⟩ (ents_of (by exact trivial)) (cf_ok (by kernel_rfl)) ⟨Try.func25, rfl, by kernel_rfl, rfl⟩ (fun x => by exact W_s_l1Fits x)

/-- loop.example/g00409/spec.MulBig -/
noncomputable def F_s_MulBig (a0 : (Bool × (List Int))) (a1 : (Bool × (List Int))) : Option ((Bool × List (Int)) × Bool) :=
  ((F_s_GoodBig (a0.1, a0.2))).bind fun x0 =>
  bif (!x0) then
    some ((false, List.nil), false)
  else
  ((F_s_GoodBig (a1.1, a1.2))).bind fun x1 =>
  bif (!x1) then
    some ((false, List.nil), false)
  else
  ((F_s_l1Mul (a0.1, a0.2) (a1.1, a1.2))).bind fun x2 =>
  ((F_s_l1Fits (x2.1, x2.2))).bind fun x3 =>
  some ((x3.1.1, x3.1.2), x3.2)
noncomputable def E_s_MulBig : Ent := ⟨a_s_MulBig, fun x => F_s_MulBig x.1 x.2⟩
noncomputable def X_s_MulBig : TX := ⟨tyTab, codTab, [], [4], [E_s_GoodBig, E_s_l1Mul, E_s_l1Fits], a_s_MulBig⟩
set_option maxHeartbeats 2000000 in
theorem W_s_MulBig (a0 : (Bool × List (Int))) (a1 : (Bool × List (Int))) : wtF X_s_MulBig Try.f6 (a0, a1) = F_s_MulBig a0 a1 := by kernel_rfl
theorem OK_s_MulBig : EntOK RR E_s_MulBig := fn_done (X := X_s_MulBig) ⟨tyOK, boolOK, eqOK⟩ (ents_of (by exact ⟨⟨OK_s_GoodBig, rfl⟩, ⟨⟨OK_s_l1Mul, rfl⟩, ⟨⟨OK_s_l1Fits, rfl⟩, trivial⟩⟩⟩)) (cf_ok (by kernel_rfl)) ⟨Try.func6, rfl, by kernel_rfl, rfl⟩ (fun x => by exact W_s_MulBig x.1 x.2)

/-- loop.example/g00409/impl.HalvesMul -/
noncomputable def F_i_HalvesMul (a0 : (Bool × (List Int))) (a1 : (Bool × (List Int))) : Option ((Bool × List (Int)) × Bool) :=
  ((F_i_MulBig (a0.1, a0.2) (a1.1, a1.2))).bind fun x0 =>
  some ((x0.1.1, x0.1.2), x0.2)
noncomputable def E_i_HalvesMul : Ent := ⟨a_i_HalvesMul, fun x => F_i_HalvesMul x.1 x.2⟩
noncomputable def X_i_HalvesMul : TX := ⟨tyTab, codTab, [], [4], [E_i_MulBig], a_i_HalvesMul⟩
set_option maxHeartbeats 2000000 in
theorem W_i_HalvesMul (a0 : (Bool × List (Int))) (a1 : (Bool × List (Int))) : wtF X_i_HalvesMul Try.f7 (a0, a1) = F_i_HalvesMul a0 a1 := by kernel_rfl
theorem OK_i_HalvesMul : EntOK RR E_i_HalvesMul := fn_done (X := X_i_HalvesMul) ⟨tyOK, boolOK, eqOK⟩ (ents_of (by exact ⟨⟨OK_i_MulBig, rfl⟩, trivial⟩)) (cf_ok (by kernel_rfl)) ⟨Try.func7, rfl, by kernel_rfl, rfl⟩ (fun x => by exact W_i_HalvesMul x.1 x.2)

/-- loop.example/g00409/spec.l1Low -/
noncomputable def F_s_l1Low (a0 : (List Int)) (a1 : Int) : Option (List (Int)) :=
  bif decide ((((List.length a0) : Nat) : Int) ≤ a1) then
    ((F_s_l1Cut a0)).bind fun x0 =>
    some x0
  else
  ((subI (0 : Int) a1 (List.length a0))).bind fun x1 =>
  ((F_s_l1Cut (List.drop x1.1 (List.take x1.2 a0)))).bind fun x2 =>
  some x2
noncomputable def E_s_l1Low : Ent := ⟨a_s_l1Low, fun x => F_s_l1Low x.1 x.2⟩
noncomputable def X_s_l1Low : TX := ⟨tyTab, codTab, [], [4], [E_s_l1Cut], a_s_l1Low⟩
set_option maxHeartbeats 2000000 in
theorem W_s_l1Low (a0 : List (Int)) (a1 : Int) : wtF X_s_l1Low Try.f51 (a0, a1) = F_s_l1Low a0 a1 := by kernel_rfl
theorem OK_s_l1Low : EntOK RR E_s_l1Low := fn_done (X := X_s_l1Low) ⟨tyOK, boolOK, eqOK⟩ (ents_of (by exact ⟨⟨OK_s_l1Cut, rfl⟩, trivial⟩)) (cf_ok (by kernel_rfl)) ⟨Try.func51, rfl, by kernel_rfl, rfl⟩ (fun x => by exact W_s_l1Low x.1 x.2)

/-- loop.example/g00409/spec.l1High -/
noncomputable def F_s_l1High (a0 : (List Int)) (a1 : Int) : Option (List (Int)) :=
  bif decide ((((List.length a0) : Nat) : Int) ≤ a1) then
    some List.nil
  else
  ((subI a1 (((List.length a0) : Nat) : Int) (List.length a0))).bind fun x0 =>
  ((F_s_l1Cut (List.drop x0.1 (List.take x0.2 a0)))).bind fun x1 =>
  some x1
noncomputable def E_s_l1High : Ent := ⟨a_s_l1High, fun x => F_s_l1High x.1 x.2⟩
noncomputable def X_s_l1High : TX := ⟨tyTab, codTab, [], [4], [E_s_l1Cut], a_s_l1High⟩
set_option maxHeartbeats 2000000 in
theorem W_s_l1High (a0 : List (Int)) (a1 : Int) : wtF X_s_l1High Try.f52 (a0, a1) = F_s_l1High a0 a1 := by kernel_rfl
theorem OK_s_l1High : EntOK RR E_s_l1High := fn_done (X := X_s_l1High) ⟨tyOK, boolOK, eqOK⟩ (ents_of (by exact ⟨⟨OK_s_l1Cut, rfl⟩, trivial⟩)) (cf_ok (by kernel_rfl)) ⟨Try.func52, rfl, by kernel_rfl, rfl⟩ (fun x => by exact W_s_l1High x.1 x.2)

/-- loop.example/g00409/spec.l1AddLimbs -/
noncomputable def B_s_l1AddLimbs_0 (s0 : (List Int)) (s1 : (List Int)) (s2 : (List Int)) (s3 : Int) (s4 : Int) : Option (((List Int) × ((List Int) × ((List Int) × (Int × Int)))) ⊕ (List Int)) :=
  (bif decide (s4 < (((List.length s1) : Nat) : Int)) then
      some (Sum.inr (s0, (s1, (s2, (s3, s4)))))
    else
    bif decide (s4 < (((List.length s2) : Nat) : Int)) then
      some (Sum.inr (s0, (s1, (s2, (s3, s4)))))
    else
    bif decide (s3 > (0 : Int)) then
      some (Sum.inr (s0, (s1, (s2, (s3, s4)))))
    else
    some (Sum.inl (Sum.inr s0))).bind fun x0 =>
  Sum.elim
    (fun x1 =>
    some x1)
    (fun x2 =>
    ((F_s_l1Limb x2.2.1 x2.2.2.2.2)).bind fun x3 =>
    ((F_s_l1Limb x2.2.2.1 x2.2.2.2.2)).bind fun x4 =>
    ((appL 8 1 x2.1 (List.cons (Int.tmod (Go.IntKind.wrap Go.IntKind.i64 ((Go.IntKind.wrap Go.IntKind.i64 (x3 + x4)) + x2.2.2.2.1)) (65536 : Int)) List.nil))).bind fun x5 =>
    some (Sum.inl (x5, (x2.2.1, (x2.2.2.1, ((Go.IntKind.wrap Go.IntKind.i64 (Int.tdiv (Go.IntKind.wrap Go.IntKind.i64 ((Go.IntKind.wrap Go.IntKind.i64 (x3 + x4)) + x2.2.2.2.1)) (65536 : Int))), (Go.IntKind.wrap Go.IntKind.i64 (x2.2.2.2.2 + (1 : Int)))))))))
    x0
noncomputable def F_s_l1AddLimbs (a0 : (List Int)) (a1 : (List Int)) : Option (List (Int)) :=
  (loopM (fun (s : ((List Int) × ((List Int) × ((List Int) × (Int × Int))))) => B_s_l1AddLimbs_0 s.1 s.2.1 s.2.2.1 s.2.2.2.1 s.2.2.2.2) (List.nil, (a0, (a1, ((0 : Int), (0 : Int)))))).bind fun x0 =>
  some x0
noncomputable def E_s_l1AddLimbs : Ent := ⟨a_s_l1AddLimbs, fun x => F_s_l1AddLimbs x.1 x.2⟩
noncomputable def X_s_l1AddLimbs : TX := ⟨tyTab, codTab, [], [4], [E_s_l1Limb], a_s_l1AddLimbs⟩
set_option maxHeartbeats 2000000 in
theorem W_s_l1AddLimbs (a0 : List (Int)) (a1 : List (Int)) : wtF X_s_l1AddLimbs Try.f53 (a0, a1) = F_s_l1AddLimbs a0 a1 := by kernel_rfl
theorem OK_s_l1AddLimbs : EntOK RR E_s_l1AddLimbs := fn_done (X := X_s_l1AddLimbs) ⟨tyOK, boolOK, eqOK⟩ (ents_of (by exact ⟨⟨OK_s_l1Limb, rfl⟩, trivial⟩)) (cf_ok (by kernel_rfl)) ⟨Try.func53, rfl, by kernel_rfl, rfl⟩ (fun x => by exact W_s_l1AddLimbs x.1 x.2)

/-- loop.example/g00409/spec.l1SubLimbs -/
noncomputable def B_s_l1SubLimbs_0 (s0 : (List Int)) (s1 : (List Int)) (s2 : (List Int)) (s3 : Int) (s4 : Int) (s5 : Int) : Option (((List Int) × ((List Int) × ((List Int) × (Int × (Int × Int))))) ⊕ (List Int)) :=
  bif decide (s5 < s4) then
    ((getI s1 s5)).bind fun x0 =>
    ((F_s_l1Limb s2 s5)).bind fun x1 =>
    bif decide ((Go.IntKind.wrap Go.IntKind.i64 ((Go.IntKind.wrap Go.IntKind.i64 (x0 - x1)) - s3)) < (0 : Int)) then
      ((appL 8 1 s0 (List.cons (Go.IntKind.wrap Go.IntKind.i64 ((Go.IntKind.wrap Go.IntKind.i64 ((Go.IntKind.wrap Go.IntKind.i64 (x0 - x1)) - s3)) + (65536 : Int))) List.nil))).bind fun x2 =>
      some (Sum.inl (x2, (s1, (s2, ((1 : Int), (s4, (Go.IntKind.wrap Go.IntKind.i64 (s5 + (1 : Int)))))))))
    else
    ((appL 8 1 s0 (List.cons (Go.IntKind.wrap Go.IntKind.i64 ((Go.IntKind.wrap Go.IntKind.i64 (x0 - x1)) - s3)) List.nil))).bind fun x3 =>
    some (Sum.inl (x3, (s1, (s2, ((0 : Int), (s4, (Go.IntKind.wrap Go.IntKind.i64 (s5 + (1 : Int)))))))))
  else
  some (Sum.inr s0)
noncomputable def F_s_l1SubLimbs (a0 : (List Int)) (a1 : (List Int)) : Option (List (Int)) :=
  (loopM (fun (s : ((List Int) × ((List Int) × ((List Int) × (Int × (Int × Int)))))) => B_s_l1SubLimbs_0 s.1 s.2.1 s.2.2.1 s.2.2.2.1 s.2.2.2.2.1 s.2.2.2.2.2) (List.nil, (a0, (a1, ((0 : Int), ((((List.length a0) : Nat) : Int), (0 : Int))))))).bind fun x0 =>
  ((F_s_l1Cut x0)).bind fun x1 =>
  some x1
noncomputable def E_s_l1SubLimbs : Ent := ⟨a_s_l1SubLimbs, fun x => F_s_l1SubLimbs x.1 x.2⟩
noncomputable def X_s_l1SubLimbs : TX := ⟨tyTab, codTab, [], [4], [E_s_l1Limb, E_s_l1Cut], a_s_l1SubLimbs⟩
set_option maxHeartbeats 2000000 in
theorem W_s_l1SubLimbs (a0 : List (Int)) (a1 : List (Int)) : wtF X_s_l1SubLimbs Try.f54 (a0, a1) = F_s_l1SubLimbs a0 a1 := by kernel_rfl
theorem OK_s_l1SubLimbs : EntOK RR E_s_l1SubLimbs := fn_done (X := X_s_l1SubLimbs) ⟨tyOK, boolOK, eqOK⟩ (ents_of (by exact ⟨⟨OK_s_l1Limb, rfl⟩, ⟨⟨OK_s_l1Cut, rfl⟩, trivial⟩⟩)) (cf_ok (by kernel_rfl)) ⟨Try.func54, rfl, by kernel_rfl, rfl⟩ (fun x => by exact W_s_l1SubLimbs x.1 x.2)

/-- loop.example/g00409/spec.l1Shift -/
noncomputable def F_s_l1Shift (a0 : (List Int)) (a1 : Int) : Option (List (Int)) :=
  bif ((((List.length a0) : Nat) : Int) == (0 : Int)) then
    some List.nil
  else
  ((lenI a1 8 1)).bind fun x0 =>
  ((appL 8 1 (List.replicate x0 (0 : Int)) a0)).bind fun x1 =>
  some x1
noncomputable def E_s_l1Shift : Ent := ⟨a_s_l1Shift, fun x => F_s_l1Shift x.1 x.2⟩
noncomputable def X_s_l1Shift : TX := ⟨tyTab, codTab, [], [4], [], a_s_l1Shift⟩
set_option maxHeartbeats 2000000 in
theorem W_s_l1Shift (a0 : List (Int)) (a1 : Int) : wtF X_s_l1Shift Try.f55 (a0, a1) = F_s_l1Shift a0 a1 := by kernel_rfl
theorem OK_s_l1Shift : EntOK RR E_s_l1Shift := fn_done (X := X_s_l1Shift) ⟨tyOK, boolOK, eqOK⟩ (ents_of (by exact trivial)) (cf_ok (by kernel_rfl)) ⟨Try.func55, rfl, by kernel_rfl, rfl⟩ (fun x => by exact W_s_l1Shift x.1 x.2)

/-- loop.example/g00409/spec.l1Halves -/
noncomputable def G_s_l1Halves (self : (List (Int)) → (List (Int)) → Option (List (Int))) (a0 : (List Int)) (a1 : (List Int)) : Option (List (Int)) :=
  (bif decide ((((List.length a1) : Nat) : Int) > (((List.length a0) : Nat) : Int)) then
      some (Sum.inr (a0, (a1, (((List.length a1) : Nat) : Int))))
    else
    some (Sum.inr (a0, (a1, (((List.length a0) : Nat) : Int))))).bind fun x0 =>
  Sum.elim
    (fun x1 =>
    some x1)
    (fun x2 =>
    bif decide (x2.2.2 ≤ (2 : Int)) then
      ((F_s_l1MulLimbs x2.1 x2.2.1)).bind fun x3 =>
      some x3
    else
    ((F_s_l1Low x2.1 (Go.IntKind.wrap Go.IntKind.i64 (Int.tdiv x2.2.2 (2 : Int))))).bind fun x4 =>
    ((F_s_l1Low x2.2.1 (Go.IntKind.wrap Go.IntKind.i64 (Int.tdiv x2.2.2 (2 : Int))))).bind fun x5 =>
    ((self x4 x5)).bind fun x6 =>
    ((F_s_l1High x2.1 (Go.IntKind.wrap Go.IntKind.i64 (Int.tdiv x2.2.2 (2 : Int))))).bind fun x7 =>
    ((F_s_l1High x2.2.1 (Go.IntKind.wrap Go.IntKind.i64 (Int.tdiv x2.2.2 (2 : Int))))).bind fun x8 =>
    ((self x7 x8)).bind fun x9 =>
    ((F_s_l1Low x2.1 (Go.IntKind.wrap Go.IntKind.i64 (Int.tdiv x2.2.2 (2 : Int))))).bind fun x10 =>
    ((F_s_l1High x2.1 (Go.IntKind.wrap Go.IntKind.i64 (Int.tdiv x2.2.2 (2 : Int))))).bind fun x11 =>
    ((F_s_l1AddLimbs x10 x11)).bind fun x12 =>
    ((F_s_l1Low x2.2.1 (Go.IntKind.wrap Go.IntKind.i64 (Int.tdiv x2.2.2 (2 : Int))))).bind fun x13 =>
    ((F_s_l1High x2.2.1 (Go.IntKind.wrap Go.IntKind.i64 (Int.tdiv x2.2.2 (2 : Int))))).bind fun x14 =>
    ((F_s_l1AddLimbs x13 x14)).bind fun x15 =>
    ((self x12 x15)).bind fun x16 =>
    ((F_s_l1SubLimbs x16 x6)).bind fun x17 =>
    ((F_s_l1SubLimbs x17 x9)).bind fun x18 =>
    ((F_s_l1Shift x18 (Go.IntKind.wrap Go.IntKind.i64 (Int.tdiv x2.2.2 (2 : Int))))).bind fun x19 =>
    ((F_s_l1Shift x9 (Go.IntKind.wrap Go.IntKind.i64 ((2 : Int) * (Go.IntKind.wrap Go.IntKind.i64 (Int.tdiv x2.2.2 (2 : Int))))))).bind fun x20 =>
    ((F_s_l1AddLimbs x19 x20)).bind fun x21 =>
    ((F_s_l1AddLimbs x6 x21)).bind fun x22 =>
    ((F_s_l1Cut x22)).bind fun x23 =>
    some x23)
    x0
noncomputable def R_s_l1Halves : Nat → (List (Int)) → (List (Int)) → Option (List (Int))
  | 0 => fun _ _ => none
  | n + 1 => G_s_l1Halves (R_s_l1Halves n)
noncomputable def Ea_s_l1Halves (self : (List (Int)) → (List (Int)) → Option (List (Int))) : Ent := ⟨a_s_l1Halves, fun x => self x.1 x.2⟩
noncomputable def X_s_l1Halves (self : (List (Int)) → (List (Int)) → Option (List (Int))) : TX := ⟨tyTab, codTab, [], [4], [E_s_l1MulLimbs, E_s_l1Low, Ea_s_l1Halves self, E_s_l1High, E_s_l1AddLimbs, E_s_l1SubLimbs, E_s_l1Shift, E_s_l1Cut], a_s_l1Halves⟩
set_option maxHeartbeats 2000000 in
theorem W_s_l1Halves (self : (List (Int)) → (List (Int)) → Option (List (Int))) (a0 : List (Int)) (a1 : List (Int)) : wtF (X_s_l1Halves self) Try.f28 (a0, a1) = G_s_l1Halves self a0 a1 := by kernel_rfl
theorem OKr_s_l1Halves : ∀ n, EntOK RR (Ea_s_l1Halves (R_s_l1Halves n))
  | 0 => fun x y _ _ _ h => by cases h
  | n + 1 => fn_done (X := X_s_l1Halves (R_s_l1Halves n)) ⟨tyOK, boolOK, eqOK⟩ (ents_of (by exact ⟨⟨OK_s_l1MulLimbs, rfl⟩, ⟨⟨OK_s_l1Low, rfl⟩, ⟨⟨OKr_s_l1Halves n, rfl⟩, ⟨⟨OK_s_l1High, rfl⟩, ⟨⟨OK_s_l1AddLimbs, rfl⟩, ⟨⟨OK_s_l1SubLimbs, rfl⟩, ⟨⟨OK_s_l1Shift, rfl⟩, ⟨⟨OK_s_l1Cut, rfl⟩, trivial⟩⟩⟩⟩⟩⟩⟩⟩)) (cf_ok (by kernel_rfl)) ⟨Try.func28, rfl, by kernel_rfl, rfl⟩ (fun x => by exact W_s_l1Halves (R_s_l1Halves n) x.1 x.2)
noncomputable def F_s_l1Halves (a0 : List (Int)) (a1 : List (Int)) : Option (List (Int)) := R_s_l1Halves (a0.length + a1.length + 1) a0 a1
noncomputable def E_s_l1Halves : Ent := ⟨a_s_l1Halves, fun x => F_s_l1Halves x.1 x.2⟩
theorem OK_s_l1Halves : EntOK RR E_s_l1Halves := fun x => OKr_s_l1Halves _ x

/-- loop.example/g00409/spec.HalvesMul -/
noncomputable def F_s_HalvesMul (a0 : (Bool × (List Int))) (a1 : (Bool × (List Int))) : Option ((Bool × List (Int)) × Bool) :=
  ((F_s_GoodBig (a0.1, a0.2))).bind fun x0 =>
  bif (!x0) then
    some ((false, List.nil), false)
  else
  ((F_s_GoodBig (a1.1, a1.2))).bind fun x1 =>
  bif (!x1) then
    some ((false, List.nil), false)
  else
  ((F_s_l1Halves a0.2 a1.2)).bind fun x2 =>
  ((F_s_l1Make (!(a0.1 == a1.1)) x2)).bind fun x3 =>
  ((F_s_l1Fits (x3.2, x3.1))).bind fun x4 =>
  some ((x4.1.1, x4.1.2), x4.2)
noncomputable def E_s_HalvesMul : Ent := ⟨a_s_HalvesMul, fun x => F_s_HalvesMul x.1 x.2⟩
noncomputable def X_s_HalvesMul : TX := ⟨tyTab, codTab, [], [4], [E_s_GoodBig, E_s_l1Halves, E_s_l1Make, E_s_l1Fits], a_s_HalvesMul⟩
set_option maxHeartbeats 2000000 in
theorem W_s_HalvesMul (a0 : (Bool × List (Int))) (a1 : (Bool × List (Int))) : wtF X_s_HalvesMul Try.f8 (a0, a1) = F_s_HalvesMul a0 a1 := by kernel_rfl
theorem OK_s_HalvesMul : EntOK RR E_s_HalvesMul := fn_done (X := X_s_HalvesMul) ⟨tyOK, boolOK, eqOK⟩ (ents_of (by exact ⟨⟨OK_s_GoodBig, rfl⟩, ⟨⟨OK_s_l1Halves, rfl⟩, ⟨⟨OK_s_l1Make, rfl⟩, ⟨⟨OK_s_l1Fits, rfl⟩, trivial⟩⟩⟩⟩)) (cf_ok (by kernel_rfl)) ⟨Try.func8, rfl, by kernel_rfl, rfl⟩ (fun x => by exact W_s_HalvesMul x.1 x.2)

/-- (loop.example/g00409/impl.Big).sign -/
noncomputable def F_i_Big_sign (a0 : (Bool × (List Int))) : Option (Int) :=
  bif ((((List.length a0.2) : Nat) : Int) == (0 : Int)) then
    some (0 : Int)
  else
  bif a0.1 then
    some (-(1 : Int))
  else
  some (1 : Int)
noncomputable def E_i_Big_sign : Ent := ⟨a_i_Big_sign, fun x => F_i_Big_sign x⟩
noncomputable def X_i_Big_sign : TX := ⟨tyTab, codTab, [], [4], [], a_i_Big_sign⟩
set_option maxHeartbeats 2000000 in
theorem W_i_Big_sign (a0 : (Bool × List (Int))) : wtF X_i_Big_sign Try.f29 (a0) = F_i_Big_sign a0 := by kernel_rfl
theorem OK_i_Big_sign : EntOK RR E_i_Big_sign := fn_done (X := X_i_Big_sign) ⟨tyOK, boolOK, eqOK⟩ (ents_of (by exact trivial)) (cf_ok (by kernel_rfl)) ⟨Try.func29, rfl, by kernel_rfl, rfl⟩ (fun x => by exact W_i_Big_sign x)

/-- cmp.isNaN[int] -/
noncomputable def F_cmp_isNaN_int (a0 : Int) : Option (Bool) :=
  some (a0 != a0)
noncomputable def E_cmp_isNaN_int : Ent := ⟨a_cmp_isNaN_int, fun x => F_cmp_isNaN_int x⟩
noncomputable def X_cmp_isNaN_int : TX := ⟨tyTab, codTab, [], [4], [], a_cmp_isNaN_int⟩
set_option maxHeartbeats 2000000 in
theorem W_cmp_isNaN_int (a0 : Int) : wtF X_cmp_isNaN_int Try.f78 (a0) = F_cmp_isNaN_int a0 := by kernel_rfl
theorem OK_cmp_isNaN_int : EntOK RR E_cmp_isNaN_int := fn_done (X := X_cmp_isNaN_int) ⟨tyOK, boolOK, eqOK⟩ (ents_of (by exact trivial)) (cf_ok (by kernel_rfl)) ⟨Try.func78, rfl, by kernel_rfl, rfl⟩ (fun x => by exact W_cmp_isNaN_int x)

/-- cmp.Compare[int] -/
noncomputable def F_cmp_Compare_int (a0 : Int) (a1 : Int) : Option (Int) :=
  ((F_cmp_isNaN_int a0)).bind fun x0 =>
  ((F_cmp_isNaN_int a1)).bind fun x1 =>
  bif x0 then
    bif x1 then
      some (0 : Int)
    else
    some (-(1 : Int))
  else
  bif x1 then
    some (1 : Int)
  else
  bif decide (a0 < a1) then
    some (-(1 : Int))
  else
  bif decide (a0 > a1) then
    some (1 : Int)
  else
  some (0 : Int)
noncomputable def E_cmp_Compare_int : Ent := ⟨a_cmp_Compare_int, fun x => F_cmp_Compare_int x.1 x.2⟩
noncomputable def X_cmp_Compare_int : TX := ⟨tyTab, codTab, [], [4], [E_cmp_isNaN_int], a_cmp_Compare_int⟩
set_option maxHeartbeats 2000000 in
theorem W_cmp_Compare_int (a0 : Int) (a1 : Int) : wtF X_cmp_Compare_int Try.f63 (a0, a1) = F_cmp_Compare_int a0 a1 := by kernel_rfl
theorem OK_cmp_Compare_int : EntOK RR E_cmp_Compare_int := fn_done (X := X_cmp_Compare_int) ⟨tyOK, boolOK, eqOK⟩ (ents_of (by exact ⟨⟨OK_cmp_isNaN_int, rfl⟩, trivial⟩)) (cf_ok (by kernel_rfl)) ⟨Try.func63, rfl, by kernel_rfl, rfl⟩ (fun x => by exact W_cmp_Compare_int x.1 x.2)

/-- loop.example/g00409/impl.compareLimbs -/
noncomputable def B_i_compareLimbs_0 (s0 : (List Int)) (s1 : (List Int)) (s2 : Int) : Option (((List Int) × ((List Int) × Int)) ⊕ (Unit ⊕ Int)) :=
  bif decide (s2 ≥ (0 : Int)) then
    ((getI s0 s2)).bind fun x0 =>
    ((getI s1 s2)).bind fun x1 =>
    bif (x0 != x1) then
      ((getI s0 s2)).bind fun x2 =>
      ((getI s1 s2)).bind fun x3 =>
      ((F_cmp_Compare_int x2 x3)).bind fun x4 =>
      some (Sum.inr (Sum.inr x4))
    else
    some (Sum.inl (s0, (s1, (Go.IntKind.wrap Go.IntKind.i64 (s2 - (1 : Int))))))
  else
  some (Sum.inr (Sum.inl ()))
noncomputable def F_i_compareLimbs (a0 : (List Int)) (a1 : (List Int)) : Option (Int) :=
  bif ((((List.length a0) : Nat) : Int) != (((List.length a1) : Nat) : Int)) then
    ((F_cmp_Compare_int (((List.length a0) : Nat) : Int) (((List.length a1) : Nat) : Int))).bind fun x0 =>
    some x0
  else
  (loopM (fun (s : ((List Int) × ((List Int) × Int))) => B_i_compareLimbs_0 s.1 s.2.1 s.2.2) (a0, (a1, (Go.IntKind.wrap Go.IntKind.i64 ((((List.length a0) : Nat) : Int) - (1 : Int)))))).bind fun x1 =>
  Sum.elim
    (fun x2 =>
    some (0 : Int))
    (fun x3 =>
    some x3)
    x1
noncomputable def E_i_compareLimbs : Ent := ⟨a_i_compareLimbs, fun x => F_i_compareLimbs x.1 x.2⟩
noncomputable def X_i_compareLimbs : TX := ⟨tyTab, codTab, [], [4], [E_cmp_Compare_int], a_i_compareLimbs⟩
set_option maxHeartbeats 2000000 in
theorem W_i_compareLimbs (a0 : List (Int)) (a1 : List (Int)) : wtF X_i_compareLimbs Try.f42 (a0, a1) = F_i_compareLimbs a0 a1 := by kernel_rfl
theorem OK_i_compareLimbs : EntOK RR E_i_compareLimbs := fn_done (X := X_i_compareLimbs) ⟨tyOK, boolOK, eqOK⟩ (ents_of (by exact ⟨⟨OK_cmp_Compare_int, rfl⟩, trivial⟩)) (cf_ok (by kernel_rfl)) ⟨Try.func42, rfl, by kernel_rfl, rfl⟩ (fun x => by exact W_i_compareLimbs x.1 x.2)

/-- loop.example/g00409/impl.divSmall -/
noncomputable def B_i_divSmall_0 (s0 : (List Int)) (s1 : (List Int)) (s2 : Int) (s3 : Int) (s4 : Int) : Option (((List Int) × ((List Int) × (Int × (Int × Int)))) ⊕ ((List Int) × Int)) :=
  bif decide (s4 ≥ (0 : Int)) then
    ((getI s1 s4)).bind fun x0 =>
    bif (s2 == (0 : Int)) then
      none
    else
    ((idxI s4 (List.length s0))).bind fun x1 =>
    ((getN s0 x1)).bind fun x2 =>
    bif (s2 == (0 : Int)) then
      none
    else
    some (Sum.inl ((List.set s0 x1 (Go.IntKind.wrap Go.IntKind.i64 (Int.tdiv (Go.IntKind.wrap Go.IntKind.i64 ((Go.IntKind.wrap Go.IntKind.i64 (s3 * (65536 : Int))) + x0)) s2))), (s1, (s2, ((Int.tmod (Go.IntKind.wrap Go.IntKind.i64 ((Go.IntKind.wrap Go.IntKind.i64 (s3 * (65536 : Int))) + x0)) s2), (Go.IntKind.wrap Go.IntKind.i64 (s4 - (1 : Int))))))))
  else
  some (Sum.inr (s0, s3))
noncomputable def F_i_divSmall (a0 : (List Int)) (a1 : Int) : Option (List (Int) × Int) :=
  ((lenI (((List.length a0) : Nat) : Int) 8 1)).bind fun x0 =>
  (loopM (fun (s : ((List Int) × ((List Int) × (Int × (Int × Int))))) => B_i_divSmall_0 s.1 s.2.1 s.2.2.1 s.2.2.2.1 s.2.2.2.2) ((List.replicate x0 (0 : Int)), (a0, (a1, ((0 : Int), (Go.IntKind.wrap Go.IntKind.i64 ((((List.length a0) : Nat) : Int) - (1 : Int)))))))).bind fun x1 =>
  ((F_i_cut x1.1)).bind fun x2 =>
  some (x2, x1.2)
noncomputable def E_i_divSmall : Ent := ⟨a_i_divSmall, fun x => F_i_divSmall x.1 x.2⟩
noncomputable def X_i_divSmall : TX := ⟨tyTab, codTab, [], [4], [E_i_cut], a_i_divSmall⟩
set_option maxHeartbeats 2000000 in
theorem W_i_divSmall (a0 : List (Int)) (a1 : Int) : wtF X_i_divSmall Try.f70 (a0, a1) = F_i_divSmall a0 a1 := by kernel_rfl
theorem OK_i_divSmall : EntOK RR E_i_divSmall := fn_done (X := X_i_divSmall) ⟨tyOK, boolOK, eqOK⟩ (ents_of (by exact ⟨⟨OK_i_cut, rfl⟩, trivial⟩)) (cf_ok (by kernel_rfl)) ⟨Try.func70, rfl, by kernel_rfl, rfl⟩ (fun x => by exact W_i_divSmall x.1 x.2)

/-- loop.example/g00409/impl.BigOf -/
noncomputable def B_i_BigOf_0 (s0 : (Bool × (List Int))) (s1 : (List Int)) (s2 : Bool) (s3 : Int) : Option (((Bool × (List Int)) × ((List Int) × (Bool × Int))) ⊕ ((Bool × (List Int)) × ((List Int) × Bool))) :=
  bif decide (s3 > (0 : Int)) then
    ((appL 8 1 s1 (List.cons (Go.IntKind.wrap Go.IntKind.i64 (Int.tmod s3 (65536 : Int))) List.nil))).bind fun x0 =>
    some (Sum.inl ((s0.1, s0.2), (x0, (s2, (Go.IntKind.wrap Go.IntKind.u64 (Int.tdiv s3 (65536 : Int)))))))
  else
  some (Sum.inr ((s0.1, s0.2), (s1, s2)))
noncomputable def F_i_BigOf (a0 : Int) : Option ((Bool × List (Int))) :=
  (bif decide (a0 < (0 : Int)) then
      some (Sum.inr ((false, List.nil), (decide (a0 < (0 : Int)), (Go.IntKind.wrap Go.IntKind.u64 ((0 : Int) - (Go.IntKind.wrap Go.IntKind.u64 a0))))))
    else
    some (Sum.inr ((false, List.nil), (decide (a0 < (0 : Int)), (Go.IntKind.wrap Go.IntKind.u64 a0))))).bind fun x0 =>
  Sum.elim
    (fun x1 =>
    some x1)
    (fun x2 =>
    (loopM (fun (s : ((Bool × (List Int)) × ((List Int) × (Bool × Int)))) => B_i_BigOf_0 s.1 s.2.1 s.2.2.1 s.2.2.2) ((x2.1.1, x2.1.2), (List.nil, (x2.2.1, x2.2.2)))).bind fun x3 =>
    some (x3.2.2, x3.2.1))
    x0
noncomputable def E_i_BigOf : Ent := ⟨a_i_BigOf, fun x => F_i_BigOf x⟩
noncomputable def X_i_BigOf : TX := ⟨tyTab, codTab, [], [4], [], a_i_BigOf⟩
set_option maxHeartbeats 2000000 in
theorem W_i_BigOf (a0 : Int) : wtF X_i_BigOf Try.f43 (a0) = F_i_BigOf a0 := by kernel_rfl
theorem OK_i_BigOf : EntOK RR E_i_BigOf := fn_done (X := X_i_BigOf) ⟨tyOK, boolOK, eqOK⟩ (ents_of (by exact trivial)) (cf_ok (by kernel_rfl)) ⟨Try.func43, rfl, by kernel_rfl, rfl⟩ (fun x => by exact W_i_BigOf x)

/-- loop.example/g00409/impl.divLimbs -/
noncomputable def B_i_divLimbs_0 (s0 : (List Int)) (s1 : (List Int)) (s2 : (List Int)) (s3 : Int) (s4 : Int) : Option (((List Int) × ((List Int) × ((List Int) × (Int × Int)))) ⊕ ((List Int) × ((List Int) × (Int × Int)))) :=
  bif decide ((((List.length s0) : Nat) : Int) < (Go.IntKind.wrap Go.IntKind.i64 ((((List.length s2) : Nat) : Int) + (1 : Int)))) then
    ((appL 8 1 s0 (List.cons (0 : Int) List.nil))).bind fun x0 =>
    some (Sum.inl (x0, (s1, (s2, (s3, s4)))))
  else
  some (Sum.inr (s0, (s1, (s3, s4))))
noncomputable def B_i_divLimbs_2 (s0 : (List Int)) (s1 : (List Int)) (s2 : (List Int)) (s3 : Int) (s4 : Int) (s5 : Int) (s6 : Int) (s7 : Int) : Option (((List Int) × ((List Int) × ((List Int) × (Int × (Int × (Int × (Int × Int))))))) ⊕ ((List Int) × ((List Int) × ((List Int) × (Int × (Int × (Int × Int))))))) :=
  (bif decide (s6 ≥ (65536 : Int)) then
      some (Sum.inr (s0, (s1, (s2, (s3, (s4, (s5, (s6, s7))))))))
    else
    bif decide (s7 < (65536 : Int)) then
      ((idxI (Go.IntKind.wrap Go.IntKind.i64 (s3 - (2 : Int))) (List.length s1))).bind fun x0 =>
      ((getN s1 x0)).bind fun x1 =>
      ((idxI (Go.IntKind.wrap Go.IntKind.i64 ((Go.IntKind.wrap Go.IntKind.i64 (s5 + s3)) - (2 : Int))) (List.length s0))).bind fun x2 =>
      ((getN s0 x2)).bind fun x3 =>
      bif decide ((Go.IntKind.wrap Go.IntKind.i64 (s6 * x1)) > (Go.IntKind.wrap Go.IntKind.i64 ((Go.IntKind.wrap Go.IntKind.i64 (s7 * (65536 : Int))) + x3))) then
        some (Sum.inr (s0, (s1, (s2, (s3, (s4, (s5, (s6, s7))))))))
      else
      some (Sum.inl (Sum.inr (s0, (s1, (s2, (s3, (s4, (s5, s6))))))))
    else
    some (Sum.inl (Sum.inr (s0, (s1, (s2, (s3, (s4, (s5, s6))))))))).bind fun x4 =>
  Sum.elim
    (fun x5 =>
    some x5)
    (fun x6 =>
    ((idxI (Go.IntKind.wrap Go.IntKind.i64 (x6.2.2.2.1 - (1 : Int))) (List.length x6.2.1))).bind fun x7 =>
    ((getN x6.2.1 x7)).bind fun x8 =>
    some (Sum.inl (x6.1, (x6.2.1, (x6.2.2.1, (x6.2.2.2.1, (x6.2.2.2.2.1, (x6.2.2.2.2.2.1, ((Go.IntKind.wrap Go.IntKind.i64 (x6.2.2.2.2.2.2.1 - (1 : Int))), (Go.IntKind.wrap Go.IntKind.i64 (x6.2.2.2.2.2.2.2 + x8)))))))))))
    x4
noncomputable def B_i_divLimbs_3 (s0 : (List Int)) (s1 : (List Int)) (s2 : (List Int)) (s3 : Int) (s4 : Int) (s5 : Int) (s6 : Int) (s7 : Int) (s8 : Int) (s9 : Int) : Option (((List Int) × ((List Int) × ((List Int) × (Int × (Int × (Int × (Int × (Int × (Int × Int))))))))) ⊕ ((List Int) × ((List Int) × ((List Int) × (Int × (Int × (Int × (Int × Int)))))))) :=
  bif decide (s9 < s8) then
    ((idxI (Go.IntKind.wrap Go.IntKind.i64 (s5 + s9)) (List.length s0))).bind fun x0 =>
    ((getN s0 x0)).bind fun x1 =>
    ((idxI s9 (List.length s1))).bind fun x2 =>
    ((getN s1 x2)).bind fun x3 =>
    (bif decide ((Go.IntKind.wrap Go.IntKind.i64 ((Go.IntKind.wrap Go.IntKind.i64 (x1 - (Go.IntKind.wrap Go.IntKind.i64 (s6 * x3)))) - s7)) < (0 : Int)) then
        some (Sum.inr (s0, (s1, (s2, (s3, (s4, (s5, (s6, ((Go.IntKind.wrap Go.IntKind.i64 (Int.tdiv (Go.IntKind.wrap Go.IntKind.i64 ((Go.IntKind.wrap Go.IntKind.i64 ((Go.IntKind.wrap Go.IntKind.i64 ((0 : Int) - (Go.IntKind.wrap Go.IntKind.i64 ((Go.IntKind.wrap Go.IntKind.i64 (x1 - (Go.IntKind.wrap Go.IntKind.i64 (s6 * x3)))) - s7)))) + (65536 : Int))) - (1 : Int))) (65536 : Int))), (s9, ((Go.IntKind.wrap Go.IntKind.i64 ((Go.IntKind.wrap Go.IntKind.i64 ((Go.IntKind.wrap Go.IntKind.i64 (x1 - (Go.IntKind.wrap Go.IntKind.i64 (s6 * x3)))) - s7)) + (Go.IntKind.wrap Go.IntKind.i64 ((Go.IntKind.wrap Go.IntKind.i64 (Int.tdiv (Go.IntKind.wrap Go.IntKind.i64 ((Go.IntKind.wrap Go.IntKind.i64 ((Go.IntKind.wrap Go.IntKind.i64 ((0 : Int) - (Go.IntKind.wrap Go.IntKind.i64 ((Go.IntKind.wrap Go.IntKind.i64 (x1 - (Go.IntKind.wrap Go.IntKind.i64 (s6 * x3)))) - s7)))) + (65536 : Int))) - (1 : Int))) (65536 : Int))) * (65536 : Int))))), (s8, s9))))))))))))
      else
      some (Sum.inr (s0, (s1, (s2, (s3, (s4, (s5, (s6, ((0 : Int), (s9, ((Go.IntKind.wrap Go.IntKind.i64 ((Go.IntKind.wrap Go.IntKind.i64 (x1 - (Go.IntKind.wrap Go.IntKind.i64 (s6 * x3)))) - s7)), (s8, s9))))))))))))).bind fun x4 =>
    Sum.elim
      (fun x5 =>
      some x5)
      (fun x6 =>
      ((idxI (Go.IntKind.wrap Go.IntKind.i64 (x6.2.2.2.2.2.1 + x6.2.2.2.2.2.2.2.2.1)) (List.length x6.1))).bind fun x7 =>
      ((getN x6.1 x7)).bind fun x8 =>
      some (Sum.inl ((List.set x6.1 x7 x6.2.2.2.2.2.2.2.2.2.1), (x6.2.1, (x6.2.2.1, (x6.2.2.2.1, (x6.2.2.2.2.1, (x6.2.2.2.2.2.1, (x6.2.2.2.2.2.2.1, (x6.2.2.2.2.2.2.2.1, (x6.2.2.2.2.2.2.2.2.2.2.1, (Go.IntKind.wrap Go.IntKind.i64 (x6.2.2.2.2.2.2.2.2.2.2.2 + (1 : Int))))))))))))))
      x4
  else
  some (Sum.inr (s0, (s1, (s2, (s3, (s4, (s5, (s6, s7))))))))
noncomputable def B_i_divLimbs_4 (s0 : (List Int)) (s1 : (List Int)) (s2 : (List Int)) (s3 : Int) (s4 : Int) (s5 : Int) (s6 : Int) (s7 : Int) (s8 : Int) (s9 : Int) : Option (((List Int) × ((List Int) × ((List Int) × (Int × (Int × (Int × (Int × (Int × (Int × Int))))))))) ⊕ ((List Int) × ((List Int) × ((List Int) × (Int × (Int × (Int × (Int × Int)))))))) :=
  bif decide (s9 < s8) then
    ((idxI (Go.IntKind.wrap Go.IntKind.i64 (s5 + s9)) (List.length s0))).bind fun x0 =>
    ((getN s0 x0)).bind fun x1 =>
    ((idxI s9 (List.length s1))).bind fun x2 =>
    ((getN s1 x2)).bind fun x3 =>
    ((idxI (Go.IntKind.wrap Go.IntKind.i64 (s5 + s9)) (List.length s0))).bind fun x4 =>
    ((getN s0 x4)).bind fun x5 =>
    some (Sum.inl ((List.set s0 x4 (Int.tmod (Go.IntKind.wrap Go.IntKind.i64 (s7 + (Go.IntKind.wrap Go.IntKind.i64 (x1 + x3)))) (65536 : Int))), (s1, (s2, (s3, (s4, (s5, (s6, ((Go.IntKind.wrap Go.IntKind.i64 (Int.tdiv (Go.IntKind.wrap Go.IntKind.i64 (s7 + (Go.IntKind.wrap Go.IntKind.i64 (x1 + x3)))) (65536 : Int))), (s8, (Go.IntKind.wrap Go.IntKind.i64 (s9 + (1 : Int)))))))))))))
  else
  some (Sum.inr (s0, (s1, (s2, (s3, (s4, (s5, (s6, s7))))))))
noncomputable def B_i_divLimbs_1 (s0 : (List Int)) (s1 : (List Int)) (s2 : (List Int)) (s3 : Int) (s4 : Int) (s5 : Int) : Option (((List Int) × ((List Int) × ((List Int) × (Int × (Int × Int))))) ⊕ ((List Int) × ((List Int) × (Int × Int)))) :=
  bif decide (s5 ≥ (0 : Int)) then
    ((idxI (Go.IntKind.wrap Go.IntKind.i64 (s5 + s3)) (List.length s0))).bind fun x0 =>
    ((getN s0 x0)).bind fun x1 =>
    ((idxI (Go.IntKind.wrap Go.IntKind.i64 ((Go.IntKind.wrap Go.IntKind.i64 (s5 + s3)) - (1 : Int))) (List.length s0))).bind fun x2 =>
    ((getN s0 x2)).bind fun x3 =>
    ((idxI (Go.IntKind.wrap Go.IntKind.i64 (s3 - (1 : Int))) (List.length s1))).bind fun x4 =>
    ((getN s1 x4)).bind fun x5 =>
    bif (x5 == (0 : Int)) then
      none
    else
    ((idxI (Go.IntKind.wrap Go.IntKind.i64 (s3 - (1 : Int))) (List.length s1))).bind fun x6 =>
    ((getN s1 x6)).bind fun x7 =>
    bif (x7 == (0 : Int)) then
      none
    else
    (loopM (fun (s : ((List Int) × ((List Int) × ((List Int) × (Int × (Int × (Int × (Int × Int)))))))) => B_i_divLimbs_2 s.1 s.2.1 s.2.2.1 s.2.2.2.1 s.2.2.2.2.1 s.2.2.2.2.2.1 s.2.2.2.2.2.2.1 s.2.2.2.2.2.2.2) (s0, (s1, (s2, (s3, (s4, (s5, ((Go.IntKind.wrap Go.IntKind.i64 (Int.tdiv (Go.IntKind.wrap Go.IntKind.i64 ((Go.IntKind.wrap Go.IntKind.i64 (x1 * (65536 : Int))) + x3)) x5)), (Int.tmod (Go.IntKind.wrap Go.IntKind.i64 ((Go.IntKind.wrap Go.IntKind.i64 (x1 * (65536 : Int))) + x3)) x7))))))))).bind fun x8 =>
    (loopM (fun (s : ((List Int) × ((List Int) × ((List Int) × (Int × (Int × (Int × (Int × (Int × (Int × Int)))))))))) => B_i_divLimbs_3 s.1 s.2.1 s.2.2.1 s.2.2.2.1 s.2.2.2.2.1 s.2.2.2.2.2.1 s.2.2.2.2.2.2.1 s.2.2.2.2.2.2.2.1 s.2.2.2.2.2.2.2.2.1 s.2.2.2.2.2.2.2.2.2) (x8.1, (x8.2.1, (x8.2.2.1, (x8.2.2.2.1, (x8.2.2.2.2.1, (x8.2.2.2.2.2.1, (x8.2.2.2.2.2.2, ((0 : Int), (x8.2.2.2.1, (0 : Int))))))))))).bind fun x9 =>
    ((idxI (Go.IntKind.wrap Go.IntKind.i64 (x9.2.2.2.2.2.1 + x9.2.2.2.1)) (List.length x9.1))).bind fun x10 =>
    ((getN x9.1 x10)).bind fun x11 =>
    ((idxI (Go.IntKind.wrap Go.IntKind.i64 (x9.2.2.2.2.2.1 + x9.2.2.2.1)) (List.length x9.1))).bind fun x12 =>
    ((getN x9.1 x12)).bind fun x13 =>
    ((idxI (Go.IntKind.wrap Go.IntKind.i64 (x9.2.2.2.2.2.1 + x9.2.2.2.1)) (List.length (List.set x9.1 x12 (Go.IntKind.wrap Go.IntKind.i64 (x11 - x9.2.2.2.2.2.2.2)))))).bind fun x14 =>
    ((getN (List.set x9.1 x12 (Go.IntKind.wrap Go.IntKind.i64 (x11 - x9.2.2.2.2.2.2.2))) x14)).bind fun x15 =>
    bif decide (x15 < (0 : Int)) then
      (loopM (fun (s : ((List Int) × ((List Int) × ((List Int) × (Int × (Int × (Int × (Int × (Int × (Int × Int)))))))))) => B_i_divLimbs_4 s.1 s.2.1 s.2.2.1 s.2.2.2.1 s.2.2.2.2.1 s.2.2.2.2.2.1 s.2.2.2.2.2.2.1 s.2.2.2.2.2.2.2.1 s.2.2.2.2.2.2.2.2.1 s.2.2.2.2.2.2.2.2.2) ((List.set x9.1 x12 (Go.IntKind.wrap Go.IntKind.i64 (x11 - x9.2.2.2.2.2.2.2))), (x9.2.1, (x9.2.2.1, (x9.2.2.2.1, (x9.2.2.2.2.1, (x9.2.2.2.2.2.1, ((Go.IntKind.wrap Go.IntKind.i64 (x9.2.2.2.2.2.2.1 - (1 : Int))), ((0 : Int), (x9.2.2.2.1, (0 : Int))))))))))).bind fun x16 =>
      ((idxI (Go.IntKind.wrap Go.IntKind.i64 (x16.2.2.2.2.2.1 + x16.2.2.2.1)) (List.length x16.1))).bind fun x17 =>
      ((getN x16.1 x17)).bind fun x18 =>
      ((idxI (Go.IntKind.wrap Go.IntKind.i64 (x16.2.2.2.2.2.1 + x16.2.2.2.1)) (List.length x16.1))).bind fun x19 =>
      ((getN x16.1 x19)).bind fun x20 =>
      ((idxI x16.2.2.2.2.2.1 (List.length x16.2.2.1))).bind fun x21 =>
      ((getN x16.2.2.1 x21)).bind fun x22 =>
      some (Sum.inl ((List.set x16.1 x19 (Go.IntKind.wrap Go.IntKind.i64 (x18 + x16.2.2.2.2.2.2.2))), (x16.2.1, ((List.set x16.2.2.1 x21 x16.2.2.2.2.2.2.1), (x16.2.2.2.1, (x16.2.2.2.2.1, (Go.IntKind.wrap Go.IntKind.i64 (x16.2.2.2.2.2.1 - (1 : Int)))))))))
    else
    ((idxI x9.2.2.2.2.2.1 (List.length x9.2.2.1))).bind fun x23 =>
    ((getN x9.2.2.1 x23)).bind fun x24 =>
    some (Sum.inl ((List.set x9.1 x12 (Go.IntKind.wrap Go.IntKind.i64 (x11 - x9.2.2.2.2.2.2.2))), (x9.2.1, ((List.set x9.2.2.1 x23 x9.2.2.2.2.2.2.1), (x9.2.2.2.1, (x9.2.2.2.2.1, (Go.IntKind.wrap Go.IntKind.i64 (x9.2.2.2.2.2.1 - (1 : Int)))))))))
  else
  some (Sum.inr (s0, (s2, (s3, s4))))
noncomputable def F_i_divLimbs (a0 : (List Int)) (a1 : (List Int)) : Option (List (Int) × List (Int)) :=
  ((F_i_compareLimbs a0 a1)).bind fun x0 =>
  bif decide (x0 < (0 : Int)) then
    some (List.nil, a0)
  else
  bif ((((List.length a1) : Nat) : Int) == (1 : Int)) then
    ((getI a1 (0 : Int))).bind fun x1 =>
    ((F_i_divSmall a0 x1)).bind fun x2 =>
    ((F_i_cut (List.cons x2.2 List.nil))).bind fun x3 =>
    some (x2.1, x3)
  else
  ((getI a1 (Go.IntKind.wrap Go.IntKind.i64 ((((List.length a1) : Nat) : Int) - (1 : Int))))).bind fun x4 =>
  bif ((Go.IntKind.wrap Go.IntKind.i64 (x4 + (1 : Int))) == (0 : Int)) then
    none
  else
  ((F_i_bigOf false a0)).bind fun x5 =>
  ((F_i_BigOf (Go.IntKind.wrap Go.IntKind.i64 (Int.tdiv (65536 : Int) (Go.IntKind.wrap Go.IntKind.i64 (x4 + (1 : Int))))))).bind fun x6 =>
  ((F_i_Big_mul (x5.2, x5.1) (x6.1, x6.2))).bind fun x7 =>
  ((appL 8 1 x7.1 (List.cons (0 : Int) List.nil))).bind fun x8 =>
  ((F_i_bigOf false a1)).bind fun x9 =>
  ((F_i_BigOf (Go.IntKind.wrap Go.IntKind.i64 (Int.tdiv (65536 : Int) (Go.IntKind.wrap Go.IntKind.i64 (x4 + (1 : Int))))))).bind fun x10 =>
  ((F_i_Big_mul (x9.2, x9.1) (x10.1, x10.2))).bind fun x11 =>
  (loopM (fun (s : ((List Int) × ((List Int) × ((List Int) × (Int × Int))))) => B_i_divLimbs_0 s.1 s.2.1 s.2.2.1 s.2.2.2.1 s.2.2.2.2) (x8, (x11.1, (a0, ((((List.length a1) : Nat) : Int), (Go.IntKind.wrap Go.IntKind.i64 (Int.tdiv (65536 : Int) (Go.IntKind.wrap Go.IntKind.i64 (x4 + (1 : Int)))))))))).bind fun x12 =>
  ((lenI (Go.IntKind.wrap Go.IntKind.i64 ((((List.length x12.1) : Nat) : Int) - x12.2.2.1)) 8 1)).bind fun x13 =>
  (loopM (fun (s : ((List Int) × ((List Int) × ((List Int) × (Int × (Int × Int)))))) => B_i_divLimbs_1 s.1 s.2.1 s.2.2.1 s.2.2.2.1 s.2.2.2.2.1 s.2.2.2.2.2) (x12.1, (x12.2.1, ((List.replicate x13 (0 : Int)), (x12.2.2.1, (x12.2.2.2, (Go.IntKind.wrap Go.IntKind.i64 ((Go.IntKind.wrap Go.IntKind.i64 ((((List.length x12.1) : Nat) : Int) - x12.2.2.1)) - (1 : Int))))))))).bind fun x14 =>
  ((subI (0 : Int) x14.2.2.1 (List.length x14.1))).bind fun x15 =>
  ((F_i_cut (List.drop x15.1 (List.take (x15.1 + (x15.2 - x15.1)) x14.1)))).bind fun x16 =>
  ((F_i_divSmall x16 x14.2.2.2)).bind fun x17 =>
  ((F_i_cut x14.2.1)).bind fun x18 =>
  some (x18, x17.1)
noncomputable def E_i_divLimbs : Ent := ⟨a_i_divLimbs, fun x => F_i_divLimbs x.1 x.2⟩
noncomputable def X_i_divLimbs : TX := ⟨tyTab, codTab, [], [4], [E_i_compareLimbs, E_i_divSmall, E_i_cut, E_i_bigOf, E_i_BigOf, E_i_Big_mul], a_i_divLimbs⟩
set_option maxHeartbeats 2000000 in
theorem W_i_divLimbs (a0 : List (Int)) (a1 : List (Int)) : wtF X_i_divLimbs Try.f56 (a0, a1) = F_i_divLimbs a0 a1 := by kernel_rfl
theorem OK_i_divLimbs : EntOK RR E_i_divLimbs := fn_done (X := X_i_divLimbs) ⟨tyOK, boolOK, eqOK⟩ (ents_of (by exact ⟨⟨OK_i_compareLimbs, rfl⟩, ⟨⟨OK_i_divSmall, rfl⟩, ⟨⟨OK_i_cut, rfl⟩, ⟨⟨OK_i_bigOf, rfl⟩, ⟨⟨OK_i_BigOf, rfl⟩, ⟨⟨OK_i_Big_mul, rfl⟩, trivial⟩⟩⟩⟩⟩⟩)) (cf_ok (by kernel_rfl)) ⟨Try.func56, rfl, by kernel_rfl, rfl⟩ (fun x => by exact W_i_divLimbs x.1 x.2)

/-- (loop.example/g00409/impl.Big).div -/
noncomputable def F_i_Big_div (a0 : (Bool × (List Int))) (a1 : (Bool × (List Int))) : Option ((Bool × List (Int)) × (Bool × List (Int))) :=
  ((F_i_divLimbs a0.2 a1.2)).bind fun x0 =>
  ((F_i_bigOf (!(a0.1 == a1.1)) x0.1)).bind fun x1 =>
  ((F_i_bigOf a0.1 x0.2)).bind fun x2 =>
  some ((x1.2, x1.1), (x2.2, x2.1))
noncomputable def E_i_Big_div : Ent := ⟨a_i_Big_div, fun x => F_i_Big_div x.1 x.2⟩
noncomputable def X_i_Big_div : TX := ⟨tyTab, codTab, [], [4], [E_i_divLimbs, E_i_bigOf], a_i_Big_div⟩
set_option maxHeartbeats 2000000 in
theorem W_i_Big_div (a0 : (Bool × List (Int))) (a1 : (Bool × List (Int))) : wtF X_i_Big_div Try.f30 (a0, a1) = F_i_Big_div a0 a1 := by kernel_rfl
theorem OK_i_Big_div : EntOK RR E_i_Big_div := fn_done (X := X_i_Big_div) ⟨tyOK, boolOK, eqOK⟩ (ents_of (by exact ⟨⟨OK_i_divLimbs, rfl⟩, ⟨⟨OK_i_bigOf, rfl⟩, trivial⟩⟩)) (cf_ok (by kernel_rfl)) ⟨Try.func30, rfl, by kernel_rfl, rfl⟩ (fun x => by exact W_i_Big_div x.1 x.2)

/-- loop.example/g00409/impl.DivBig -/
noncomputable def F_i_DivBig (a0 : (Bool × (List Int))) (a1 : (Bool × (List Int))) : Option ((Bool × List (Int)) × (Bool × List (Int)) × Bool) :=
  ((F_i_areBig (List.cons (a0.1, a0.2) (List.cons (a1.1, a1.2) List.nil)))).bind fun x0 =>
  bif (!x0) then
    some ((false, List.nil), ((false, List.nil), false))
  else
  ((F_i_Big_sign (a1.1, a1.2))).bind fun x1 =>
  bif (x1 == (0 : Int)) then
    some ((false, List.nil), ((false, List.nil), false))
  else
  ((F_i_Big_div (a0.1, a0.2) (a1.1, a1.2))).bind fun x2 =>
  some ((x2.1.1, x2.1.2), ((x2.2.1, x2.2.2), true))
noncomputable def E_i_DivBig : Ent := ⟨a_i_DivBig, fun x => F_i_DivBig x.1 x.2⟩
noncomputable def X_i_DivBig : TX := ⟨tyTab, codTab, [], [4], [E_i_areBig, E_i_Big_sign, E_i_Big_div], a_i_DivBig⟩
set_option maxHeartbeats 2000000 in
theorem W_i_DivBig (a0 : (Bool × List (Int))) (a1 : (Bool × List (Int))) : wtF X_i_DivBig Try.f9 (a0, a1) = F_i_DivBig a0 a1 := by kernel_rfl
theorem OK_i_DivBig : EntOK RR E_i_DivBig := fn_done (X := X_i_DivBig) ⟨tyOK, boolOK, eqOK⟩ (ents_of (by exact ⟨⟨OK_i_areBig, rfl⟩, ⟨⟨OK_i_Big_sign, rfl⟩, ⟨⟨OK_i_Big_div, rfl⟩, trivial⟩⟩⟩)) (cf_ok (by kernel_rfl)) ⟨Try.func9, rfl, by kernel_rfl, rfl⟩ (fun x => by exact W_i_DivBig x.1 x.2)

/-- loop.example/g00409/spec.l1Cmp -/
noncomputable def B_s_l1Cmp_0 (s0 : (List Int)) (s1 : (List Int)) (s2 : Int) : Option (((List Int) × ((List Int) × Int)) ⊕ (Unit ⊕ Int)) :=
  bif decide (s2 ≥ (0 : Int)) then
    ((getI s0 s2)).bind fun x0 =>
    ((getI s1 s2)).bind fun x1 =>
    bif decide (x0 < x1) then
      some (Sum.inr (Sum.inr (-(1 : Int))))
    else
    ((getI s0 s2)).bind fun x2 =>
    ((getI s1 s2)).bind fun x3 =>
    bif decide (x2 > x3) then
      some (Sum.inr (Sum.inr (1 : Int)))
    else
    some (Sum.inl (s0, (s1, (Go.IntKind.wrap Go.IntKind.i64 (s2 - (1 : Int))))))
  else
  some (Sum.inr (Sum.inl ()))
noncomputable def F_s_l1Cmp (a0 : (List Int)) (a1 : (List Int)) : Option (Int) :=
  bif ((((List.length a0) : Nat) : Int) != (((List.length a1) : Nat) : Int)) then
    bif decide ((((List.length a0) : Nat) : Int) < (((List.length a1) : Nat) : Int)) then
      some (-(1 : Int))
    else
    some (1 : Int)
  else
  (loopM (fun (s : ((List Int) × ((List Int) × Int))) => B_s_l1Cmp_0 s.1 s.2.1 s.2.2) (a0, (a1, (Go.IntKind.wrap Go.IntKind.i64 ((((List.length a0) : Nat) : Int) - (1 : Int)))))).bind fun x0 =>
  Sum.elim
    (fun x1 =>
    some (0 : Int))
    (fun x2 =>
    some x2)
    x0
noncomputable def E_s_l1Cmp : Ent := ⟨a_s_l1Cmp, fun x => F_s_l1Cmp x.1 x.2⟩
noncomputable def X_s_l1Cmp : TX := ⟨tyTab, codTab, [], [4], [], a_s_l1Cmp⟩
set_option maxHeartbeats 2000000 in
theorem W_s_l1Cmp (a0 : List (Int)) (a1 : List (Int)) : wtF X_s_l1Cmp Try.f44 (a0, a1) = F_s_l1Cmp a0 a1 := by kernel_rfl
theorem OK_s_l1Cmp : EntOK RR E_s_l1Cmp := fn_done (X := X_s_l1Cmp) ⟨tyOK, boolOK, eqOK⟩ (ents_of (by exact trivial)) (cf_ok (by kernel_rfl)) ⟨Try.func44, rfl, by kernel_rfl, rfl⟩ (fun x => by exact W_s_l1Cmp x.1 x.2)

/-- loop.example/g00409/spec.l1Short -/
noncomputable def B_s_l1Short_0 (s0 : (List Int)) (s1 : (List Int)) (s2 : Int) (s3 : Int) (s4 : Int) : Option (((List Int) × ((List Int) × (Int × (Int × Int)))) ⊕ ((List Int) × Int)) :=
  bif decide (s4 ≥ (0 : Int)) then
    ((getI s1 s4)).bind fun x0 =>
    bif (s2 == (0 : Int)) then
      none
    else
    ((idxI s4 (List.length s0))).bind fun x1 =>
    ((getN s0 x1)).bind fun x2 =>
    bif (s2 == (0 : Int)) then
      none
    else
    some (Sum.inl ((List.set s0 x1 (Go.IntKind.wrap Go.IntKind.i64 (Int.tdiv (Go.IntKind.wrap Go.IntKind.i64 ((Go.IntKind.wrap Go.IntKind.i64 (s3 * (65536 : Int))) + x0)) s2))), (s1, (s2, ((Int.tmod (Go.IntKind.wrap Go.IntKind.i64 ((Go.IntKind.wrap Go.IntKind.i64 (s3 * (65536 : Int))) + x0)) s2), (Go.IntKind.wrap Go.IntKind.i64 (s4 - (1 : Int))))))))
  else
  some (Sum.inr (s0, s3))
noncomputable def F_s_l1Short (a0 : (List Int)) (a1 : Int) : Option (List (Int) × List (Int)) :=
  ((lenI (((List.length a0) : Nat) : Int) 8 1)).bind fun x0 =>
  (loopM (fun (s : ((List Int) × ((List Int) × (Int × (Int × Int))))) => B_s_l1Short_0 s.1 s.2.1 s.2.2.1 s.2.2.2.1 s.2.2.2.2) ((List.replicate x0 (0 : Int)), (a0, (a1, ((0 : Int), (Go.IntKind.wrap Go.IntKind.i64 ((((List.length a0) : Nat) : Int) - (1 : Int)))))))).bind fun x1 =>
  ((F_s_l1Cut x1.1)).bind fun x2 =>
  ((F_s_l1Cut (List.cons x1.2 List.nil))).bind fun x3 =>
  some (x2, x3)
noncomputable def E_s_l1Short : Ent := ⟨a_s_l1Short, fun x => F_s_l1Short x.1 x.2⟩
noncomputable def X_s_l1Short : TX := ⟨tyTab, codTab, [], [4], [E_s_l1Cut], a_s_l1Short⟩
set_option maxHeartbeats 2000000 in
theorem W_s_l1Short (a0 : List (Int)) (a1 : Int) : wtF X_s_l1Short Try.f71 (a0, a1) = F_s_l1Short a0 a1 := by kernel_rfl
theorem OK_s_l1Short : EntOK RR E_s_l1Short := fn_done (X := X_s_l1Short) ⟨tyOK, boolOK, eqOK⟩ (ents_of (by exact ⟨⟨OK_s_l1Cut, rfl⟩, trivial⟩)) (cf_ok (by kernel_rfl)) ⟨Try.func71, rfl, by kernel_rfl, rfl⟩ (fun x => by exact W_s_l1Short x.1 x.2)

/-- loop.example/g00409/spec.l1Up -/
noncomputable def B_s_l1Up_0 (s0 : (List Int)) (s1 : Int) (s2 : (List Int)) (s3 : Int) (s4 : Int) : Option (((List Int) × (Int × ((List Int) × (Int × Int)))) ⊕ (List Int)) :=
  bif decide (s4 < s3) then
    ((getI s2 s4)).bind fun x0 =>
    bif decide ((Go.IntKind.wrap Go.IntKind.u64 s1) < (0 : Int)) then
      none
    else
    ((idxI s4 (List.length s0))).bind fun x1 =>
    ((getN s0 x1)).bind fun x2 =>
    ((idxI s4 (List.length s0))).bind fun x3 =>
    ((getN s0 x3)).bind fun x4 =>
    ((idxI (Go.IntKind.wrap Go.IntKind.i64 (s4 + (1 : Int))) (List.length (List.set s0 x3 (orI Go.IntKind.i64 x2 (Int.tmod (shlI Go.IntKind.i64 x0 (Go.IntKind.wrap Go.IntKind.u64 s1)) (65536 : Int))))))).bind fun x5 =>
    ((getN (List.set s0 x3 (orI Go.IntKind.i64 x2 (Int.tmod (shlI Go.IntKind.i64 x0 (Go.IntKind.wrap Go.IntKind.u64 s1)) (65536 : Int)))) x5)).bind fun x6 =>
    some (Sum.inl ((List.set (List.set s0 x3 (orI Go.IntKind.i64 x2 (Int.tmod (shlI Go.IntKind.i64 x0 (Go.IntKind.wrap Go.IntKind.u64 s1)) (65536 : Int)))) x5 (Go.IntKind.wrap Go.IntKind.i64 (Int.tdiv (shlI Go.IntKind.i64 x0 (Go.IntKind.wrap Go.IntKind.u64 s1)) (65536 : Int)))), (s1, (s2, (s3, (Go.IntKind.wrap Go.IntKind.i64 (s4 + (1 : Int))))))))
  else
  some (Sum.inr s0)
noncomputable def F_s_l1Up (a0 : (List Int)) (a1 : Int) : Option (List (Int)) :=
  ((lenI (Go.IntKind.wrap Go.IntKind.i64 ((((List.length a0) : Nat) : Int) + (1 : Int))) 8 1)).bind fun x0 =>
  (loopM (fun (s : ((List Int) × (Int × ((List Int) × (Int × Int))))) => B_s_l1Up_0 s.1 s.2.1 s.2.2.1 s.2.2.2.1 s.2.2.2.2) ((List.replicate x0 (0 : Int)), (a1, (a0, ((((List.length a0) : Nat) : Int), (0 : Int)))))).bind fun x1 =>
  some x1
noncomputable def E_s_l1Up : Ent := ⟨a_s_l1Up, fun x => F_s_l1Up x.1 x.2⟩
noncomputable def X_s_l1Up : TX := ⟨tyTab, codTab, [], [4], [], a_s_l1Up⟩
set_option maxHeartbeats 2000000 in
theorem W_s_l1Up (a0 : List (Int)) (a1 : Int) : wtF X_s_l1Up Try.f72 (a0, a1) = F_s_l1Up a0 a1 := by kernel_rfl
theorem OK_s_l1Up : EntOK RR E_s_l1Up := fn_done (X := X_s_l1Up) ⟨tyOK, boolOK, eqOK⟩ (ents_of (by exact trivial)) (cf_ok (by kernel_rfl)) ⟨Try.func72, rfl, by kernel_rfl, rfl⟩ (fun x => by exact W_s_l1Up x.1 x.2)

/-- loop.example/g00409/spec.l1Guess -/
noncomputable def B_s_l1Guess_0 (s0 : (List Int)) (s1 : (List Int)) (s2 : Int) (s3 : Int) (s4 : Int) (s5 : Int) : Option (((List Int) × ((List Int) × (Int × (Int × (Int × Int))))) ⊕ Int) :=
  (bif decide (s5 < (65536 : Int)) then
      bif decide (s4 ≥ (65536 : Int)) then
        some (Sum.inr (s0, (s1, (s2, (s3, (s4, s5))))))
      else
      ((getI s1 (Go.IntKind.wrap Go.IntKind.i64 (s3 - (2 : Int))))).bind fun x0 =>
      ((getI s0 (Go.IntKind.wrap Go.IntKind.i64 ((Go.IntKind.wrap Go.IntKind.i64 (s2 + s3)) - (2 : Int))))).bind fun x1 =>
      bif decide ((Go.IntKind.wrap Go.IntKind.i64 (s4 * x0)) > (Go.IntKind.wrap Go.IntKind.i64 ((Go.IntKind.wrap Go.IntKind.i64 (s5 * (65536 : Int))) + x1))) then
        some (Sum.inr (s0, (s1, (s2, (s3, (s4, s5))))))
      else
      some (Sum.inl (Sum.inr s4))
    else
    some (Sum.inl (Sum.inr s4))).bind fun x2 =>
  Sum.elim
    (fun x3 =>
    some x3)
    (fun x4 =>
    ((getI x4.2.1 (Go.IntKind.wrap Go.IntKind.i64 (x4.2.2.2.1 - (1 : Int))))).bind fun x5 =>
    some (Sum.inl (x4.1, (x4.2.1, (x4.2.2.1, (x4.2.2.2.1, ((Go.IntKind.wrap Go.IntKind.i64 (x4.2.2.2.2.1 - (1 : Int))), (Go.IntKind.wrap Go.IntKind.i64 (x4.2.2.2.2.2 + x5)))))))))
    x2
noncomputable def F_s_l1Guess (a0 : (List Int)) (a1 : (List Int)) (a2 : Int) : Option (Int) :=
  ((getI a0 (Go.IntKind.wrap Go.IntKind.i64 (a2 + (((List.length a1) : Nat) : Int))))).bind fun x0 =>
  ((getI a0 (Go.IntKind.wrap Go.IntKind.i64 ((Go.IntKind.wrap Go.IntKind.i64 (a2 + (((List.length a1) : Nat) : Int))) - (1 : Int))))).bind fun x1 =>
  ((getI a1 (Go.IntKind.wrap Go.IntKind.i64 ((((List.length a1) : Nat) : Int) - (1 : Int))))).bind fun x2 =>
  bif (x2 == (0 : Int)) then
    none
  else
  ((getI a1 (Go.IntKind.wrap Go.IntKind.i64 ((((List.length a1) : Nat) : Int) - (1 : Int))))).bind fun x3 =>
  bif (x3 == (0 : Int)) then
    none
  else
  (loopM (fun (s : ((List Int) × ((List Int) × (Int × (Int × (Int × Int)))))) => B_s_l1Guess_0 s.1 s.2.1 s.2.2.1 s.2.2.2.1 s.2.2.2.2.1 s.2.2.2.2.2) (a0, (a1, (a2, ((((List.length a1) : Nat) : Int), ((Go.IntKind.wrap Go.IntKind.i64 (Int.tdiv (Go.IntKind.wrap Go.IntKind.i64 ((Go.IntKind.wrap Go.IntKind.i64 (x0 * (65536 : Int))) + x1)) x2)), (Int.tmod (Go.IntKind.wrap Go.IntKind.i64 ((Go.IntKind.wrap Go.IntKind.i64 (x0 * (65536 : Int))) + x1)) x3))))))).bind fun x4 =>
  some x4
noncomputable def E_s_l1Guess : Ent := ⟨a_s_l1Guess, fun x => F_s_l1Guess x.1 x.2.1 x.2.2⟩
noncomputable def X_s_l1Guess : TX := ⟨tyTab, codTab, [], [4], [], a_s_l1Guess⟩
set_option maxHeartbeats 2000000 in
theorem W_s_l1Guess (a0 : List (Int)) (a1 : List (Int)) (a2 : Int) : wtF X_s_l1Guess Try.f73 (a0, a1, a2) = F_s_l1Guess a0 a1 a2 := by kernel_rfl
theorem OK_s_l1Guess : EntOK RR E_s_l1Guess := fn_done (X := X_s_l1Guess) ⟨tyOK, boolOK, eqOK⟩ (ents_of (by exact trivial)) (cf_ok (by kernel_rfl)) ⟨Try.func73, rfl, by kernel_rfl, rfl⟩ (fun x => by exact W_s_l1Guess x.1 x.2.1 x.2.2)

/-- loop.example/g00409/spec.l1Less -/
noncomputable def B_s_l1Less_0 (s0 : (List Int)) (s1 : (List Int)) (s2 : Int) (s3 : Int) (s4 : Int) (s5 : Int) : Option (((List Int) × ((List Int) × (Int × (Int × (Int × Int))))) ⊕ ((List Int) × Int)) :=
  bif decide (s5 ≤ (((List.length s1) : Nat) : Int)) then
    ((idxI (Go.IntKind.wrap Go.IntKind.i64 (s2 + s5)) (List.length s0))).bind fun x0 =>
    ((getN s0 x0)).bind fun x1 =>
    ((F_s_l1Limb s1 s5)).bind fun x2 =>
    (bif decide ((Go.IntKind.wrap Go.IntKind.i64 ((Go.IntKind.wrap Go.IntKind.i64 (x1 - (Go.IntKind.wrap Go.IntKind.i64 (s3 * x2)))) - s4)) < (0 : Int)) then
        some (Sum.inr (s0, (s1, (s2, (s3, ((Go.IntKind.wrap Go.IntKind.i64 (Int.tdiv (Go.IntKind.wrap Go.IntKind.i64 ((Go.IntKind.wrap Go.IntKind.i64 ((Go.IntKind.wrap Go.IntKind.i64 ((0 : Int) - (Go.IntKind.wrap Go.IntKind.i64 ((Go.IntKind.wrap Go.IntKind.i64 (x1 - (Go.IntKind.wrap Go.IntKind.i64 (s3 * x2)))) - s4)))) + (65536 : Int))) - (1 : Int))) (65536 : Int))), (s5, (Go.IntKind.wrap Go.IntKind.i64 ((Go.IntKind.wrap Go.IntKind.i64 ((Go.IntKind.wrap Go.IntKind.i64 (x1 - (Go.IntKind.wrap Go.IntKind.i64 (s3 * x2)))) - s4)) + (Go.IntKind.wrap Go.IntKind.i64 ((Go.IntKind.wrap Go.IntKind.i64 (Int.tdiv (Go.IntKind.wrap Go.IntKind.i64 ((Go.IntKind.wrap Go.IntKind.i64 ((Go.IntKind.wrap Go.IntKind.i64 ((0 : Int) - (Go.IntKind.wrap Go.IntKind.i64 ((Go.IntKind.wrap Go.IntKind.i64 (x1 - (Go.IntKind.wrap Go.IntKind.i64 (s3 * x2)))) - s4)))) + (65536 : Int))) - (1 : Int))) (65536 : Int))) * (65536 : Int))))))))))))
      else
      some (Sum.inr (s0, (s1, (s2, (s3, ((0 : Int), (s5, (Go.IntKind.wrap Go.IntKind.i64 ((Go.IntKind.wrap Go.IntKind.i64 (x1 - (Go.IntKind.wrap Go.IntKind.i64 (s3 * x2)))) - s4)))))))))).bind fun x3 =>
    Sum.elim
      (fun x4 =>
      some x4)
      (fun x5 =>
      ((idxI (Go.IntKind.wrap Go.IntKind.i64 (x5.2.2.1 + x5.2.2.2.2.2.1)) (List.length x5.1))).bind fun x6 =>
      ((getN x5.1 x6)).bind fun x7 =>
      some (Sum.inl ((List.set x5.1 x6 x5.2.2.2.2.2.2), (x5.2.1, (x5.2.2.1, (x5.2.2.2.1, (x5.2.2.2.2.1, (Go.IntKind.wrap Go.IntKind.i64 (x5.2.2.2.2.2.1 + (1 : Int))))))))))
      x3
  else
  some (Sum.inr (s0, s4))
noncomputable def F_s_l1Less (a0 : (List Int)) (a1 : (List Int)) (a2 : Int) (a3 : Int) : Option (List (Int) × Int) :=
  (loopM (fun (s : ((List Int) × ((List Int) × (Int × (Int × (Int × Int)))))) => B_s_l1Less_0 s.1 s.2.1 s.2.2.1 s.2.2.2.1 s.2.2.2.2.1 s.2.2.2.2.2) (a0, (a1, (a2, (a3, ((0 : Int), (0 : Int))))))).bind fun x0 =>
  some (x0.1, x0.2)
noncomputable def E_s_l1Less : Ent := ⟨a_s_l1Less, fun x => F_s_l1Less x.1 x.2.1 x.2.2.1 x.2.2.2⟩
noncomputable def X_s_l1Less : TX := ⟨tyTab, codTab, [], [4], [E_s_l1Limb], a_s_l1Less⟩
set_option maxHeartbeats 2000000 in
theorem W_s_l1Less (a0 : List (Int)) (a1 : List (Int)) (a2 : Int) (a3 : Int) : wtF X_s_l1Less Try.f74 (a0, a1, a2, a3) = F_s_l1Less a0 a1 a2 a3 := by kernel_rfl
theorem OK_s_l1Less : EntOK RR E_s_l1Less := fn_done (X := X_s_l1Less) ⟨tyOK, boolOK, eqOK⟩ (ents_of (by exact ⟨⟨OK_s_l1Limb, rfl⟩, trivial⟩)) (cf_ok (by kernel_rfl)) ⟨Try.func74, rfl, by kernel_rfl, rfl⟩ (fun x => by exact W_s_l1Less x.1 x.2.1 x.2.2.1 x.2.2.2)

/-- loop.example/g00409/spec.l1Back -/
noncomputable def B_s_l1Back_0 (s0 : (List Int)) (s1 : (List Int)) (s2 : Int) (s3 : Int) (s4 : Int) : Option (((List Int) × ((List Int) × (Int × (Int × Int)))) ⊕ (List Int)) :=
  bif decide (s4 ≤ (((List.length s1) : Nat) : Int)) then
    ((idxI (Go.IntKind.wrap Go.IntKind.i64 (s2 + s4)) (List.length s0))).bind fun x0 =>
    ((getN s0 x0)).bind fun x1 =>
    ((F_s_l1Limb s1 s4)).bind fun x2 =>
    ((idxI (Go.IntKind.wrap Go.IntKind.i64 (s2 + s4)) (List.length s0))).bind fun x3 =>
    ((getN s0 x3)).bind fun x4 =>
    some (Sum.inl ((List.set s0 x3 (Int.tmod (Go.IntKind.wrap Go.IntKind.i64 ((Go.IntKind.wrap Go.IntKind.i64 (x1 + x2)) + s3)) (65536 : Int))), (s1, (s2, ((Go.IntKind.wrap Go.IntKind.i64 (Int.tdiv (Go.IntKind.wrap Go.IntKind.i64 ((Go.IntKind.wrap Go.IntKind.i64 (x1 + x2)) + s3)) (65536 : Int))), (Go.IntKind.wrap Go.IntKind.i64 (s4 + (1 : Int))))))))
  else
  some (Sum.inr s0)
noncomputable def F_s_l1Back (a0 : (List Int)) (a1 : (List Int)) (a2 : Int) : Option (List (Int)) :=
  (loopM (fun (s : ((List Int) × ((List Int) × (Int × (Int × Int))))) => B_s_l1Back_0 s.1 s.2.1 s.2.2.1 s.2.2.2.1 s.2.2.2.2) (a0, (a1, (a2, ((0 : Int), (0 : Int)))))).bind fun x0 =>
  some x0
noncomputable def E_s_l1Back : Ent := ⟨a_s_l1Back, fun x => F_s_l1Back x.1 x.2.1 x.2.2⟩
noncomputable def X_s_l1Back : TX := ⟨tyTab, codTab, [], [4], [E_s_l1Limb], a_s_l1Back⟩
set_option maxHeartbeats 2000000 in
theorem W_s_l1Back (a0 : List (Int)) (a1 : List (Int)) (a2 : Int) : wtF X_s_l1Back Try.f75 (a0, a1, a2) = F_s_l1Back a0 a1 a2 := by kernel_rfl
theorem OK_s_l1Back : EntOK RR E_s_l1Back := fn_done (X := X_s_l1Back) ⟨tyOK, boolOK, eqOK⟩ (ents_of (by exact ⟨⟨OK_s_l1Limb, rfl⟩, trivial⟩)) (cf_ok (by kernel_rfl)) ⟨Try.func75, rfl, by kernel_rfl, rfl⟩ (fun x => by exact W_s_l1Back x.1 x.2.1 x.2.2)

/-- loop.example/g00409/spec.l1Down -/
noncomputable def B_s_l1Down_0 (s0 : (List Int)) (s1 : (List Int)) (s2 : Int) (s3 : Int) (s4 : Int) : Option (((List Int) × ((List Int) × (Int × (Int × Int)))) ⊕ (List Int)) :=
  bif decide (s4 < s3) then
    ((getI s1 s4)).bind fun x0 =>
    ((F_s_l1Limb s1 (Go.IntKind.wrap Go.IntKind.i64 (s4 + (1 : Int))))).bind fun x1 =>
    bif decide ((Go.IntKind.wrap Go.IntKind.u64 s2) < (0 : Int)) then
      none
    else
    ((idxI s4 (List.length s0))).bind fun x2 =>
    ((getN s0 x2)).bind fun x3 =>
    some (Sum.inl ((List.set s0 x2 (Int.tmod (shrI Go.IntKind.i64 (orI Go.IntKind.i64 x0 (shlI Go.IntKind.i64 x1 (16 : Int))) (Go.IntKind.wrap Go.IntKind.u64 s2)) (65536 : Int))), (s1, (s2, (s3, (Go.IntKind.wrap Go.IntKind.i64 (s4 + (1 : Int))))))))
  else
  some (Sum.inr s0)
noncomputable def F_s_l1Down (a0 : (List Int)) (a1 : Int) : Option (List (Int)) :=
  ((lenI (((List.length a0) : Nat) : Int) 8 1)).bind fun x0 =>
  (loopM (fun (s : ((List Int) × ((List Int) × (Int × (Int × Int))))) => B_s_l1Down_0 s.1 s.2.1 s.2.2.1 s.2.2.2.1 s.2.2.2.2) ((List.replicate x0 (0 : Int)), (a0, (a1, ((((List.length a0) : Nat) : Int), (0 : Int)))))).bind fun x1 =>
  ((F_s_l1Cut x1)).bind fun x2 =>
  some x2
noncomputable def E_s_l1Down : Ent := ⟨a_s_l1Down, fun x => F_s_l1Down x.1 x.2⟩
noncomputable def X_s_l1Down : TX := ⟨tyTab, codTab, [], [4], [E_s_l1Limb, E_s_l1Cut], a_s_l1Down⟩
set_option maxHeartbeats 2000000 in
theorem W_s_l1Down (a0 : List (Int)) (a1 : Int) : wtF X_s_l1Down Try.f76 (a0, a1) = F_s_l1Down a0 a1 := by kernel_rfl
theorem OK_s_l1Down : EntOK RR E_s_l1Down := fn_done (X := X_s_l1Down) ⟨tyOK, boolOK, eqOK⟩ (ents_of (by exact ⟨⟨OK_s_l1Limb, rfl⟩, ⟨⟨OK_s_l1Cut, rfl⟩, trivial⟩⟩)) (cf_ok (by kernel_rfl)) ⟨Try.func76, rfl, by kernel_rfl, rfl⟩ (fun x => by exact W_s_l1Down x.1 x.2)

/-- loop.example/g00409/spec.l1DivLimbs -/
noncomputable def B_s_l1DivLimbs_0 (s0 : (List Int)) (s1 : (List Int)) (s2 : Int) : Option (((List Int) × ((List Int) × Int)) ⊕ ((List Int) × ((List Int) × Int))) :=
  ((getI s1 (Go.IntKind.wrap Go.IntKind.i64 ((((List.length s1) : Nat) : Int) - (1 : Int))))).bind fun x0 =>
  bif decide ((Go.IntKind.wrap Go.IntKind.u64 s2) < (0 : Int)) then
    none
  else
  bif decide ((shlI Go.IntKind.i64 x0 (Go.IntKind.wrap Go.IntKind.u64 s2)) < (32768 : Int)) then
    some (Sum.inl (s0, (s1, (Go.IntKind.wrap Go.IntKind.i64 (s2 + (1 : Int))))))
  else
  some (Sum.inr (s0, (s1, s2)))
noncomputable def B_s_l1DivLimbs_1 (s0 : (List Int)) (s1 : (List Int)) (s2 : (List Int)) (s3 : Int) (s4 : Int) : Option (((List Int) × ((List Int) × ((List Int) × (Int × Int)))) ⊕ ((List Int) × ((List Int) × Int))) :=
  bif decide (s4 ≥ (0 : Int)) then
    ((F_s_l1Guess s0 s1 s4)).bind fun x0 =>
    ((F_s_l1Less s0 s1 s4 x0)).bind fun x1 =>
    bif decide ((List.length x1.1) = (List.length s0)) then
      bif decide (x1.2 > (0 : Int)) then
        ((F_s_l1Back x1.1 s1 s4)).bind fun x2 =>
        bif decide ((List.length x2) = (List.length x1.1)) then
          ((idxI s4 (List.length s2))).bind fun x3 =>
          ((getN s2 x3)).bind fun x4 =>
          some (Sum.inl (x2, (s1, ((List.set s2 x3 (Go.IntKind.wrap Go.IntKind.i64 (x0 - (1 : Int)))), (s3, (Go.IntKind.wrap Go.IntKind.i64 (s4 - (1 : Int))))))))
        else
        none
      else
      ((idxI s4 (List.length s2))).bind fun x5 =>
      ((getN s2 x5)).bind fun x6 =>
      some (Sum.inl (x1.1, (s1, ((List.set s2 x5 x0), (s3, (Go.IntKind.wrap Go.IntKind.i64 (s4 - (1 : Int))))))))
    else
    none
  else
  some (Sum.inr (s0, (s2, s3)))
noncomputable def F_s_l1DivLimbs (a0 : (List Int)) (a1 : (List Int)) : Option (List (Int) × List (Int)) :=
  ((F_s_l1Cut a0)).bind fun x0 =>
  ((F_s_l1Cmp x0 a1)).bind fun x1 =>
  bif decide (x1 < (0 : Int)) then
    some (List.nil, x0)
  else
  bif ((((List.length a1) : Nat) : Int) == (1 : Int)) then
    ((getI a1 (0 : Int))).bind fun x2 =>
    ((F_s_l1Short x0 x2)).bind fun x3 =>
    some (x3.1, x3.2)
  else
  (loopM (fun (s : ((List Int) × ((List Int) × Int))) => B_s_l1DivLimbs_0 s.1 s.2.1 s.2.2) (x0, (a1, (0 : Int)))).bind fun x4 =>
  ((F_s_l1Up x4.1 x4.2.2)).bind fun x5 =>
  ((F_s_l1Up x4.2.1 x4.2.2)).bind fun x6 =>
  ((F_s_l1Cut x6)).bind fun x7 =>
  ((lenI (Go.IntKind.wrap Go.IntKind.i64 ((Go.IntKind.wrap Go.IntKind.i64 ((((List.length x4.1) : Nat) : Int) - (((List.length x4.2.1) : Nat) : Int))) + (1 : Int))) 8 1)).bind fun x8 =>
  (loopM (fun (s : ((List Int) × ((List Int) × ((List Int) × (Int × Int))))) => B_s_l1DivLimbs_1 s.1 s.2.1 s.2.2.1 s.2.2.2.1 s.2.2.2.2) (x5, (x7, ((List.replicate x8 (0 : Int)), (x4.2.2, (Go.IntKind.wrap Go.IntKind.i64 ((((List.length x4.1) : Nat) : Int) - (((List.length x4.2.1) : Nat) : Int)))))))).bind fun x9 =>
  ((F_s_l1Cut x9.2.1)).bind fun x10 =>
  ((F_s_l1Cut x9.1)).bind fun x11 =>
  ((F_s_l1Down x11 x9.2.2)).bind fun x12 =>
  some (x10, x12)
noncomputable def E_s_l1DivLimbs : Ent := ⟨a_s_l1DivLimbs, fun x => F_s_l1DivLimbs x.1 x.2⟩
noncomputable def X_s_l1DivLimbs : TX := ⟨tyTab, codTab, [], [4], [E_s_l1Cut, E_s_l1Cmp, E_s_l1Short, E_s_l1Up, E_s_l1Guess, E_s_l1Less, E_s_l1Back, E_s_l1Down], a_s_l1DivLimbs⟩
set_option maxHeartbeats 2000000 in
theorem W_s_l1DivLimbs (a0 : List (Int)) (a1 : List (Int)) : wtF X_s_l1DivLimbs Try.f57 (a0, a1) = F_s_l1DivLimbs a0 a1 := by kernel_rfl
theorem OK_s_l1DivLimbs : EntOK RR E_s_l1DivLimbs := fn_done (X := X_s_l1DivLimbs) ⟨tyOK, boolOK, eqOK⟩ (ents_of (by exact ⟨⟨OK_s_l1Cut, rfl⟩, ⟨⟨OK_s_l1Cmp, rfl⟩, ⟨⟨OK_s_l1Short, rfl⟩, ⟨⟨OK_s_l1Up, rfl⟩, ⟨⟨OK_s_l1Guess, rfl⟩, ⟨⟨OK_s_l1Less, rfl⟩, ⟨⟨OK_s_l1Back, rfl⟩, ⟨⟨OK_s_l1Down, rfl⟩, trivial⟩⟩⟩⟩⟩⟩⟩⟩)) (cf_ok (by kernel_rfl)) ⟨Try.func57, rfl, by kernel_rfl, rfl⟩ (fun x => by exact W_s_l1DivLimbs x.1 x.2)

/-- loop.example/g00409/spec.l1Div -/
noncomputable def F_s_l1Div (a0 : (Bool × (List Int))) (a1 : (Bool × (List Int))) : Option ((Bool × List (Int)) × (Bool × List (Int))) :=
  ((F_s_l1DivLimbs a0.2 a1.2)).bind fun x0 =>
  ((F_s_l1Make (!(a0.1 == a1.1)) x0.1)).bind fun x1 =>
  ((F_s_l1Make a0.1 x0.2)).bind fun x2 =>
  some ((x1.2, x1.1), (x2.2, x2.1))
noncomputable def E_s_l1Div : Ent := ⟨a_s_l1Div, fun x => F_s_l1Div x.1 x.2⟩
noncomputable def X_s_l1Div : TX := ⟨tyTab, codTab, [], [4], [E_s_l1DivLimbs, E_s_l1Make], a_s_l1Div⟩
set_option maxHeartbeats 2000000 in
theorem W_s_l1Div (a0 : (Bool × List (Int))) (a1 : (Bool × List (Int))) : wtF X_s_l1Div Try.f31 (a0, a1) = F_s_l1Div a0 a1 := by kernel_rfl
theorem OK_s_l1Div : EntOK RR E_s_l1Div := fn_done (X := X_s_l1Div) ⟨tyOK, boolOK, eqOK⟩ (ents_of (by exact ⟨⟨OK_s_l1DivLimbs, rfl⟩, ⟨⟨OK_s_l1Make, rfl⟩, trivial⟩⟩)) (cf_ok (by kernel_rfl)) ⟨Try.func31, rfl, by kernel_rfl, rfl⟩ (fun x => by exact W_s_l1Div x.1 x.2)

/-- loop.example/g00409/spec.DivBig -/
noncomputable def F_s_DivBig (a0 : (Bool × (List Int))) (a1 : (Bool × (List Int))) : Option ((Bool × List (Int)) × (Bool × List (Int)) × Bool) :=
  ((F_s_GoodBig (a0.1, a0.2))).bind fun x0 =>
  bif (!x0) then
    some ((false, List.nil), ((false, List.nil), false))
  else
  ((F_s_GoodBig (a1.1, a1.2))).bind fun x1 =>
  bif (!x1) then
    some ((false, List.nil), ((false, List.nil), false))
  else
  bif ((((List.length a1.2) : Nat) : Int) == (0 : Int)) then
    some ((false, List.nil), ((false, List.nil), false))
  else
  ((F_s_l1Div (a0.1, a0.2) (a1.1, a1.2))).bind fun x2 =>
  some ((x2.1.1, x2.1.2), ((x2.2.1, x2.2.2), true))
noncomputable def E_s_DivBig : Ent := ⟨a_s_DivBig, fun x => F_s_DivBig x.1 x.2⟩
noncomputable def X_s_DivBig : TX := ⟨tyTab, codTab, [], [4], [E_s_GoodBig, E_s_l1Div], a_s_DivBig⟩
set_option maxHeartbeats 2000000 in
theorem W_s_DivBig (a0 : (Bool × List (Int))) (a1 : (Bool × List (Int))) : wtF X_s_DivBig Try.f10 (a0, a1) = F_s_DivBig a0 a1 := by kernel_rfl
theorem OK_s_DivBig : EntOK RR E_s_DivBig := fn_done (X := X_s_DivBig) ⟨tyOK, boolOK, eqOK⟩ (ents_of (by exact ⟨⟨OK_s_GoodBig, rfl⟩, ⟨⟨OK_s_l1Div, rfl⟩, trivial⟩⟩)) (cf_ok (by kernel_rfl)) ⟨Try.func10, rfl, by kernel_rfl, rfl⟩ (fun x => by exact W_s_DivBig x.1 x.2)

/-- (loop.example/g00409/impl.Big).gcd -/
noncomputable def B_i_Big_gcd_0 (s0 : (Bool × (List Int))) (s1 : (List Int)) (s2 : (List Int)) : Option (((Bool × (List Int)) × ((List Int) × (List Int))) ⊕ ((Bool × (List Int)) × (List Int))) :=
  bif decide ((((List.length s2) : Nat) : Int) > (0 : Int)) then
    ((F_i_divLimbs s1 s2)).bind fun x0 =>
    some (Sum.inl ((s0.1, s0.2), (s2, x0.2)))
  else
  some (Sum.inr ((s0.1, s0.2), s1))
noncomputable def F_i_Big_gcd (a0 : (Bool × (List Int))) (a1 : (Bool × (List Int))) : Option ((Bool × List (Int))) :=
  (loopM (fun (s : ((Bool × (List Int)) × ((List Int) × (List Int)))) => B_i_Big_gcd_0 s.1 s.2.1 s.2.2) ((false, List.nil), (a0.2, a1.2))).bind fun x0 =>
  ((F_i_bigOf false x0.2)).bind fun x1 =>
  some (x1.2, x1.1)
noncomputable def E_i_Big_gcd : Ent := ⟨a_i_Big_gcd, fun x => F_i_Big_gcd x.1 x.2⟩
noncomputable def X_i_Big_gcd : TX := ⟨tyTab, codTab, [], [4], [E_i_divLimbs, E_i_bigOf], a_i_Big_gcd⟩
set_option maxHeartbeats 2000000 in
theorem W_i_Big_gcd (a0 : (Bool × List (Int))) (a1 : (Bool × List (Int))) : wtF X_i_Big_gcd Try.f32 (a0, a1) = F_i_Big_gcd a0 a1 := by kernel_rfl
theorem OK_i_Big_gcd : EntOK RR E_i_Big_gcd := fn_done (X := X_i_Big_gcd) ⟨tyOK, boolOK, eqOK⟩ (ents_of (by exact ⟨⟨OK_i_divLimbs, rfl⟩, ⟨⟨OK_i_bigOf, rfl⟩, trivial⟩⟩)) (cf_ok (by kernel_rfl)) ⟨Try.func32, rfl, by kernel_rfl, rfl⟩ (fun x => by exact W_i_Big_gcd x.1 x.2)

/-- loop.example/g00409/impl.GcdBig -/
noncomputable def F_i_GcdBig (a0 : (Bool × (List Int))) (a1 : (Bool × (List Int))) : Option ((Bool × List (Int)) × Bool) :=
  ((F_i_areBig (List.cons (a0.1, a0.2) (List.cons (a1.1, a1.2) List.nil)))).bind fun x0 =>
  bif (!x0) then
    some ((false, List.nil), false)
  else
  ((F_i_Big_gcd (a0.1, a0.2) (a1.1, a1.2))).bind fun x1 =>
  some ((x1.1, x1.2), true)
noncomputable def E_i_GcdBig : Ent := ⟨a_i_GcdBig, fun x => F_i_GcdBig x.1 x.2⟩
noncomputable def X_i_GcdBig : TX := ⟨tyTab, codTab, [], [4], [E_i_areBig, E_i_Big_gcd], a_i_GcdBig⟩
set_option maxHeartbeats 2000000 in
theorem W_i_GcdBig (a0 : (Bool × List (Int))) (a1 : (Bool × List (Int))) : wtF X_i_GcdBig Try.f11 (a0, a1) = F_i_GcdBig a0 a1 := by kernel_rfl
theorem OK_i_GcdBig : EntOK RR E_i_GcdBig := fn_done (X := X_i_GcdBig) ⟨tyOK, boolOK, eqOK⟩ (ents_of (by exact ⟨⟨OK_i_areBig, rfl⟩, ⟨⟨OK_i_Big_gcd, rfl⟩, trivial⟩⟩)) (cf_ok (by kernel_rfl)) ⟨Try.func11, rfl, by kernel_rfl, rfl⟩ (fun x => by exact W_i_GcdBig x.1 x.2)

/-- loop.example/g00409/spec.l1Gcd -/
noncomputable def B_s_l1Gcd_0 (s0 : (List Int)) (s1 : (List Int)) : Option (((List Int) × (List Int)) ⊕ (List Int)) :=
  bif decide ((((List.length s1) : Nat) : Int) > (0 : Int)) then
    ((F_s_l1DivLimbs s0 s1)).bind fun x0 =>
    some (Sum.inl (s1, x0.2))
  else
  some (Sum.inr s0)
noncomputable def F_s_l1Gcd (a0 : (List Int)) (a1 : (List Int)) : Option (List (Int)) :=
  (loopM (fun (s : ((List Int) × (List Int))) => B_s_l1Gcd_0 s.1 s.2) (a0, a1)).bind fun x0 =>
  ((F_s_l1Cut x0)).bind fun x1 =>
  some x1
noncomputable def E_s_l1Gcd : Ent := ⟨a_s_l1Gcd, fun x => F_s_l1Gcd x.1 x.2⟩
noncomputable def X_s_l1Gcd : TX := ⟨tyTab, codTab, [], [4], [E_s_l1DivLimbs, E_s_l1Cut], a_s_l1Gcd⟩
set_option maxHeartbeats 2000000 in
theorem W_s_l1Gcd (a0 : List (Int)) (a1 : List (Int)) : wtF X_s_l1Gcd Try.f33 (a0, a1) = F_s_l1Gcd a0 a1 := by kernel_rfl
theorem OK_s_l1Gcd : EntOK RR E_s_l1Gcd := fn_done (X := X_s_l1Gcd) ⟨tyOK, boolOK, eqOK⟩ (ents_of (by exact ⟨⟨OK_s_l1DivLimbs, rfl⟩, ⟨⟨OK_s_l1Cut, rfl⟩, trivial⟩⟩)) (cf_ok (by kernel_rfl)) ⟨Try.func33, rfl, by kernel_rfl, rfl⟩ (fun x => by exact W_s_l1Gcd x.1 x.2)

/-- loop.example/g00409/spec.GcdBig -/
noncomputable def F_s_GcdBig (a0 : (Bool × (List Int))) (a1 : (Bool × (List Int))) : Option ((Bool × List (Int)) × Bool) :=
  ((F_s_GoodBig (a0.1, a0.2))).bind fun x0 =>
  bif (!x0) then
    some ((false, List.nil), false)
  else
  ((F_s_GoodBig (a1.1, a1.2))).bind fun x1 =>
  bif (!x1) then
    some ((false, List.nil), false)
  else
  ((F_s_l1Gcd a0.2 a1.2)).bind fun x2 =>
  ((F_s_l1Make false x2)).bind fun x3 =>
  some ((x3.2, x3.1), true)
noncomputable def E_s_GcdBig : Ent := ⟨a_s_GcdBig, fun x => F_s_GcdBig x.1 x.2⟩
noncomputable def X_s_GcdBig : TX := ⟨tyTab, codTab, [], [4], [E_s_GoodBig, E_s_l1Gcd, E_s_l1Make], a_s_GcdBig⟩
set_option maxHeartbeats 2000000 in
theorem W_s_GcdBig (a0 : (Bool × List (Int))) (a1 : (Bool × List (Int))) : wtF X_s_GcdBig Try.f12 (a0, a1) = F_s_GcdBig a0 a1 := by kernel_rfl
theorem OK_s_GcdBig : EntOK RR E_s_GcdBig := fn_done (X := X_s_GcdBig) ⟨tyOK, boolOK, eqOK⟩ (ents_of (by exact ⟨⟨OK_s_GoodBig, rfl⟩, ⟨⟨OK_s_l1Gcd, rfl⟩, ⟨⟨OK_s_l1Make, rfl⟩, trivial⟩⟩⟩)) (cf_ok (by kernel_rfl)) ⟨Try.func12, rfl, by kernel_rfl, rfl⟩ (fun x => by exact W_s_GcdBig x.1 x.2)

/-- loop.example/g00409/laws.sameInts -/
noncomputable def B_l_sameInts_0 (s0 : (List Int)) (s1 : (List Int)) (s2 : Int) (s3 : Int) : Option (((List Int) × ((List Int) × (Int × Int))) ⊕ (Unit ⊕ Bool)) :=
  bif decide (s3 < s2) then
    ((getI s0 s3)).bind fun x0 =>
    ((getI s1 s3)).bind fun x1 =>
    bif (x0 != x1) then
      some (Sum.inr (Sum.inr false))
    else
    some (Sum.inl (s0, (s1, (s2, (Go.IntKind.wrap Go.IntKind.i64 (s3 + (1 : Int)))))))
  else
  some (Sum.inr (Sum.inl ()))
noncomputable def F_l_sameInts (a0 : (List Int)) (a1 : (List Int)) : Option (Bool) :=
  bif ((((List.length a0) : Nat) : Int) != (((List.length a1) : Nat) : Int)) then
    some false
  else
  (loopM (fun (s : ((List Int) × ((List Int) × (Int × Int)))) => B_l_sameInts_0 s.1 s.2.1 s.2.2.1 s.2.2.2) (a0, (a1, ((((List.length a0) : Nat) : Int), (0 : Int))))).bind fun x0 =>
  Sum.elim
    (fun x1 =>
    some true)
    (fun x2 =>
    some x2)
    x0
noncomputable def E_l_sameInts : Ent := ⟨a_l_sameInts, fun x => F_l_sameInts x.1 x.2⟩
noncomputable def X_l_sameInts : TX := ⟨tyTab, codTab, [], [4], [], a_l_sameInts⟩
set_option maxHeartbeats 2000000 in
theorem W_l_sameInts (a0 : List (Int)) (a1 : List (Int)) : wtF X_l_sameInts Try.f34 (a0, a1) = F_l_sameInts a0 a1 := by kernel_rfl
theorem OK_l_sameInts : EntOK RR E_l_sameInts := fn_done (X := X_l_sameInts) ⟨tyOK, boolOK, eqOK⟩ (ents_of (by exact trivial)) (cf_ok (by kernel_rfl)) ⟨Try.func34, rfl, by kernel_rfl, rfl⟩ (fun x => by exact W_l_sameInts x.1 x.2)

/-- loop.example/g00409/laws.sameBig -/
noncomputable def F_l_sameBig (a0 : (Bool × (List Int))) (a1 : (Bool × (List Int))) : Option (Bool) :=
  bif (a0.1 == a1.1) then
    ((F_l_sameInts a0.2 a1.2)).bind fun x0 =>
    some x0
  else
  some false
noncomputable def E_l_sameBig : Ent := ⟨a_l_sameBig, fun x => F_l_sameBig x.1 x.2⟩
noncomputable def X_l_sameBig : TX := ⟨tyTab, codTab, [], [4], [E_l_sameInts], a_l_sameBig⟩
set_option maxHeartbeats 2000000 in
theorem W_l_sameBig (a0 : (Bool × List (Int))) (a1 : (Bool × List (Int))) : wtF X_l_sameBig Try.f13 (a0, a1) = F_l_sameBig a0 a1 := by kernel_rfl
theorem OK_l_sameBig : EntOK RR E_l_sameBig := fn_done (X := X_l_sameBig) ⟨tyOK, boolOK, eqOK⟩ (ents_of (by exact ⟨⟨OK_l_sameInts, rfl⟩, trivial⟩)) (cf_ok (by kernel_rfl)) ⟨Try.func13, rfl, by kernel_rfl, rfl⟩ (fun x => by exact W_l_sameBig x.1 x.2)

/-- loop.example/g00409/laws.zeroBig -/
noncomputable def F_l_zeroBig (a0 : (Bool × (List Int))) : Option (Bool) :=
  some ((((List.length a0.2) : Nat) : Int) == (0 : Int))
noncomputable def E_l_zeroBig : Ent := ⟨a_l_zeroBig, fun x => F_l_zeroBig x⟩
noncomputable def X_l_zeroBig : TX := ⟨tyTab, codTab, [], [4], [], a_l_zeroBig⟩
set_option maxHeartbeats 2000000 in
theorem W_l_zeroBig (a0 : (Bool × List (Int))) : wtF X_l_zeroBig Try.f14 (a0) = F_l_zeroBig a0 := by kernel_rfl
theorem OK_l_zeroBig : EntOK RR E_l_zeroBig := fn_done (X := X_l_zeroBig) ⟨tyOK, boolOK, eqOK⟩ (ents_of (by exact trivial)) (cf_ok (by kernel_rfl)) ⟨Try.func14, rfl, by kernel_rfl, rfl⟩ (fun x => by exact W_l_zeroBig x)

/-- loop.example/g00409/impl.addLimbs -/
noncomputable def B_i_addLimbs_0 (s0 : (List Int)) (s1 : (List Int)) (s2 : (List Int)) (s3 : Int) (s4 : Int) : Option (((List Int) × ((List Int) × ((List Int) × (Int × Int)))) ⊕ (List Int)) :=
  (bif decide (s4 < (maxL (List.cons (((List.length s1) : Nat) : Int) (List.cons (((List.length s2) : Nat) : Int) List.nil)))) then
      some (Sum.inr (s0, (s1, (s2, (s3, s4)))))
    else
    bif decide (s3 > (0 : Int)) then
      some (Sum.inr (s0, (s1, (s2, (s3, s4)))))
    else
    some (Sum.inl (Sum.inr s0))).bind fun x0 =>
  Sum.elim
    (fun x1 =>
    some x1)
    (fun x2 =>
    (bif decide (x2.2.2.2.2 < (((List.length x2.2.1) : Nat) : Int)) then
        ((getI x2.2.1 x2.2.2.2.2)).bind fun x3 =>
        some (Sum.inr (x2.1, (x2.2.1, (x2.2.2.1, ((Go.IntKind.wrap Go.IntKind.i64 (x2.2.2.2.1 + x3)), x2.2.2.2.2)))))
      else
      some (Sum.inr (x2.1, (x2.2.1, (x2.2.2.1, (x2.2.2.2.1, x2.2.2.2.2)))))).bind fun x4 =>
    Sum.elim
      (fun x5 =>
      some x5)
      (fun x6 =>
      (bif decide (x6.2.2.2.2 < (((List.length x6.2.2.1) : Nat) : Int)) then
          ((getI x6.2.2.1 x6.2.2.2.2)).bind fun x7 =>
          some (Sum.inr (x6.1, (x6.2.1, (x6.2.2.1, ((Go.IntKind.wrap Go.IntKind.i64 (x6.2.2.2.1 + x7)), x6.2.2.2.2)))))
        else
        some (Sum.inr (x6.1, (x6.2.1, (x6.2.2.1, (x6.2.2.2.1, x6.2.2.2.2)))))).bind fun x8 =>
      Sum.elim
        (fun x9 =>
        some x9)
        (fun x10 =>
        ((appL 8 1 x10.1 (List.cons (Int.tmod x10.2.2.2.1 (65536 : Int)) List.nil))).bind fun x11 =>
        some (Sum.inl (x11, (x10.2.1, (x10.2.2.1, ((Go.IntKind.wrap Go.IntKind.i64 (Int.tdiv x10.2.2.2.1 (65536 : Int))), (Go.IntKind.wrap Go.IntKind.i64 (x10.2.2.2.2 + (1 : Int)))))))))
        x8)
      x4)
    x0
noncomputable def F_i_addLimbs (a0 : (List Int)) (a1 : (List Int)) : Option (List (Int)) :=
  (loopM (fun (s : ((List Int) × ((List Int) × ((List Int) × (Int × Int))))) => B_i_addLimbs_0 s.1 s.2.1 s.2.2.1 s.2.2.2.1 s.2.2.2.2) (List.nil, (a0, (a1, ((0 : Int), (0 : Int)))))).bind fun x0 =>
  some x0
noncomputable def E_i_addLimbs : Ent := ⟨a_i_addLimbs, fun x => F_i_addLimbs x.1 x.2⟩
noncomputable def X_i_addLimbs : TX := ⟨tyTab, codTab, [], [4], [], a_i_addLimbs⟩
set_option maxHeartbeats 2000000 in
theorem W_i_addLimbs (a0 : List (Int)) (a1 : List (Int)) : wtF X_i_addLimbs Try.f58 (a0, a1) = F_i_addLimbs a0 a1 := by kernel_rfl
theorem OK_i_addLimbs : EntOK RR E_i_addLimbs := fn_done (X := X_i_addLimbs) ⟨tyOK, boolOK, eqOK⟩ (ents_of (by exact trivial)) (cf_ok (by kernel_rfl)) ⟨Try.func58, rfl, by kernel_rfl, rfl⟩ (fun x => by exact W_i_addLimbs x.1 x.2)

/-- loop.example/g00409/impl.subLimbs -/
noncomputable def B_i_subLimbs_0 (s0 : (List Int)) (s1 : (List Int)) (s2 : Int) (s3 : Int) (s4 : Int) : Option (((List Int) × ((List Int) × (Int × (Int × Int)))) ⊕ (List Int)) :=
  bif decide (s4 < s3) then
    ((idxI s4 (List.length s0))).bind fun x0 =>
    ((getN s0 x0)).bind fun x1 =>
    ((idxI s4 (List.length s0))).bind fun x2 =>
    ((getN s0 x2)).bind fun x3 =>
    (bif decide (s4 < (((List.length s1) : Nat) : Int)) then
        ((idxI s4 (List.length (List.set s0 x2 (Go.IntKind.wrap Go.IntKind.i64 (x1 - s2)))))).bind fun x4 =>
        ((getN (List.set s0 x2 (Go.IntKind.wrap Go.IntKind.i64 (x1 - s2))) x4)).bind fun x5 =>
        ((getI s1 s4)).bind fun x6 =>
        ((idxI s4 (List.length (List.set s0 x2 (Go.IntKind.wrap Go.IntKind.i64 (x1 - s2)))))).bind fun x7 =>
        ((getN (List.set s0 x2 (Go.IntKind.wrap Go.IntKind.i64 (x1 - s2))) x7)).bind fun x8 =>
        some (Sum.inr ((List.set (List.set s0 x2 (Go.IntKind.wrap Go.IntKind.i64 (x1 - s2))) x7 (Go.IntKind.wrap Go.IntKind.i64 (x5 - x6))), (s1, (s4, (s3, s4)))))
      else
      some (Sum.inr ((List.set s0 x2 (Go.IntKind.wrap Go.IntKind.i64 (x1 - s2))), (s1, (s4, (s3, s4)))))).bind fun x9 =>
    Sum.elim
      (fun x10 =>
      some x10)
      (fun x11 =>
      ((idxI x11.2.2.1 (List.length x11.1))).bind fun x12 =>
      ((getN x11.1 x12)).bind fun x13 =>
      bif decide (x13 < (0 : Int)) then
        ((idxI x11.2.2.1 (List.length x11.1))).bind fun x14 =>
        ((getN x11.1 x14)).bind fun x15 =>
        ((idxI x11.2.2.1 (List.length x11.1))).bind fun x16 =>
        ((getN x11.1 x16)).bind fun x17 =>
        some (Sum.inl ((List.set x11.1 x16 (Go.IntKind.wrap Go.IntKind.i64 (x15 + (65536 : Int)))), (x11.2.1, ((1 : Int), (x11.2.2.2.1, (Go.IntKind.wrap Go.IntKind.i64 (x11.2.2.2.2 + (1 : Int))))))))
      else
      some (Sum.inl (x11.1, (x11.2.1, ((0 : Int), (x11.2.2.2.1, (Go.IntKind.wrap Go.IntKind.i64 (x11.2.2.2.2 + (1 : Int)))))))))
      x9
  else
  some (Sum.inr s0)
noncomputable def F_i_subLimbs (a0 : (List Int)) (a1 : (List Int)) : Option (List (Int)) :=
  ((F_slices_Clone_Sint_int a0)).bind fun x0 =>
  (loopM (fun (s : ((List Int) × ((List Int) × (Int × (Int × Int))))) => B_i_subLimbs_0 s.1 s.2.1 s.2.2.1 s.2.2.2.1 s.2.2.2.2) (x0, (a1, ((0 : Int), ((((List.length x0) : Nat) : Int), (0 : Int)))))).bind fun x1 =>
  ((F_i_cut x1)).bind fun x2 =>
  some x2
noncomputable def E_i_subLimbs : Ent := ⟨a_i_subLimbs, fun x => F_i_subLimbs x.1 x.2⟩
noncomputable def X_i_subLimbs : TX := ⟨tyTab, codTab, [], [4], [E_slices_Clone_Sint_int, E_i_cut], a_i_subLimbs⟩
set_option maxHeartbeats 2000000 in
theorem W_i_subLimbs (a0 : List (Int)) (a1 : List (Int)) : wtF X_i_subLimbs Try.f59 (a0, a1) = F_i_subLimbs a0 a1 := by kernel_rfl
theorem OK_i_subLimbs : EntOK RR E_i_subLimbs := fn_done (X := X_i_subLimbs) ⟨tyOK, boolOK, eqOK⟩ (ents_of (by exact ⟨⟨OK_slices_Clone_Sint_int, rfl⟩, ⟨⟨OK_i_cut, rfl⟩, trivial⟩⟩)) (cf_ok (by kernel_rfl)) ⟨Try.func59, rfl, by kernel_rfl, rfl⟩ (fun x => by exact W_i_subLimbs x.1 x.2)

/-- (loop.example/g00409/impl.Big).add -/
noncomputable def F_i_Big_add (a0 : (Bool × (List Int))) (a1 : (Bool × (List Int))) : Option ((Bool × List (Int))) :=
  bif (a0.1 == a1.1) then
    ((F_i_addLimbs a0.2 a1.2)).bind fun x0 =>
    ((F_i_bigOf a0.1 x0)).bind fun x1 =>
    some (x1.2, x1.1)
  else
  ((F_i_compareLimbs a0.2 a1.2)).bind fun x2 =>
  bif decide (x2 ≥ (0 : Int)) then
    ((F_i_subLimbs a0.2 a1.2)).bind fun x3 =>
    ((F_i_bigOf a0.1 x3)).bind fun x4 =>
    some (x4.2, x4.1)
  else
  ((F_i_subLimbs a1.2 a0.2)).bind fun x5 =>
  ((F_i_bigOf a1.1 x5)).bind fun x6 =>
  some (x6.2, x6.1)
noncomputable def E_i_Big_add : Ent := ⟨a_i_Big_add, fun x => F_i_Big_add x.1 x.2⟩
noncomputable def X_i_Big_add : TX := ⟨tyTab, codTab, [], [4], [E_i_addLimbs, E_i_bigOf, E_i_compareLimbs, E_i_subLimbs], a_i_Big_add⟩
set_option maxHeartbeats 2000000 in
theorem W_i_Big_add (a0 : (Bool × List (Int))) (a1 : (Bool × List (Int))) : wtF X_i_Big_add Try.f35 (a0, a1) = F_i_Big_add a0 a1 := by kernel_rfl
theorem OK_i_Big_add : EntOK RR E_i_Big_add := fn_done (X := X_i_Big_add) ⟨tyOK, boolOK, eqOK⟩ (ents_of (by exact ⟨⟨OK_i_addLimbs, rfl⟩, ⟨⟨OK_i_bigOf, rfl⟩, ⟨⟨OK_i_compareLimbs, rfl⟩, ⟨⟨OK_i_subLimbs, rfl⟩, trivial⟩⟩⟩⟩)) (cf_ok (by kernel_rfl)) ⟨Try.func35, rfl, by kernel_rfl, rfl⟩ (fun x => by exact W_i_Big_add x.1 x.2)

/-- loop.example/g00409/impl.AddBig -/
noncomputable def F_i_AddBig (a0 : (Bool × (List Int))) (a1 : (Bool × (List Int))) : Option ((Bool × List (Int)) × Bool) :=
  ((F_i_areBig (List.cons (a0.1, a0.2) (List.cons (a1.1, a1.2) List.nil)))).bind fun x0 =>
  bif (!x0) then
    some ((false, List.nil), false)
  else
  ((F_i_Big_add (a0.1, a0.2) (a1.1, a1.2))).bind fun x1 =>
  ((F_i_checked (x1.1, x1.2))).bind fun x2 =>
  some ((x2.1.1, x2.1.2), x2.2)
noncomputable def E_i_AddBig : Ent := ⟨a_i_AddBig, fun x => F_i_AddBig x.1 x.2⟩
noncomputable def X_i_AddBig : TX := ⟨tyTab, codTab, [], [4], [E_i_areBig, E_i_Big_add, E_i_checked], a_i_AddBig⟩
set_option maxHeartbeats 2000000 in
theorem W_i_AddBig (a0 : (Bool × List (Int))) (a1 : (Bool × List (Int))) : wtF X_i_AddBig Try.f15 (a0, a1) = F_i_AddBig a0 a1 := by kernel_rfl
theorem OK_i_AddBig : EntOK RR E_i_AddBig := fn_done (X := X_i_AddBig) ⟨tyOK, boolOK, eqOK⟩ (ents_of (by exact ⟨⟨OK_i_areBig, rfl⟩, ⟨⟨OK_i_Big_add, rfl⟩, ⟨⟨OK_i_checked, rfl⟩, trivial⟩⟩⟩)) (cf_ok (by kernel_rfl)) ⟨Try.func15, rfl, by kernel_rfl, rfl⟩ (fun x => by exact W_i_AddBig x.1 x.2)

/-- loop.example/g00409/impl.compareBig -/
noncomputable def F_i_compareBig (a0 : (Bool × (List Int))) (a1 : (Bool × (List Int))) : Option (Int) :=
  ((F_i_Big_sign (a0.1, a0.2))).bind fun x0 =>
  ((F_i_Big_sign (a1.1, a1.2))).bind fun x1 =>
  bif (x0 != x1) then
    ((F_i_Big_sign (a0.1, a0.2))).bind fun x2 =>
    ((F_i_Big_sign (a1.1, a1.2))).bind fun x3 =>
    ((F_cmp_Compare_int x2 x3)).bind fun x4 =>
    some x4
  else
  ((F_i_Big_sign (a0.1, a0.2))).bind fun x5 =>
  ((F_i_compareLimbs a0.2 a1.2)).bind fun x6 =>
  some (Go.IntKind.wrap Go.IntKind.i64 (x5 * x6))
noncomputable def E_i_compareBig : Ent := ⟨a_i_compareBig, fun x => F_i_compareBig x.1 x.2⟩
noncomputable def X_i_compareBig : TX := ⟨tyTab, codTab, [], [4], [E_i_Big_sign, E_cmp_Compare_int, E_i_compareLimbs], a_i_compareBig⟩
set_option maxHeartbeats 2000000 in
theorem W_i_compareBig (a0 : (Bool × List (Int))) (a1 : (Bool × List (Int))) : wtF X_i_compareBig Try.f37 (a0, a1) = F_i_compareBig a0 a1 := by kernel_rfl
theorem OK_i_compareBig : EntOK RR E_i_compareBig := fn_done (X := X_i_compareBig) ⟨tyOK, boolOK, eqOK⟩ (ents_of (by exact ⟨⟨OK_i_Big_sign, rfl⟩, ⟨⟨OK_cmp_Compare_int, rfl⟩, ⟨⟨OK_i_compareLimbs, rfl⟩, trivial⟩⟩⟩)) (cf_ok (by kernel_rfl)) ⟨Try.func37, rfl, by kernel_rfl, rfl⟩ (fun x => by exact W_i_compareBig x.1 x.2)

/-- loop.example/g00409/impl.CompareBig -/
noncomputable def F_i_CompareBig (a0 : (Bool × (List Int))) (a1 : (Bool × (List Int))) : Option (Int × Bool) :=
  ((F_i_GoodBig (a0.1, a0.2))).bind fun x0 =>
  bif (!x0) then
    some ((0 : Int), false)
  else
  ((F_i_GoodBig (a1.1, a1.2))).bind fun x1 =>
  bif (!x1) then
    some ((0 : Int), false)
  else
  ((F_i_compareBig (a0.1, a0.2) (a1.1, a1.2))).bind fun x2 =>
  some (x2, true)
noncomputable def E_i_CompareBig : Ent := ⟨a_i_CompareBig, fun x => F_i_CompareBig x.1 x.2⟩
noncomputable def X_i_CompareBig : TX := ⟨tyTab, codTab, [], [4], [E_i_GoodBig, E_i_compareBig], a_i_CompareBig⟩
set_option maxHeartbeats 2000000 in
theorem W_i_CompareBig (a0 : (Bool × List (Int))) (a1 : (Bool × List (Int))) : wtF X_i_CompareBig Try.f16 (a0, a1) = F_i_CompareBig a0 a1 := by kernel_rfl
theorem OK_i_CompareBig : EntOK RR E_i_CompareBig := fn_done (X := X_i_CompareBig) ⟨tyOK, boolOK, eqOK⟩ (ents_of (by exact ⟨⟨OK_i_GoodBig, rfl⟩, ⟨⟨OK_i_compareBig, rfl⟩, trivial⟩⟩)) (cf_ok (by kernel_rfl)) ⟨Try.func16, rfl, by kernel_rfl, rfl⟩ (fun x => by exact W_i_CompareBig x.1 x.2)

/-- (*loop.example/g00409/spec.l1Cur).anyInt -/
noncomputable def F_s_l1Cur_anyInt (a0 : ((List Int) × (Int × Int))) : Option ((List (Int) × Int × Int) × Int) :=
  ((F_s_l1Cur_one (a0.1, (a0.2.1, a0.2.2)) (2 : Int))).bind fun x0 =>
  bif x0.2 then
    ((F_s_l1Cur_among (x0.1.1, (x0.1.2.1, x0.1.2.2)) (List.cons (0 : Int) (List.cons (1 : Int) (List.cons (-(1 : Int)) (List.cons (65535 : Int) (List.cons (65536 : Int) (List.cons (-(65536 : Int)) (List.cons (4611686018427387904 : Int) (List.cons (-(4611686018427387904 : Int)) (List.cons (4611686018427387905 : Int) (List.cons (-(9223372036854775808 : Int)) (List.cons (9223372036854775807 : Int) List.nil))))))))))))).bind fun x1 =>
    some ((x1.1.1, (x1.1.2.1, x1.1.2.2)), x1.2)
  else
  ((F_s_l1Cur_pick (x0.1.1, (x0.1.2.1, x0.1.2.2)) (256 : Int))).bind fun x2 =>
  ((F_s_l1Cur_pick (x2.1.1, (x2.1.2.1, x2.1.2.2)) (50 : Int))).bind fun x3 =>
  bif decide ((Go.IntKind.wrap Go.IntKind.u64 x3.2) < (0 : Int)) then
    none
  else
  some ((x3.1.1, (x3.1.2.1, x3.1.2.2)), (shlI Go.IntKind.i64 (Go.IntKind.wrap Go.IntKind.i64 (x2.2 - (128 : Int))) (Go.IntKind.wrap Go.IntKind.u64 x3.2)))
noncomputable def E_s_l1Cur_anyInt : Ent := ⟨a_s_l1Cur_anyInt, fun x => F_s_l1Cur_anyInt x⟩
noncomputable def X_s_l1Cur_anyInt : TX := ⟨tyTab, codTab, [], [4], [E_s_l1Cur_one, E_s_l1Cur_among, E_s_l1Cur_pick], a_s_l1Cur_anyInt⟩
set_option maxHeartbeats 2000000 in
theorem W_s_l1Cur_anyInt (a0 : (List (Int) × Int × Int)) : wtF X_s_l1Cur_anyInt Try.f40 (a0) = F_s_l1Cur_anyInt a0 := by kernel_rfl
theorem OK_s_l1Cur_anyInt : EntOK RR E_s_l1Cur_anyInt := fn_done (X := X_s_l1Cur_anyInt) ⟨tyOK, boolOK, eqOK⟩ (ents_of (by exact ⟨⟨OK_s_l1Cur_one, rfl⟩, ⟨⟨OK_s_l1Cur_among, rfl⟩, ⟨⟨OK_s_l1Cur_pick, rfl⟩, trivial⟩⟩⟩)) (cf_ok (by kernel_rfl)) ⟨Try.func40, rfl, by kernel_rfl, rfl⟩ (fun x => by exact W_s_l1Cur_anyInt x)

/-- loop.example/g00409/spec.BigOf -/
noncomputable def B_s_BigOf_0 (s0 : (Bool × (List Int))) (s1 : (List Int)) (s2 : Int) (s3 : Int) : Option (((Bool × (List Int)) × ((List Int) × (Int × Int))) ⊕ ((Bool × (List Int)) × ((List Int) × Int))) :=
  bif (s3 != (0 : Int)) then
    bif decide ((Int.tmod s3 (65536 : Int)) < (0 : Int)) then
      ((appL 8 1 s1 (List.cons (Go.IntKind.wrap Go.IntKind.i64 ((0 : Int) - (Int.tmod s3 (65536 : Int)))) List.nil))).bind fun x0 =>
      some (Sum.inl ((s0.1, s0.2), (x0, (s2, (Go.IntKind.wrap Go.IntKind.i64 (Int.tdiv s3 (65536 : Int)))))))
    else
    ((appL 8 1 s1 (List.cons (Int.tmod s3 (65536 : Int)) List.nil))).bind fun x1 =>
    some (Sum.inl ((s0.1, s0.2), (x1, (s2, (Go.IntKind.wrap Go.IntKind.i64 (Int.tdiv s3 (65536 : Int)))))))
  else
  some (Sum.inr ((s0.1, s0.2), (s1, s2)))
noncomputable def F_s_BigOf (a0 : Int) : Option ((Bool × List (Int))) :=
  (loopM (fun (s : ((Bool × (List Int)) × ((List Int) × (Int × Int)))) => B_s_BigOf_0 s.1 s.2.1 s.2.2.1 s.2.2.2) ((false, List.nil), (List.nil, (a0, a0)))).bind fun x0 =>
  ((F_s_l1Make (decide (x0.2.2 < (0 : Int))) x0.2.1)).bind fun x1 =>
  some (x1.2, x1.1)
noncomputable def E_s_BigOf : Ent := ⟨a_s_BigOf, fun x => F_s_BigOf x⟩
noncomputable def X_s_BigOf : TX := ⟨tyTab, codTab, [], [4], [E_s_l1Make], a_s_BigOf⟩
set_option maxHeartbeats 2000000 in
theorem W_s_BigOf (a0 : Int) : wtF X_s_BigOf Try.f39 (a0) = F_s_BigOf a0 := by kernel_rfl
theorem OK_s_BigOf : EntOK RR E_s_BigOf := fn_done (X := X_s_BigOf) ⟨tyOK, boolOK, eqOK⟩ (ents_of (by exact ⟨⟨OK_s_l1Make, rfl⟩, trivial⟩)) (cf_ok (by kernel_rfl)) ⟨Try.func39, rfl, by kernel_rfl, rfl⟩ (fun x => by exact W_s_BigOf x)

/-- loop.example/g00409/spec.DrawIntOf -/
noncomputable def F_s_DrawIntOf (a0 : (List Int)) : Option ((Bool × List (Int))) :=
  ((F_s_l1Cur_one (a0, ((0 : Int), (0 : Int))) (2 : Int))).bind fun x0 =>
  bif x0.2 then
    ((F_s_l1Cur_anyInt (x0.1.1, (x0.1.2.1, x0.1.2.2)))).bind fun x1 =>
    ((F_s_BigOf x1.2)).bind fun x2 =>
    some (x2.1, x2.2)
  else
  ((F_s_l1Cur_big (x0.1.1, (x0.1.2.1, x0.1.2.2)))).bind fun x3 =>
  some (x3.2.1, x3.2.2)
noncomputable def E_s_DrawIntOf : Ent := ⟨a_s_DrawIntOf, fun x => F_s_DrawIntOf x⟩
noncomputable def X_s_DrawIntOf : TX := ⟨tyTab, codTab, [], [4], [E_s_l1Cur_one, E_s_l1Cur_anyInt, E_s_BigOf, E_s_l1Cur_big], a_s_DrawIntOf⟩
set_option maxHeartbeats 2000000 in
theorem W_s_DrawIntOf (a0 : List (Int)) : wtF X_s_DrawIntOf Try.f17 (a0) = F_s_DrawIntOf a0 := by kernel_rfl
theorem OK_s_DrawIntOf : EntOK RR E_s_DrawIntOf := fn_done (X := X_s_DrawIntOf) ⟨tyOK, boolOK, eqOK⟩ (ents_of (by exact ⟨⟨OK_s_l1Cur_one, rfl⟩, ⟨⟨OK_s_l1Cur_anyInt, rfl⟩, ⟨⟨OK_s_BigOf, rfl⟩, ⟨⟨OK_s_l1Cur_big, rfl⟩, trivial⟩⟩⟩⟩)) (cf_ok (by kernel_rfl)) ⟨Try.func17, rfl, by kernel_rfl, rfl⟩ (fun x => by exact W_s_DrawIntOf x)

/-- loop.example/g00409/impl.IntOf -/
noncomputable def B_i_IntOf_0 (s0 : (Bool × (List Int))) (s1 : Int) (s2 : Int) : Option (((Bool × (List Int)) × (Int × Int)) ⊕ ((Bool × (List Int)) × Int)) :=
  bif decide (s2 ≥ (0 : Int)) then
    ((getI s0.2 s2)).bind fun x0 =>
    some (Sum.inl ((s0.1, s0.2), ((Go.IntKind.wrap Go.IntKind.i64 ((Go.IntKind.wrap Go.IntKind.i64 (s1 * (65536 : Int))) + x0)), (Go.IntKind.wrap Go.IntKind.i64 (s2 - (1 : Int))))))
  else
  some (Sum.inr ((s0.1, s0.2), s1))
noncomputable def F_i_IntOf (a0 : (Bool × (List Int))) : Option (Int × Bool) :=
  ((F_i_GoodBig (a0.1, a0.2))).bind fun x0 =>
  bif (!x0) then
    some ((0 : Int), false)
  else
  ((F_i_BigOf (4611686018427387904 : Int))).bind fun x1 =>
  ((F_i_compareLimbs a0.2 x1.2)).bind fun x2 =>
  bif decide (x2 > (0 : Int)) then
    some ((0 : Int), false)
  else
  (loopM (fun (s : ((Bool × (List Int)) × (Int × Int))) => B_i_IntOf_0 s.1 s.2.1 s.2.2) ((a0.1, a0.2), ((0 : Int), (Go.IntKind.wrap Go.IntKind.i64 ((((List.length a0.2) : Nat) : Int) - (1 : Int)))))).bind fun x3 =>
  bif x3.1.1 then
    some ((Go.IntKind.wrap Go.IntKind.i64 ((0 : Int) - x3.2)), true)
  else
  some (x3.2, true)
noncomputable def E_i_IntOf : Ent := ⟨a_i_IntOf, fun x => F_i_IntOf x⟩
noncomputable def X_i_IntOf : TX := ⟨tyTab, codTab, [], [4], [E_i_GoodBig, E_i_BigOf, E_i_compareLimbs], a_i_IntOf⟩
set_option maxHeartbeats 2000000 in
theorem W_i_IntOf (a0 : (Bool × List (Int))) : wtF X_i_IntOf Try.f18 (a0) = F_i_IntOf a0 := by kernel_rfl
theorem OK_i_IntOf : EntOK RR E_i_IntOf := fn_done (X := X_i_IntOf) ⟨tyOK, boolOK, eqOK⟩ (ents_of (by exact ⟨⟨OK_i_GoodBig, rfl⟩, ⟨⟨OK_i_BigOf, rfl⟩, ⟨⟨OK_i_compareLimbs, rfl⟩, trivial⟩⟩⟩)) (cf_ok (by kernel_rfl)) ⟨Try.func18, rfl, by kernel_rfl, rfl⟩ (fun x => by exact W_i_IntOf x)

/-- loop.example/g00409/spec.IntOf -/
noncomputable def B_s_IntOf_0 (s0 : (Bool × (List Int))) (s1 : Int) (s2 : Int) : Option (((Bool × (List Int)) × (Int × Int)) ⊕ ((Bool × (List Int)) × Int)) :=
  bif decide (s2 ≥ (0 : Int)) then
    ((getI s0.2 s2)).bind fun x0 =>
    some (Sum.inl ((s0.1, s0.2), ((Go.IntKind.wrap Go.IntKind.i64 ((Go.IntKind.wrap Go.IntKind.i64 (s1 * (65536 : Int))) + x0)), (Go.IntKind.wrap Go.IntKind.i64 (s2 - (1 : Int))))))
  else
  some (Sum.inr ((s0.1, s0.2), s1))
noncomputable def F_s_IntOf (a0 : (Bool × (List Int))) : Option (Int × Bool) :=
  ((F_s_GoodBig (a0.1, a0.2))).bind fun x0 =>
  bif (!x0) then
    some ((0 : Int), false)
  else
  bif decide ((((List.length a0.2) : Nat) : Int) > (4 : Int)) then
    some ((0 : Int), false)
  else
  ((F_s_BigOf (4611686018427387904 : Int))).bind fun x1 =>
  ((F_s_l1Cmp a0.2 x1.2)).bind fun x2 =>
  bif decide (x2 > (0 : Int)) then
    some ((0 : Int), false)
  else
  (loopM (fun (s : ((Bool × (List Int)) × (Int × Int))) => B_s_IntOf_0 s.1 s.2.1 s.2.2) ((a0.1, a0.2), ((0 : Int), (Go.IntKind.wrap Go.IntKind.i64 ((((List.length a0.2) : Nat) : Int) - (1 : Int)))))).bind fun x3 =>
  bif x3.1.1 then
    some ((Go.IntKind.wrap Go.IntKind.i64 ((0 : Int) - x3.2)), true)
  else
  some (x3.2, true)
noncomputable def E_s_IntOf : Ent := ⟨a_s_IntOf, fun x => F_s_IntOf x⟩
noncomputable def X_s_IntOf : TX := ⟨tyTab, codTab, [], [4], [E_s_GoodBig, E_s_BigOf, E_s_l1Cmp], a_s_IntOf⟩
set_option maxHeartbeats 2000000 in
theorem W_s_IntOf (a0 : (Bool × List (Int))) : wtF X_s_IntOf Try.f19 (a0) = F_s_IntOf a0 := by kernel_rfl
theorem OK_s_IntOf : EntOK RR E_s_IntOf := fn_done (X := X_s_IntOf) ⟨tyOK, boolOK, eqOK⟩ (ents_of (by exact ⟨⟨OK_s_GoodBig, rfl⟩, ⟨⟨OK_s_BigOf, rfl⟩, ⟨⟨OK_s_l1Cmp, rfl⟩, trivial⟩⟩⟩)) (cf_ok (by kernel_rfl)) ⟨Try.func19, rfl, by kernel_rfl, rfl⟩ (fun x => by exact W_s_IntOf x)

/-- loop.example/g00409/laws.FnProducts -/
noncomputable def F_l_FnProducts (a0 : (List Int)) (a1 : (List Int)) : Option (Bool) :=
  bif decide ((Go.IntKind.wrap Go.IntKind.i64 ((((List.length a0) : Nat) : Int) + (((List.length a1) : Nat) : Int))) > (1048576 : Int)) then
    some true
  else
  ((F_s_DrawMulBig a0)).bind fun x0 =>
  ((F_i_MulBig (x0.1.1, x0.1.2) (x0.2.1, x0.2.2))).bind fun x1 =>
  ((F_s_MulBig (x0.1.1, x0.1.2) (x0.2.1, x0.2.2))).bind fun x2 =>
  ((F_i_HalvesMul (x0.1.1, x0.1.2) (x0.2.1, x0.2.2))).bind fun x3 =>
  ((F_s_HalvesMul (x0.1.1, x0.1.2) (x0.2.1, x0.2.2))).bind fun x4 =>
  ((F_i_DivBig (x0.1.1, x0.1.2) (x0.2.1, x0.2.2))).bind fun x5 =>
  ((F_s_DivBig (x0.1.1, x0.1.2) (x0.2.1, x0.2.2))).bind fun x6 =>
  ((F_i_GcdBig (x0.1.1, x0.1.2) (x0.2.1, x0.2.2))).bind fun x7 =>
  ((F_s_GcdBig (x0.1.1, x0.1.2) (x0.2.1, x0.2.2))).bind fun x8 =>
  bif (!(x1.2 == x2.2)) then
    some false
  else
  ((F_l_sameBig (x1.1.1, x1.1.2) (x2.1.1, x2.1.2))).bind fun x9 =>
  bif (!x9) then
    some false
  else
  bif (!(x3.2 == x4.2)) then
    some false
  else
  ((F_l_sameBig (x3.1.1, x3.1.2) (x4.1.1, x4.1.2))).bind fun x10 =>
  bif (!x10) then
    some false
  else
  bif (!(x3.2 == x1.2)) then
    some false
  else
  ((F_l_sameBig (x3.1.1, x3.1.2) (x1.1.1, x1.1.2))).bind fun x11 =>
  bif (!x11) then
    some false
  else
  bif (!(x5.2.2 == x6.2.2)) then
    some false
  else
  ((F_l_sameBig (x5.1.1, x5.1.2) (x6.1.1, x6.1.2))).bind fun x12 =>
  bif (!x12) then
    some false
  else
  ((F_l_sameBig (x5.2.1.1, x5.2.1.2) (x6.2.1.1, x6.2.1.2))).bind fun x13 =>
  bif (!x13) then
    some false
  else
  bif (!(x7.2 == x8.2)) then
    some false
  else
  ((F_l_sameBig (x7.1.1, x7.1.2) (x8.1.1, x8.1.2))).bind fun x14 =>
  bif (!x14) then
    some false
  else
  (bif x1.2 then
      ((F_l_zeroBig (x0.2.1, x0.2.2))).bind fun x15 =>
      bif (!x15) then
        ((F_i_DivBig (x1.1.1, x1.1.2) (x0.2.1, x0.2.2))).bind fun x16 =>
        bif (!x16.2.2) then
          some (Sum.inl false)
        else
        ((F_l_sameBig (x16.1.1, x16.1.2) (x0.1.1, x0.1.2))).bind fun x17 =>
        bif (!x17) then
          some (Sum.inl false)
        else
        ((F_l_zeroBig (x16.2.1.1, x16.2.1.2))).bind fun x18 =>
        bif (!x18) then
          some (Sum.inl false)
        else
        some (Sum.inr ((x0.1.1, x0.1.2), ((x0.2.1, x0.2.2), ((x5.1.1, x5.1.2), ((x5.2.1.1, x5.2.1.2), ((x7.1.1, x7.1.2), (a1, (x5.2.2, x7.2))))))))
      else
      some (Sum.inr ((x0.1.1, x0.1.2), ((x0.2.1, x0.2.2), ((x5.1.1, x5.1.2), ((x5.2.1.1, x5.2.1.2), ((x7.1.1, x7.1.2), (a1, (x5.2.2, x7.2))))))))
    else
    some (Sum.inr ((x0.1.1, x0.1.2), ((x0.2.1, x0.2.2), ((x5.1.1, x5.1.2), ((x5.2.1.1, x5.2.1.2), ((x7.1.1, x7.1.2), (a1, (x5.2.2, x7.2))))))))).bind fun x19 =>
  Sum.elim
    (fun x20 =>
    some x20)
    (fun x21 =>
    (bif x21.2.2.2.2.2.2.1 then
        ((F_i_MulBig (x21.2.2.1.1, x21.2.2.1.2) (x21.2.1.1, x21.2.1.2))).bind fun x22 =>
        ((F_i_AddBig (x22.1.1, x22.1.2) (x21.2.2.2.1.1, x21.2.2.2.1.2))).bind fun x23 =>
        ((F_i_CompareBig (false, x21.2.2.2.1.2) (false, x21.2.1.2))).bind fun x24 =>
        bif (!x22.2) then
          some (Sum.inl false)
        else
        bif (!x23.2) then
          some (Sum.inl false)
        else
        ((F_l_sameBig (x23.1.1, x23.1.2) (x21.1.1, x21.1.2))).bind fun x25 =>
        bif (!x25) then
          some (Sum.inl false)
        else
        bif (!x24.2) then
          some (Sum.inl false)
        else
        bif decide (x24.1 ≥ (0 : Int)) then
          some (Sum.inl false)
        else
        ((F_l_zeroBig (x21.2.2.2.1.1, x21.2.2.2.1.2))).bind fun x26 =>
        bif (!x26) then
          bif (!(x21.2.2.2.1.1 == x21.1.1)) then
            some (Sum.inl false)
          else
          some (Sum.inr ((x21.1.1, x21.1.2), ((x21.2.1.1, x21.2.1.2), ((x21.2.2.2.2.1.1, x21.2.2.2.2.1.2), (x21.2.2.2.2.2.1, x21.2.2.2.2.2.2.2)))))
        else
        some (Sum.inr ((x21.1.1, x21.1.2), ((x21.2.1.1, x21.2.1.2), ((x21.2.2.2.2.1.1, x21.2.2.2.2.1.2), (x21.2.2.2.2.2.1, x21.2.2.2.2.2.2.2)))))
      else
      some (Sum.inr ((x21.1.1, x21.1.2), ((x21.2.1.1, x21.2.1.2), ((x21.2.2.2.2.1.1, x21.2.2.2.2.1.2), (x21.2.2.2.2.2.1, x21.2.2.2.2.2.2.2)))))).bind fun x27 =>
    Sum.elim
      (fun x28 =>
      some x28)
      (fun x29 =>
      (bif x29.2.2.2.2 then
          ((F_l_zeroBig (x29.2.2.1.1, x29.2.2.1.2))).bind fun x30 =>
          bif (!x30) then
            ((F_i_DivBig (x29.1.1, x29.1.2) (x29.2.2.1.1, x29.2.2.1.2))).bind fun x31 =>
            ((F_i_DivBig (x29.2.1.1, x29.2.1.2) (x29.2.2.1.1, x29.2.2.1.2))).bind fun x32 =>
            bif (!x31.2.2) then
              some (Sum.inl false)
            else
            bif (!x32.2.2) then
              some (Sum.inl false)
            else
            ((F_l_zeroBig (x31.2.1.1, x31.2.1.2))).bind fun x33 =>
            bif (!x33) then
              some (Sum.inl false)
            else
            ((F_l_zeroBig (x32.2.1.1, x32.2.1.2))).bind fun x34 =>
            bif (!x34) then
              some (Sum.inl false)
            else
            bif x29.2.2.1.1 then
              some (Sum.inl false)
            else
            some (Sum.inr x29.2.2.2.1)
          else
          some (Sum.inr x29.2.2.2.1)
        else
        some (Sum.inr x29.2.2.2.1)).bind fun x35 =>
      Sum.elim
        (fun x36 =>
        some x36)
        (fun x37 =>
        ((F_s_DrawIntOf x37)).bind fun x38 =>
        ((F_i_IntOf (x38.1, x38.2))).bind fun x39 =>
        ((F_s_IntOf (x38.1, x38.2))).bind fun x40 =>
        bif (x39.2 == x40.2) then
          some (x39.1 == x40.1)
        else
        some false)
        x35)
      x27)
    x19
noncomputable def E_l_FnProducts : Ent := ⟨a_l_FnProducts, fun x => F_l_FnProducts x.1 x.2⟩
noncomputable def X_l_FnProducts : TX := ⟨tyTab, codTab, [], [4], [E_s_DrawMulBig, E_i_MulBig, E_s_MulBig, E_i_HalvesMul, E_s_HalvesMul, E_i_DivBig, E_s_DivBig, E_i_GcdBig, E_s_GcdBig, E_l_sameBig, E_l_zeroBig, E_i_AddBig, E_i_CompareBig, E_s_DrawIntOf, E_i_IntOf, E_s_IntOf], a_l_FnProducts⟩
set_option maxHeartbeats 2000000 in
theorem W_l_FnProducts (a0 : List (Int)) (a1 : List (Int)) : wtF X_l_FnProducts Try.f3 (a0, a1) = F_l_FnProducts a0 a1 := by kernel_rfl
theorem OK_l_FnProducts : EntOK RR E_l_FnProducts := fn_done (X := X_l_FnProducts) ⟨tyOK, boolOK, eqOK⟩ (ents_of (by exact ⟨⟨OK_s_DrawMulBig, rfl⟩, ⟨⟨OK_i_MulBig, rfl⟩, ⟨⟨OK_s_MulBig, rfl⟩, ⟨⟨OK_i_HalvesMul, rfl⟩, ⟨⟨OK_s_HalvesMul, rfl⟩, ⟨⟨OK_i_DivBig, rfl⟩, ⟨⟨OK_s_DivBig, rfl⟩, ⟨⟨OK_i_GcdBig, rfl⟩, ⟨⟨OK_s_GcdBig, rfl⟩, ⟨⟨OK_l_sameBig, rfl⟩, ⟨⟨OK_l_zeroBig, rfl⟩, ⟨⟨OK_i_AddBig, rfl⟩, ⟨⟨OK_i_CompareBig, rfl⟩, ⟨⟨OK_s_DrawIntOf, rfl⟩, ⟨⟨OK_i_IntOf, rfl⟩, ⟨⟨OK_s_IntOf, rfl⟩, trivial⟩⟩⟩⟩⟩⟩⟩⟩⟩⟩⟩⟩⟩⟩⟩⟩)) (cf_ok (by kernel_rfl)) ⟨Try.func3, rfl, by kernel_rfl, rfl⟩ (fun x => by exact W_l_FnProducts x.1 x.2)
end Go.Proofs.Ytohhlnabfcbknaa.Ev
