/-
  No cell of these rows narrows 'for every input' (looked for: loops, veiled, ifaces, maps, wideKeys, modest, calm, conditions, laid).
  DERIVED. THE GIVEN ROWS OF THIS SEAT. 8 by the template 'for every input the law returns true; each argument reads behind the call as it read before'; 0 by the template 'total and deterministic' (their statements: YtcmihlhmeonmfaaTotals.lean).
  GIVEN WITH THE SEED: the statements are not yours to turn. If you find one false, say at which input.
  Laid BY PROGRAM, IN A SANDBOX (cutbox-rows.mjs): the forced cells as the released guide's own fill.sh prints them over the translation 467bf4fc10fd54e0… (all of the seat's roots in one cut). By AI agents, Wed Nov 11 2026. No macro, syntax, notation, axiom, sorry.
-/
import Derived.Test.YtcmihlhmeonmfaaChecked
import GoSem.Claim
import GoSem.ClaimJoined
import GoSem.ClaimMapViews
import Derived.JoinedTies
import Derived.KernelRfl
namespace Go.Proofs.Ytcmihlhmeonmfaa
/- THE CELL 'sum', in the pinned program and in every row, IS THE sha256 OF THE DUMP (.gsa) THAT YtcmihlhmeonmfaaProg.lean LOADS. Nothing in Lean hashes anything: it is a label: what it is worth is what the hold of that sum in a sandbox is worth. -/
noncomputable def Try.pinned : Pinned := { name := "ytcmihlhmeonmfaa", sum := "467bf4fc10fd54e0352a23d3047e6a38f986d5917027415a238a5dd8e9f361fc", checked := Try.checked }
namespace Rows
def none {H : Type} : Left H := { results := [], args := [] }

/-- 'laws.FnExactGoodRuns': WHATEVER THE INPUT: true; the input reads as it did. -/
def fnExactGoodRunsSpec : ChangeSpec := { name := "fnExactGoodRuns", fn := fun _ => fun
  | [d] => { results := [.lit (.bool true)], args := [d] }
  | _ => none }
def fnExactGoodRunsRow : OpenClaim := { program := "ytcmihlhmeonmfaa", sum := "467bf4fc10fd54e0352a23d3047e6a38f986d5917027415a238a5dd8e9f361fc", func := "loop.example/g00409/laws.FnExactGoodRuns", spec := "fnExactGoodRuns", apart := false }
def FnExactGoodRunsSaid : Prop := fnExactGoodRunsRow.holds Try.pinned (OpenSpec.ofChange fnExactGoodRunsSpec)

/-- ITS FALSE NEIGHBOUR: 'it returns false'. Refute it at one input. -/
def fnExactGoodRunsWrong : ChangeSpec := { name := "fnExactGoodRuns", fn := fun _ => fun
  | [d] => { results := [.lit (.bool false)], args := [d] }
  | _ => none }
def FnExactGoodRunsWrongFalsely : Prop := fnExactGoodRunsRow.holds Try.pinned (OpenSpec.ofChange fnExactGoodRunsWrong)

/-- 'laws.FnExactGoodWays': WHATEVER THE INPUT: true; the input reads as it did. -/
def fnExactGoodWaysSpec : ChangeSpec := { name := "fnExactGoodWays", fn := fun _ => fun
  | [d] => { results := [.lit (.bool true)], args := [d] }
  | _ => none }
def fnExactGoodWaysRow : OpenClaim := { program := "ytcmihlhmeonmfaa", sum := "467bf4fc10fd54e0352a23d3047e6a38f986d5917027415a238a5dd8e9f361fc", func := "loop.example/g00409/laws.FnExactGoodWays", spec := "fnExactGoodWays", unfollowed := true, recurses := true, apart := false }
def FnExactGoodWaysSaid : Prop := fnExactGoodWaysRow.holds Try.pinned (OpenSpec.ofChange fnExactGoodWaysSpec)

/-- ITS FALSE NEIGHBOUR: 'it returns false'. Refute it at one input. -/
def fnExactGoodWaysWrong : ChangeSpec := { name := "fnExactGoodWays", fn := fun _ => fun
  | [d] => { results := [.lit (.bool false)], args := [d] }
  | _ => none }
def FnExactGoodWaysWrongFalsely : Prop := fnExactGoodWaysRow.holds Try.pinned (OpenSpec.ofChange fnExactGoodWaysWrong)

/-- 'laws.FnExactRunsOf': WHATEVER THE INPUT: true; the input reads as it did. -/
def fnExactRunsOfSpec : ChangeSpec := { name := "fnExactRunsOf", fn := fun _ => fun
  | [d] => { results := [.lit (.bool true)], args := [d] }
  | _ => none }
def fnExactRunsOfRow : OpenClaim := { program := "ytcmihlhmeonmfaa", sum := "467bf4fc10fd54e0352a23d3047e6a38f986d5917027415a238a5dd8e9f361fc", func := "loop.example/g00409/laws.FnExactRunsOf", spec := "fnExactRunsOf", unfollowed := true, recurses := true, apart := false }
def FnExactRunsOfSaid : Prop := fnExactRunsOfRow.holds Try.pinned (OpenSpec.ofChange fnExactRunsOfSpec)

/-- ITS FALSE NEIGHBOUR: 'it returns false'. Refute it at one input. -/
def fnExactRunsOfWrong : ChangeSpec := { name := "fnExactRunsOf", fn := fun _ => fun
  | [d] => { results := [.lit (.bool false)], args := [d] }
  | _ => none }
def FnExactRunsOfWrongFalsely : Prop := fnExactRunsOfRow.holds Try.pinned (OpenSpec.ofChange fnExactRunsOfWrong)

/-- 'laws.FnExactFromRuns': WHATEVER THE INPUT: true; the input reads as it did. -/
def fnExactFromRunsSpec : ChangeSpec := { name := "fnExactFromRuns", fn := fun _ => fun
  | [d] => { results := [.lit (.bool true)], args := [d] }
  | _ => none }
def fnExactFromRunsRow : OpenClaim := { program := "ytcmihlhmeonmfaa", sum := "467bf4fc10fd54e0352a23d3047e6a38f986d5917027415a238a5dd8e9f361fc", func := "loop.example/g00409/laws.FnExactFromRuns", spec := "fnExactFromRuns", apart := false }
def FnExactFromRunsSaid : Prop := fnExactFromRunsRow.holds Try.pinned (OpenSpec.ofChange fnExactFromRunsSpec)

/-- ITS FALSE NEIGHBOUR: 'it returns false'. Refute it at one input. -/
def fnExactFromRunsWrong : ChangeSpec := { name := "fnExactFromRuns", fn := fun _ => fun
  | [d] => { results := [.lit (.bool false)], args := [d] }
  | _ => none }
def FnExactFromRunsWrongFalsely : Prop := fnExactFromRunsRow.holds Try.pinned (OpenSpec.ofChange fnExactFromRunsWrong)

/-- 'laws.FnExactJoinRuns': WHATEVER THE INPUT: true; the input reads as it did. -/
def fnExactJoinRunsSpec : ChangeSpec := { name := "fnExactJoinRuns", fn := fun _ => fun
  | [d1, d2] => { results := [.lit (.bool true)], args := [d1, d2] }
  | _ => none }
def fnExactJoinRunsRow : OpenClaim := { program := "ytcmihlhmeonmfaa", sum := "467bf4fc10fd54e0352a23d3047e6a38f986d5917027415a238a5dd8e9f361fc", func := "loop.example/g00409/laws.FnExactJoinRuns", spec := "fnExactJoinRuns", unfollowed := true, recurses := true, apart := false }
def FnExactJoinRunsSaid : Prop := fnExactJoinRunsRow.holds Try.pinned (OpenSpec.ofChange fnExactJoinRunsSpec)

/-- ITS FALSE NEIGHBOUR: 'it returns false'. Refute it at one input. -/
def fnExactJoinRunsWrong : ChangeSpec := { name := "fnExactJoinRuns", fn := fun _ => fun
  | [d1, d2] => { results := [.lit (.bool false)], args := [d1, d2] }
  | _ => none }
def FnExactJoinRunsWrongFalsely : Prop := fnExactJoinRunsRow.holds Try.pinned (OpenSpec.ofChange fnExactJoinRunsWrong)

/-- 'laws.FnPoints': WHATEVER THE INPUT: true; the input reads as it did. -/
def fnPointsSpec : ChangeSpec := { name := "fnPoints", fn := fun _ => fun
  | [d1, d2] => { results := [.lit (.bool true)], args := [d1, d2] }
  | _ => none }
def fnPointsRow : OpenClaim := { program := "ytcmihlhmeonmfaa", sum := "467bf4fc10fd54e0352a23d3047e6a38f986d5917027415a238a5dd8e9f361fc", func := "loop.example/g00409/laws.FnPoints", spec := "fnPoints", unfollowed := true, recurses := true, apart := false }
def FnPointsSaid : Prop := fnPointsRow.holds Try.pinned (OpenSpec.ofChange fnPointsSpec)

/-- ITS FALSE NEIGHBOUR: 'it returns false'. Refute it at one input. -/
def fnPointsWrong : ChangeSpec := { name := "fnPoints", fn := fun _ => fun
  | [d1, d2] => { results := [.lit (.bool false)], args := [d1, d2] }
  | _ => none }
def FnPointsWrongFalsely : Prop := fnPointsRow.holds Try.pinned (OpenSpec.ofChange fnPointsWrong)

/-- 'laws.FnWays': WHATEVER THE INPUT: true; the input reads as it did. -/
def fnWaysSpec : ChangeSpec := { name := "fnWays", fn := fun _ => fun
  | [d1, d2] => { results := [.lit (.bool true)], args := [d1, d2] }
  | _ => none }
def fnWaysRow : OpenClaim := { program := "ytcmihlhmeonmfaa", sum := "467bf4fc10fd54e0352a23d3047e6a38f986d5917027415a238a5dd8e9f361fc", func := "loop.example/g00409/laws.FnWays", spec := "fnWays", unfollowed := true, recurses := true, apart := false }
def FnWaysSaid : Prop := fnWaysRow.holds Try.pinned (OpenSpec.ofChange fnWaysSpec)

/-- ITS FALSE NEIGHBOUR: 'it returns false'. Refute it at one input. -/
def fnWaysWrong : ChangeSpec := { name := "fnWays", fn := fun _ => fun
  | [d1, d2] => { results := [.lit (.bool false)], args := [d1, d2] }
  | _ => none }
def FnWaysWrongFalsely : Prop := fnWaysRow.holds Try.pinned (OpenSpec.ofChange fnWaysWrong)

/-- 'laws.FnWinding': WHATEVER THE INPUT: true; the input reads as it did. -/
def fnWindingSpec : ChangeSpec := { name := "fnWinding", fn := fun _ => fun
  | [d1, d2] => { results := [.lit (.bool true)], args := [d1, d2] }
  | _ => none }
def fnWindingRow : OpenClaim := { program := "ytcmihlhmeonmfaa", sum := "467bf4fc10fd54e0352a23d3047e6a38f986d5917027415a238a5dd8e9f361fc", func := "loop.example/g00409/laws.FnWinding", spec := "fnWinding", unfollowed := true, recurses := true, apart := false }
def FnWindingSaid : Prop := fnWindingRow.holds Try.pinned (OpenSpec.ofChange fnWindingSpec)

/-- ITS FALSE NEIGHBOUR: 'it returns false'. Refute it at one input. -/
def fnWindingWrong : ChangeSpec := { name := "fnWinding", fn := fun _ => fun
  | [d1, d2] => { results := [.lit (.bool false)], args := [d1, d2] }
  | _ => none }
def FnWindingWrongFalsely : Prop := fnWindingRow.holds Try.pinned (OpenSpec.ofChange fnWindingWrong)

/- THE SECOND FORM. 'bulk': how many values and letters a reading holds, each counted each time it is reached (what is shared counts as often as it is met; a slice's spare places count too). A statement '..UptoSaid' is the law's where the arguments, and the package variables that the reading takes, are together of bulk at most 1048576: NARROWER than '..Said'. Prove '..Said' where nothing that the law and all that it calls make is longer than what came in: it says more and counts as full. Else prove '..UptoSaid'. A law counts once. -/
mutual
def uptoBulk {H : Type} : DataW H → Nat
  | .lit (.string bytes) => bytes.length + 1
  | .lit _ => 1
  | .nil => 1
  | .ptr d => uptoBulk d + 1
  | .slice elems spare => uptoBulkAll elems + uptoBulkAll spare + 1
  | .agg parts => uptoBulkAll parts + 1
  | .iface _ d => uptoBulk d + 1
  | .map entries => uptoBulkEntries entries + 1
  | .held _ => 1
def uptoBulkAll {H : Type} : List (DataW H) → Nat
  | [] => 0
  | d :: r => uptoBulk d + uptoBulkAll r
def uptoBulkEntries {H : Type} : List (Lit × DataW H) → Nat
  | [] => 0
  | x :: r => uptoBulkEntry x + uptoBulkEntries r
def uptoBulkEntry {H : Type} : Lit × DataW H → Nat
  | (.string bytes, d) => bytes.length + uptoBulk d + 1
  | (_, d) => uptoBulk d + 1
 end
def uptoSmall : (H : Type) → List (DataW H) → Bool := fun _ ds => decide (uptoBulkAll ds ≤ 1048576)
def OpenSpec.upto (s : _root_.Go.ChangeSpec) : _root_.Go.OpenSpec := { _root_.Go.OpenSpec.ofChange s with cond := some uptoSmall }

/-- 'laws.FnExactGoodRuns', WHERE WHAT IT READS IS OF BULK AT MOST 1048576: true; the input reads as it did. -/
def fnExactGoodRunsUptoRow : OpenClaim := { program := "ytcmihlhmeonmfaa", sum := "467bf4fc10fd54e0352a23d3047e6a38f986d5917027415a238a5dd8e9f361fc", func := "loop.example/g00409/laws.FnExactGoodRuns", spec := "fnExactGoodRuns", apart := false, narrowed := true }
def FnExactGoodRunsUptoSaid : Prop := fnExactGoodRunsUptoRow.holds Try.pinned (OpenSpec.upto fnExactGoodRunsSpec)

/-- 'laws.FnExactGoodWays', WHERE WHAT IT READS IS OF BULK AT MOST 1048576: true; the input reads as it did. -/
def fnExactGoodWaysUptoRow : OpenClaim := { program := "ytcmihlhmeonmfaa", sum := "467bf4fc10fd54e0352a23d3047e6a38f986d5917027415a238a5dd8e9f361fc", func := "loop.example/g00409/laws.FnExactGoodWays", spec := "fnExactGoodWays", unfollowed := true, recurses := true, apart := false, narrowed := true }
def FnExactGoodWaysUptoSaid : Prop := fnExactGoodWaysUptoRow.holds Try.pinned (OpenSpec.upto fnExactGoodWaysSpec)

/-- 'laws.FnExactRunsOf', WHERE WHAT IT READS IS OF BULK AT MOST 1048576: true; the input reads as it did. -/
def fnExactRunsOfUptoRow : OpenClaim := { program := "ytcmihlhmeonmfaa", sum := "467bf4fc10fd54e0352a23d3047e6a38f986d5917027415a238a5dd8e9f361fc", func := "loop.example/g00409/laws.FnExactRunsOf", spec := "fnExactRunsOf", unfollowed := true, recurses := true, apart := false, narrowed := true }
def FnExactRunsOfUptoSaid : Prop := fnExactRunsOfUptoRow.holds Try.pinned (OpenSpec.upto fnExactRunsOfSpec)

/-- 'laws.FnExactFromRuns', WHERE WHAT IT READS IS OF BULK AT MOST 1048576: true; the input reads as it did. -/
def fnExactFromRunsUptoRow : OpenClaim := { program := "ytcmihlhmeonmfaa", sum := "467bf4fc10fd54e0352a23d3047e6a38f986d5917027415a238a5dd8e9f361fc", func := "loop.example/g00409/laws.FnExactFromRuns", spec := "fnExactFromRuns", apart := false, narrowed := true }
def FnExactFromRunsUptoSaid : Prop := fnExactFromRunsUptoRow.holds Try.pinned (OpenSpec.upto fnExactFromRunsSpec)

/-- 'laws.FnExactJoinRuns', WHERE WHAT IT READS IS OF BULK AT MOST 1048576: true; the input reads as it did. -/
def fnExactJoinRunsUptoRow : OpenClaim := { program := "ytcmihlhmeonmfaa", sum := "467bf4fc10fd54e0352a23d3047e6a38f986d5917027415a238a5dd8e9f361fc", func := "loop.example/g00409/laws.FnExactJoinRuns", spec := "fnExactJoinRuns", unfollowed := true, recurses := true, apart := false, narrowed := true }
def FnExactJoinRunsUptoSaid : Prop := fnExactJoinRunsUptoRow.holds Try.pinned (OpenSpec.upto fnExactJoinRunsSpec)

/-- 'laws.FnPoints', WHERE WHAT IT READS IS OF BULK AT MOST 1048576: true; the input reads as it did. -/
def fnPointsUptoRow : OpenClaim := { program := "ytcmihlhmeonmfaa", sum := "467bf4fc10fd54e0352a23d3047e6a38f986d5917027415a238a5dd8e9f361fc", func := "loop.example/g00409/laws.FnPoints", spec := "fnPoints", unfollowed := true, recurses := true, apart := false, narrowed := true }
def FnPointsUptoSaid : Prop := fnPointsUptoRow.holds Try.pinned (OpenSpec.upto fnPointsSpec)

/-- 'laws.FnWays', WHERE WHAT IT READS IS OF BULK AT MOST 1048576: true; the input reads as it did. -/
def fnWaysUptoRow : OpenClaim := { program := "ytcmihlhmeonmfaa", sum := "467bf4fc10fd54e0352a23d3047e6a38f986d5917027415a238a5dd8e9f361fc", func := "loop.example/g00409/laws.FnWays", spec := "fnWays", unfollowed := true, recurses := true, apart := false, narrowed := true }
def FnWaysUptoSaid : Prop := fnWaysUptoRow.holds Try.pinned (OpenSpec.upto fnWaysSpec)

/-- 'laws.FnWinding', WHERE WHAT IT READS IS OF BULK AT MOST 1048576: true; the input reads as it did. -/
def fnWindingUptoRow : OpenClaim := { program := "ytcmihlhmeonmfaa", sum := "467bf4fc10fd54e0352a23d3047e6a38f986d5917027415a238a5dd8e9f361fc", func := "loop.example/g00409/laws.FnWinding", spec := "fnWinding", unfollowed := true, recurses := true, apart := false, narrowed := true }
def FnWindingUptoSaid : Prop := fnWindingUptoRow.holds Try.pinned (OpenSpec.upto fnWindingSpec)

end Rows
end Go.Proofs.Ytcmihlhmeonmfaa
