/-
  No cell of these rows narrows 'for every input' (looked for: loops, veiled, ifaces, maps, wideKeys, modest, calm, conditions, laid).
  DERIVED. THE GIVEN ROWS OF THIS SEAT. 4 by the template 'for every input the law returns true; each argument reads behind the call as it read before'; 0 by the template 'total and deterministic' (their statements: YtnohbihcoikkbaaGreatTotals.lean).
  GIVEN WITH THE SEED: the statements are not yours to turn. If you find one false, say at which input.
  Laid BY PROGRAM, IN A SANDBOX (cutbox-rows.mjs): the forced cells as the released guide's own fill.sh prints them over the translation 04c54242ecc9e88b… (all of the seat's roots in one cut). By AI agents, Wed Nov 11 2026. No macro, syntax, notation, axiom, sorry.
-/
import Derived.Test.YtnohbihcoikkbaaGreatChecked
import GoSem.Claim
import GoSem.ClaimJoined
import GoSem.ClaimMapViews
import Derived.JoinedTies
import Derived.KernelRfl
namespace Go.Proofs.YtnohbihcoikkbaaGreat
/- THE CELL 'sum', in the pinned program and in every row, IS THE sha256 OF THE DUMP (.gsa) THAT YtnohbihcoikkbaaGreatProg.lean LOADS. Nothing in Lean hashes anything: it is a label: what it is worth is what the hold of that sum in a sandbox is worth. -/
noncomputable def Tryz.pinned : Pinned := { name := "ytnohbihcoikkbaagreat", sum := "04c54242ecc9e88bd22f83141ebf01326d8e6369824549a537f13f44b67a9dde", checked := Tryz.checked }
namespace Rows
def none {H : Type} : Left H := { results := [], args := [] }

/-- 'laws.FnPolys': WHATEVER THE INPUT: true; the input reads as it did. -/
def fnPolysSpec : ChangeSpec := { name := "fnPolys", fn := fun _ => fun
  | [d1, d2] => { results := [.lit (.bool true)], args := [d1, d2] }
  | _ => none }
def fnPolysRow : OpenClaim := { program := "ytnohbihcoikkbaagreat", sum := "04c54242ecc9e88bd22f83141ebf01326d8e6369824549a537f13f44b67a9dde", func := "loop.example/g00409/laws.FnPolys", spec := "fnPolys", unfollowed := true, recurses := true, apart := false }
def FnPolysSaid : Prop := fnPolysRow.holds Tryz.pinned (OpenSpec.ofChange fnPolysSpec)

/-- ITS FALSE NEIGHBOUR: 'it returns false'. Refute it at one input. -/
def fnPolysWrong : ChangeSpec := { name := "fnPolys", fn := fun _ => fun
  | [d1, d2] => { results := [.lit (.bool false)], args := [d1, d2] }
  | _ => none }
def FnPolysWrongFalsely : Prop := fnPolysRow.holds Tryz.pinned (OpenSpec.ofChange fnPolysWrong)

/-- 'laws.FnCurves': WHATEVER THE INPUT: true; the input reads as it did. -/
def fnCurvesSpec : ChangeSpec := { name := "fnCurves", fn := fun _ => fun
  | [d1, d2] => { results := [.lit (.bool true)], args := [d1, d2] }
  | _ => none }
def fnCurvesRow : OpenClaim := { program := "ytnohbihcoikkbaagreat", sum := "04c54242ecc9e88bd22f83141ebf01326d8e6369824549a537f13f44b67a9dde", func := "loop.example/g00409/laws.FnCurves", spec := "fnCurves", unfollowed := true, recurses := true, apart := false }
def FnCurvesSaid : Prop := fnCurvesRow.holds Tryz.pinned (OpenSpec.ofChange fnCurvesSpec)

/-- ITS FALSE NEIGHBOUR: 'it returns false'. Refute it at one input. -/
def fnCurvesWrong : ChangeSpec := { name := "fnCurves", fn := fun _ => fun
  | [d1, d2] => { results := [.lit (.bool false)], args := [d1, d2] }
  | _ => none }
def FnCurvesWrongFalsely : Prop := fnCurvesRow.holds Tryz.pinned (OpenSpec.ofChange fnCurvesWrong)

/-- 'laws.FnSweeps': WHATEVER THE INPUT: true; the input reads as it did. -/
def fnSweepsSpec : ChangeSpec := { name := "fnSweeps", fn := fun _ => fun
  | [d1, d2] => { results := [.lit (.bool true)], args := [d1, d2] }
  | _ => none }
def fnSweepsRow : OpenClaim := { program := "ytnohbihcoikkbaagreat", sum := "04c54242ecc9e88bd22f83141ebf01326d8e6369824549a537f13f44b67a9dde", func := "loop.example/g00409/laws.FnSweeps", spec := "fnSweeps", unfollowed := true, recurses := true, apart := false }
def FnSweepsSaid : Prop := fnSweepsRow.holds Tryz.pinned (OpenSpec.ofChange fnSweepsSpec)

/-- ITS FALSE NEIGHBOUR: 'it returns false'. Refute it at one input. -/
def fnSweepsWrong : ChangeSpec := { name := "fnSweeps", fn := fun _ => fun
  | [d1, d2] => { results := [.lit (.bool false)], args := [d1, d2] }
  | _ => none }
def FnSweepsWrongFalsely : Prop := fnSweepsRow.holds Tryz.pinned (OpenSpec.ofChange fnSweepsWrong)

/-- 'laws.FnDivisors': WHATEVER THE INPUT: true; the input reads as it did. -/
def fnDivisorsSpec : ChangeSpec := { name := "fnDivisors", fn := fun _ => fun
  | [d1, d2] => { results := [.lit (.bool true)], args := [d1, d2] }
  | _ => none }
def fnDivisorsRow : OpenClaim := { program := "ytnohbihcoikkbaagreat", sum := "04c54242ecc9e88bd22f83141ebf01326d8e6369824549a537f13f44b67a9dde", func := "loop.example/g00409/laws.FnDivisors", spec := "fnDivisors", unfollowed := true, recurses := true, apart := false }
def FnDivisorsSaid : Prop := fnDivisorsRow.holds Tryz.pinned (OpenSpec.ofChange fnDivisorsSpec)

/-- ITS FALSE NEIGHBOUR: 'it returns false'. Refute it at one input. -/
def fnDivisorsWrong : ChangeSpec := { name := "fnDivisors", fn := fun _ => fun
  | [d1, d2] => { results := [.lit (.bool false)], args := [d1, d2] }
  | _ => none }
def FnDivisorsWrongFalsely : Prop := fnDivisorsRow.holds Tryz.pinned (OpenSpec.ofChange fnDivisorsWrong)

/- THE SECOND FORM. 'bulk': how many values and letters a reading holds, each counted each time it is reached (what is shared counts as often as it is met; a slice's spare places count too). A statement '..UptoSaid' is the law's where the arguments, and the package variables that the reading takes, are together of bulk at most 1048576: NARROWER than '..Said'. Prove '..Said' where nothing that the law and all that it calls make is longer than what came in: it says more and counts as full. Else prove '..UptoSaid'. A law counts once. -/
mutual
def uptoBulk {H : Type} : DataW H → Nat
  | .lit (.string bytes) => bytes.length + 1
  | .lit _ => 1
  | .nil => 1
  | .ptr d => uptoBulk d + 1
  | .slice elems spare => uptoBulkAll elems + uptoBulkAll spare + 1
  | .agg parts => uptoBulkAll parts + 1
  | .iface _ d => uptoBulk d + 1
  | .map entries => uptoBulkEntries entries + 1
  | .held _ => 1
def uptoBulkAll {H : Type} : List (DataW H) → Nat
  | [] => 0
  | d :: r => uptoBulk d + uptoBulkAll r
def uptoBulkEntries {H : Type} : List (Lit × DataW H) → Nat
  | [] => 0
  | x :: r => uptoBulkEntry x + uptoBulkEntries r
def uptoBulkEntry {H : Type} : Lit × DataW H → Nat
  | (.string bytes, d) => bytes.length + uptoBulk d + 1
  | (_, d) => uptoBulk d + 1
 end
def uptoSmall : (H : Type) → List (DataW H) → Bool := fun _ ds => decide (uptoBulkAll ds ≤ 1048576)
def OpenSpec.upto (s : _root_.Go.ChangeSpec) : _root_.Go.OpenSpec := { _root_.Go.OpenSpec.ofChange s with cond := some uptoSmall }

/-- 'laws.FnPolys', WHERE WHAT IT READS IS OF BULK AT MOST 1048576: true; the input reads as it did. -/
def fnPolysUptoRow : OpenClaim := { program := "ytnohbihcoikkbaagreat", sum := "04c54242ecc9e88bd22f83141ebf01326d8e6369824549a537f13f44b67a9dde", func := "loop.example/g00409/laws.FnPolys", spec := "fnPolys", unfollowed := true, recurses := true, apart := false, narrowed := true }
def FnPolysUptoSaid : Prop := fnPolysUptoRow.holds Tryz.pinned (OpenSpec.upto fnPolysSpec)

/-- 'laws.FnCurves', WHERE WHAT IT READS IS OF BULK AT MOST 1048576: true; the input reads as it did. -/
def fnCurvesUptoRow : OpenClaim := { program := "ytnohbihcoikkbaagreat", sum := "04c54242ecc9e88bd22f83141ebf01326d8e6369824549a537f13f44b67a9dde", func := "loop.example/g00409/laws.FnCurves", spec := "fnCurves", unfollowed := true, recurses := true, apart := false, narrowed := true }
def FnCurvesUptoSaid : Prop := fnCurvesUptoRow.holds Tryz.pinned (OpenSpec.upto fnCurvesSpec)

/-- 'laws.FnSweeps', WHERE WHAT IT READS IS OF BULK AT MOST 1048576: true; the input reads as it did. -/
def fnSweepsUptoRow : OpenClaim := { program := "ytnohbihcoikkbaagreat", sum := "04c54242ecc9e88bd22f83141ebf01326d8e6369824549a537f13f44b67a9dde", func := "loop.example/g00409/laws.FnSweeps", spec := "fnSweeps", unfollowed := true, recurses := true, apart := false, narrowed := true }
def FnSweepsUptoSaid : Prop := fnSweepsUptoRow.holds Tryz.pinned (OpenSpec.upto fnSweepsSpec)

/-- 'laws.FnDivisors', WHERE WHAT IT READS IS OF BULK AT MOST 1048576: true; the input reads as it did. -/
def fnDivisorsUptoRow : OpenClaim := { program := "ytnohbihcoikkbaagreat", sum := "04c54242ecc9e88bd22f83141ebf01326d8e6369824549a537f13f44b67a9dde", func := "loop.example/g00409/laws.FnDivisors", spec := "fnDivisors", unfollowed := true, recurses := true, apart := false, narrowed := true }
def FnDivisorsUptoSaid : Prop := fnDivisorsUptoRow.holds Tryz.pinned (OpenSpec.upto fnDivisorsSpec)

end Rows
end Go.Proofs.YtnohbihcoikkbaaGreat
