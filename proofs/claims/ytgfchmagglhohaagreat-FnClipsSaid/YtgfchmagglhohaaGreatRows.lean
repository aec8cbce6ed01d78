/-
  No cell of these rows narrows 'for every input' (looked for: loops, veiled, ifaces, maps, wideKeys, modest, calm, conditions, laid).
  DERIVED. THE GIVEN ROWS OF THIS SEAT. 6 by the template 'for every input the law returns true; each argument reads behind the call as it read before'; 0 by the template 'total and deterministic' (their statements: YtgfchmagglhohaaGreatTotals.lean).
  GIVEN WITH THE SEED: the statements are not yours to turn. If you find one false, say at which input.
  Laid BY PROGRAM, IN A SANDBOX (cutbox-rows.mjs): the forced cells as the released guide's own fill.sh prints them over the translation 60c838e6dd2bc795… (all of the seat's roots in one cut). By AI agents, Wed Nov 11 2026. No macro, syntax, notation, axiom, sorry.
-/
import Derived.Test.YtgfchmagglhohaaGreatChecked
import GoSem.Claim
import GoSem.ClaimJoined
import GoSem.ClaimMapViews
import Derived.JoinedTies
import Derived.KernelRfl
namespace Go.Proofs.YtgfchmagglhohaaGreat
/- THE CELL 'sum', in the pinned program and in every row, IS THE sha256 OF THE DUMP (.gsa) THAT YtgfchmagglhohaaGreatProg.lean LOADS. Nothing in Lean hashes anything: it is a label: what it is worth is what the hold of that sum in a sandbox is worth. -/
noncomputable def Tryz.pinned : Pinned := { name := "ytgfchmagglhohaagreat", sum := "60c838e6dd2bc7958202df5794c195f1d0c558ff2bcb859dbf8fb92b4d08be98", checked := Tryz.checked }
namespace Rows
def none {H : Type} : Left H := { results := [], args := [] }

/-- 'laws.FnTerms': WHATEVER THE INPUT: true; the input reads as it did. -/
def fnTermsSpec : ChangeSpec := { name := "fnTerms", fn := fun _ => fun
  | [d1, d2] => { results := [.lit (.bool true)], args := [d1, d2] }
  | _ => none }
def fnTermsRow : OpenClaim := { program := "ytgfchmagglhohaagreat", sum := "60c838e6dd2bc7958202df5794c195f1d0c558ff2bcb859dbf8fb92b4d08be98", func := "loop.example/g00409/laws.FnTerms", spec := "fnTerms", unfollowed := true, recurses := true, apart := false }
def FnTermsSaid : Prop := fnTermsRow.holds Tryz.pinned (OpenSpec.ofChange fnTermsSpec)

/-- ITS FALSE NEIGHBOUR: 'it returns false'. Refute it at one input. -/
def fnTermsWrong : ChangeSpec := { name := "fnTerms", fn := fun _ => fun
  | [d1, d2] => { results := [.lit (.bool false)], args := [d1, d2] }
  | _ => none }
def FnTermsWrongFalsely : Prop := fnTermsRow.holds Tryz.pinned (OpenSpec.ofChange fnTermsWrong)

/-- 'laws.FnSpans': WHATEVER THE INPUT: true; the input reads as it did. -/
def fnSpansSpec : ChangeSpec := { name := "fnSpans", fn := fun _ => fun
  | [d1, d2] => { results := [.lit (.bool true)], args := [d1, d2] }
  | _ => none }
def fnSpansRow : OpenClaim := { program := "ytgfchmagglhohaagreat", sum := "60c838e6dd2bc7958202df5794c195f1d0c558ff2bcb859dbf8fb92b4d08be98", func := "loop.example/g00409/laws.FnSpans", spec := "fnSpans", unfollowed := true, recurses := true, apart := false }
def FnSpansSaid : Prop := fnSpansRow.holds Tryz.pinned (OpenSpec.ofChange fnSpansSpec)

/-- ITS FALSE NEIGHBOUR: 'it returns false'. Refute it at one input. -/
def fnSpansWrong : ChangeSpec := { name := "fnSpans", fn := fun _ => fun
  | [d1, d2] => { results := [.lit (.bool false)], args := [d1, d2] }
  | _ => none }
def FnSpansWrongFalsely : Prop := fnSpansRow.holds Tryz.pinned (OpenSpec.ofChange fnSpansWrong)

/-- 'laws.FnRounded': WHATEVER THE INPUT: true; the input reads as it did. -/
def fnRoundedSpec : ChangeSpec := { name := "fnRounded", fn := fun _ => fun
  | [d1, d2] => { results := [.lit (.bool true)], args := [d1, d2] }
  | _ => none }
def fnRoundedRow : OpenClaim := { program := "ytgfchmagglhohaagreat", sum := "60c838e6dd2bc7958202df5794c195f1d0c558ff2bcb859dbf8fb92b4d08be98", func := "loop.example/g00409/laws.FnRounded", spec := "fnRounded", unfollowed := true, recurses := true, apart := false }
def FnRoundedSaid : Prop := fnRoundedRow.holds Tryz.pinned (OpenSpec.ofChange fnRoundedSpec)

/-- ITS FALSE NEIGHBOUR: 'it returns false'. Refute it at one input. -/
def fnRoundedWrong : ChangeSpec := { name := "fnRounded", fn := fun _ => fun
  | [d1, d2] => { results := [.lit (.bool false)], args := [d1, d2] }
  | _ => none }
def FnRoundedWrongFalsely : Prop := fnRoundedRow.holds Tryz.pinned (OpenSpec.ofChange fnRoundedWrong)

/-- 'laws.FnPolys': WHATEVER THE INPUT: true; the input reads as it did. -/
def fnPolysSpec : ChangeSpec := { name := "fnPolys", fn := fun _ => fun
  | [d1, d2] => { results := [.lit (.bool true)], args := [d1, d2] }
  | _ => none }
def fnPolysRow : OpenClaim := { program := "ytgfchmagglhohaagreat", sum := "60c838e6dd2bc7958202df5794c195f1d0c558ff2bcb859dbf8fb92b4d08be98", func := "loop.example/g00409/laws.FnPolys", spec := "fnPolys", unfollowed := true, recurses := true, apart := false }
def FnPolysSaid : Prop := fnPolysRow.holds Tryz.pinned (OpenSpec.ofChange fnPolysSpec)

/-- ITS FALSE NEIGHBOUR: 'it returns false'. Refute it at one input. -/
def fnPolysWrong : ChangeSpec := { name := "fnPolys", fn := fun _ => fun
  | [d1, d2] => { results := [.lit (.bool false)], args := [d1, d2] }
  | _ => none }
def FnPolysWrongFalsely : Prop := fnPolysRow.holds Tryz.pinned (OpenSpec.ofChange fnPolysWrong)

/-- 'laws.FnExactShareOf': WHATEVER THE INPUT: true; the input reads as it did. -/
def fnExactShareOfSpec : ChangeSpec := { name := "fnExactShareOf", fn := fun _ => fun
  | [d1, d2, d3] => { results := [.lit (.bool true)], args := [d1, d2, d3] }
  | _ => none }
def fnExactShareOfRow : OpenClaim := { program := "ytgfchmagglhohaagreat", sum := "60c838e6dd2bc7958202df5794c195f1d0c558ff2bcb859dbf8fb92b4d08be98", func := "loop.example/g00409/laws.FnExactShareOf", spec := "fnExactShareOf", unfollowed := true, recurses := true, apart := false }
def FnExactShareOfSaid : Prop := fnExactShareOfRow.holds Tryz.pinned (OpenSpec.ofChange fnExactShareOfSpec)

/-- ITS FALSE NEIGHBOUR: 'it returns false'. Refute it at one input. -/
def fnExactShareOfWrong : ChangeSpec := { name := "fnExactShareOf", fn := fun _ => fun
  | [d1, d2, d3] => { results := [.lit (.bool false)], args := [d1, d2, d3] }
  | _ => none }
def FnExactShareOfWrongFalsely : Prop := fnExactShareOfRow.holds Tryz.pinned (OpenSpec.ofChange fnExactShareOfWrong)

/-- 'laws.FnClips': WHATEVER THE INPUT: true; the input reads as it did. -/
def fnClipsSpec : ChangeSpec := { name := "fnClips", fn := fun _ => fun
  | [d1, d2] => { results := [.lit (.bool true)], args := [d1, d2] }
  | _ => none }
def fnClipsRow : OpenClaim := { program := "ytgfchmagglhohaagreat", sum := "60c838e6dd2bc7958202df5794c195f1d0c558ff2bcb859dbf8fb92b4d08be98", func := "loop.example/g00409/laws.FnClips", spec := "fnClips", unfollowed := true, recurses := true, apart := false }
def FnClipsSaid : Prop := fnClipsRow.holds Tryz.pinned (OpenSpec.ofChange fnClipsSpec)

/-- ITS FALSE NEIGHBOUR: 'it returns false'. Refute it at one input. -/
def fnClipsWrong : ChangeSpec := { name := "fnClips", fn := fun _ => fun
  | [d1, d2] => { results := [.lit (.bool false)], args := [d1, d2] }
  | _ => none }
def FnClipsWrongFalsely : Prop := fnClipsRow.holds Tryz.pinned (OpenSpec.ofChange fnClipsWrong)

/- THE SECOND FORM. 'bulk': how many values and letters a reading holds, each counted each time it is reached (what is shared counts as often as it is met; a slice's spare places count too). A statement '..UptoSaid' is the law's where the arguments, and the package variables that the reading takes, are together of bulk at most 1048576: NARROWER than '..Said'. Prove '..Said' where nothing that the law and all that it calls make is longer than what came in: it says more and counts as full. Else prove '..UptoSaid'. A law counts once. -/
mutual
def uptoBulk {H : Type} : DataW H → Nat
  | .lit (.string bytes) => bytes.length + 1
  | .lit _ => 1
  | .nil => 1
  | .ptr d => uptoBulk d + 1
  | .slice elems spare => uptoBulkAll elems + uptoBulkAll spare + 1
  | .agg parts => uptoBulkAll parts + 1
  | .iface _ d => uptoBulk d + 1
  | .map entries => uptoBulkEntries entries + 1
  | .held _ => 1
def uptoBulkAll {H : Type} : List (DataW H) → Nat
  | [] => 0
  | d :: r => uptoBulk d + uptoBulkAll r
def uptoBulkEntries {H : Type} : List (Lit × DataW H) → Nat
  | [] => 0
  | x :: r => uptoBulkEntry x + uptoBulkEntries r
def uptoBulkEntry {H : Type} : Lit × DataW H → Nat
  | (.string bytes, d) => bytes.length + uptoBulk d + 1
  | (_, d) => uptoBulk d + 1
 end
def uptoSmall : (H : Type) → List (DataW H) → Bool := fun _ ds => decide (uptoBulkAll ds ≤ 1048576)
def OpenSpec.upto (s : _root_.Go.ChangeSpec) : _root_.Go.OpenSpec := { _root_.Go.OpenSpec.ofChange s with cond := some uptoSmall }

/-- 'laws.FnTerms', WHERE WHAT IT READS IS OF BULK AT MOST 1048576: true; the input reads as it did. -/
def fnTermsUptoRow : OpenClaim := { program := "ytgfchmagglhohaagreat", sum := "60c838e6dd2bc7958202df5794c195f1d0c558ff2bcb859dbf8fb92b4d08be98", func := "loop.example/g00409/laws.FnTerms", spec := "fnTerms", unfollowed := true, recurses := true, apart := false, narrowed := true }
def FnTermsUptoSaid : Prop := fnTermsUptoRow.holds Tryz.pinned (OpenSpec.upto fnTermsSpec)

/-- 'laws.FnSpans', WHERE WHAT IT READS IS OF BULK AT MOST 1048576: true; the input reads as it did. -/
def fnSpansUptoRow : OpenClaim := { program := "ytgfchmagglhohaagreat", sum := "60c838e6dd2bc7958202df5794c195f1d0c558ff2bcb859dbf8fb92b4d08be98", func := "loop.example/g00409/laws.FnSpans", spec := "fnSpans", unfollowed := true, recurses := true, apart := false, narrowed := true }
def FnSpansUptoSaid : Prop := fnSpansUptoRow.holds Tryz.pinned (OpenSpec.upto fnSpansSpec)

/-- 'laws.FnRounded', WHERE WHAT IT READS IS OF BULK AT MOST 1048576: true; the input reads as it did. -/
def fnRoundedUptoRow : OpenClaim := { program := "ytgfchmagglhohaagreat", sum := "60c838e6dd2bc7958202df5794c195f1d0c558ff2bcb859dbf8fb92b4d08be98", func := "loop.example/g00409/laws.FnRounded", spec := "fnRounded", unfollowed := true, recurses := true, apart := false, narrowed := true }
def FnRoundedUptoSaid : Prop := fnRoundedUptoRow.holds Tryz.pinned (OpenSpec.upto fnRoundedSpec)

/-- 'laws.FnPolys', WHERE WHAT IT READS IS OF BULK AT MOST 1048576: true; the input reads as it did. -/
def fnPolysUptoRow : OpenClaim := { program := "ytgfchmagglhohaagreat", sum := "60c838e6dd2bc7958202df5794c195f1d0c558ff2bcb859dbf8fb92b4d08be98", func := "loop.example/g00409/laws.FnPolys", spec := "fnPolys", unfollowed := true, recurses := true, apart := false, narrowed := true }
def FnPolysUptoSaid : Prop := fnPolysUptoRow.holds Tryz.pinned (OpenSpec.upto fnPolysSpec)

/-- 'laws.FnExactShareOf', WHERE WHAT IT READS IS OF BULK AT MOST 1048576: true; the input reads as it did. -/
def fnExactShareOfUptoRow : OpenClaim := { program := "ytgfchmagglhohaagreat", sum := "60c838e6dd2bc7958202df5794c195f1d0c558ff2bcb859dbf8fb92b4d08be98", func := "loop.example/g00409/laws.FnExactShareOf", spec := "fnExactShareOf", unfollowed := true, recurses := true, apart := false, narrowed := true }
def FnExactShareOfUptoSaid : Prop := fnExactShareOfUptoRow.holds Tryz.pinned (OpenSpec.upto fnExactShareOfSpec)

/-- 'laws.FnClips', WHERE WHAT IT READS IS OF BULK AT MOST 1048576: true; the input reads as it did. -/
def fnClipsUptoRow : OpenClaim := { program := "ytgfchmagglhohaagreat", sum := "60c838e6dd2bc7958202df5794c195f1d0c558ff2bcb859dbf8fb92b4d08be98", func := "loop.example/g00409/laws.FnClips", spec := "fnClips", unfollowed := true, recurses := true, apart := false, narrowed := true }
def FnClipsUptoSaid : Prop := fnClipsUptoRow.holds Tryz.pinned (OpenSpec.upto fnClipsSpec)

end Rows
end Go.Proofs.YtgfchmagglhohaaGreat
