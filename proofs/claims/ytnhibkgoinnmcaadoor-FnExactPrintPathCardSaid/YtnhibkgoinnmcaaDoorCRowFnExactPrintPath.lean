/- Whatever comes in, the law 'FnExactPrintPath' answers true, and nothing that was handed in changes; and its tied card. -/
import Derived.Test.YtnhibkgoinnmcaaDoorCPuFnExactPrintPath
import Derived.Test.YtnhibkgoinnmcaaDoorEvMe
import Derived.Test.YtnhibkgoinnmcaaDoorRows
import Derived.Test.YtnhibkgoinnmcaaDoorCards
import Derived.Test.YtnhibkgoinnmcaaDoorTie
import Derived.WalkKit
import Derived.ProofKit
import Derived.OpenShut
import Derived.ShutString
import Derived.ChangeOld
import Derived.Below
import Derived.SizedLaws
import Derived.SevenTiedAt
import Derived.LaidMore
import Derived.Lay
import Derived.Stop.Joined
import Derived.Test.YtnhibkgoinnmcaaDoorChecked
namespace Go.Proofs.YtnhibkgoinnmcaaDoor.Ev
open Go Go.RowKit Go.ChangeShapes Go.WideShapes Go.ChangeAt
set_option linter.unusedVariables false
set_option maxRecDepth 100000

def shs : List Sh := [.sl 24 (.sl 16 (.pair (.int .i64) (.int .i64)))]
theorem fits : FitsL Tryd.prog [46] shs := by
  exact ⟨.sl (e := 103) (by kernel_rfl) (by kernel_rfl) (by kernel_rfl) (.sl (e := 135) (by kernel_rfl) (by kernel_rfl) (by kernel_rfl) (.st Tryd.underlying135 (by kernel_rfl) (.cons rfl (by kernel_rfl) (.int (by kernel_rfl)) (.one rfl (by kernel_rfl) (.int (by kernel_rfl)))))), trivial⟩
theorem own : ownKnob Tryd.prog.godebug = none := by kernel_rfl
theorem laid : laidOutB Tryd.prog = true := by kernel_rfl
theorem door_met (os : Os) (args : Array Value) : laidMetH Tryd.prog Rows.fnExactPrintPathRow.laid ((World.laidAll Tryd.prog os Rows.fnExactPrintPathRow.laid).forCall (fun _ _ => 0) ⟨#[], args, []⟩).memory := by
  rw [MakeChecks.laidMetH_plain _ _ _ (by kernel_rfl)]
  exact laidMet_laidAll _ (by kernel_rfl) (by kernel_rfl)
theorem starE : "*" ++ "errors.errorString" = "*errors.errorString" := by decide
def ids : List Nat := [3]
theorem libJ {W : World} (hsh : W.ShapedOpen Tryd.prog) (hL : laidMetH Tryd.prog Rows.fnExactPrintPathRow.laid W) : LibJ (Jof W ids) := by
  rw [MakeChecks.laidMetH_plain _ _ _ (by kernel_rfl)] at hL
  have hP : laidMet Tryd.prog Rows.fnExactPrintPathRow.laid W := hL
  have htab : Lib.TabIs Tryd.prog W "internal/strconv.uint64pow10" .u64 Lib.pow10Tab := Lib.tabIs_of_head (g := 3) (t := 181) (e := 95) (n := 20) (by kernel_rfl) (by kernel_rfl) (by kernel_rfl) (by kernel_rfl) (by kernel_rfl) (by kernel_rfl) (show laidMet Tryd.prog ((_, Lib.tabData .u64 Lib.pow10Tab) :: _) W from laidMet_drop 2 hP)
  unfold ids
  exact { tab := jtab (g := 3) (by kernel_rfl) (by simp) htab }

theorem lifted (os : Os) (started : os.Started) (H : Type) (enc : TypeId × Value → H) :
    ReturnsInHanded {} Tryd.checked os 8 .any (fun w args => (Rows.fnExactPrintPathSpec.pre enc Tryd.prog Tryd.f8 [] false w args ∧ laidMetH Tryd.prog Rows.fnExactPrintPathRow.laid w) ∧ sizedMet enc Tryd.prog Tryd.f8 (OpenSpec.ofChange Rows.fnExactPrintPathSpec) false w args)
      (Rows.fnExactPrintPathSpec.post enc Tryd.prog Tryd.f8 false true false false) := by
  refine returnsInHanded_both (C := Tryd.checked) (X := fun w _ => laidMetH Tryd.prog Rows.fnExactPrintPathRow.laid w) (fun _ _ _ hh h => h.of_heap hh) own started (by kernel_rfl) Tryd.func8
    (ChangeSpec.witness_shaped (enc := enc) (C := Tryd.checked) (os := os) (X := fun w _ => laidMetH Tryd.prog Rows.fnExactPrintPathRow.laid w) false (World.laidAll Tryd.prog os Rows.fnExactPrintPathRow.laid) #[.slice none 0 0] 8 (World.laidAll_os _ _ _) (World.shaped_of_ZipB (by kernel_rfl) (by kernel_rfl)) (by kernel_rfl) (by kernel_rfl) (by kernel_rfl) (door_met os _)) ?_
  intro W base args ds gs before hval hW hsz hsh hL
  exact law_contract (P := Tryd.prog) (J := Jof W ids) (cf := cf0) (ext := ext0) (F := fun x => F_l_FnExactPrintPath x) (shs := shs) (by kernel_rfl) (ext_spec (libJ hsh hL)) OK_l_FnExactPrintPath (fun d => by kernel_rfl)
    (fun d hd => pureFnExactPrintPath d hd.1.2 (fun w hw => (hd.1.1 w hw).2)) rfl rfl rfl (by kernel_rfl) fits laid
    (fun t ht => by
      have : t = 46 := by simpa using ht
      rcases this with rfl <;> exact ⟨by kernel_rfl, of_decide_eq_true (by kernel_rfl)⟩) rfl
    (fun ds hl => by
      match ds, hl with
      | [_], _ => rfl) Jof_self hval hW hsz

theorem over : Rows.fnExactPrintPathRow.holds Tryd.pinned (OpenSpec.ofChange Rows.fnExactPrintPathSpec) :=
  OpenClaim.holds_of_wide 8 Tryd.f8 rfl rfl rfl rfl rfl rfl rfl ⟨rfl, rfl, rfl, rfl, rfl⟩ rfl rfl rfl rfl rfl (by kernel_rfl) Tryd.func8 (by kernel_rfl)
    (of_decide_eq_true (by kernel_rfl)) (by unfold Func.isWrapper; first | (rw [if_pos (by decide +kernel)]; kernel_rfl) | (rw [if_neg (by decide +kernel)]; exact ⟨rfl, rfl⟩))
    (fun os started H enc _ => lifted os started H enc)

theorem carded : Rows.FnExactPrintPathCardSaid :=
  Claim7.holds_tied_plain_at .later [] [.data, .data, .data] true (true, "adc444537e5e235a1c12790dd89a2b15b143492a964298a5ceb9355dab6fa37c") true
    over (fun _ h => by cases h) (by kernel_rfl) (fun _ h => by cases h) fnExactPrintPath_row_tie rfl ⟨rfl, rfl⟩ (by kernel_rfl) rfl
    (fun f fn hf hfn => by
      obtain rfl : f = 8 := Option.some.inj ((show Tryd.prog.funcNamed "loop.example/g00409/laws.FnExactPrintPath" = some 8 by kernel_rfl).symm.trans hf) |>.symm
      obtain rfl : fn = Tryd.f8 := (Option.some.inj (Tryd.func8.symm.trans hfn)).symm
      exact ⟨by kernel_rfl, fun j t ht => by
        rw [show Tryd.f8.params = #[46] from rfl] at ht
        have hm : t ∈ [46] := by simpa using Array.mem_of_getElem? ht
        have hall : ([46].all fun u => !Tryd.prog.wantsStandIn u) = true := by kernel_rfl
        exact (show Tryd.prog.wantsStandIn t = false by simpa using List.all_eq_true.1 hall t hm)⟩)
    (by kernel_rfl)
end Go.Proofs.YtnhibkgoinnmcaaDoor.Ev
namespace Go.Proofs.YtnhibkgoinnmcaaDoor
theorem fnExactPrintPath_holds : Rows.FnExactPrintPathSaid := Ev.over
theorem fnExactPrintPath_card_holds : Rows.FnExactPrintPathCardSaid := Ev.carded
#print axioms fnExactPrintPath_card_holds
end Go.Proofs.YtnhibkgoinnmcaaDoor
