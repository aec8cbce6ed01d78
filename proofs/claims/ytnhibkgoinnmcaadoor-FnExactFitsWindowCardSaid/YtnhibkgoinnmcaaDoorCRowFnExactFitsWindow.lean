/- Whatever comes in, the law 'FnExactFitsWindow' answers true, and nothing that was handed in changes; and its tied card. -/
import Derived.Test.YtnhibkgoinnmcaaDoorCPuFnExactFitsWindow
import Derived.Test.YtnhibkgoinnmcaaDoorEvMe
import Derived.Test.YtnhibkgoinnmcaaDoorRows
import Derived.Test.YtnhibkgoinnmcaaDoorCards
import Derived.Test.YtnhibkgoinnmcaaDoorTie
import Derived.WalkKit
import Derived.ProofKit
import Derived.OpenShut
import Derived.ShutString
import Derived.ChangeOld
import Derived.Below
import Derived.SizedLaws
import Derived.SevenTiedAt
import Derived.LaidMore
import Derived.Lay
import Derived.Stop.Joined
import Derived.Test.YtnhibkgoinnmcaaDoorChecked
namespace Go.Proofs.YtnhibkgoinnmcaaDoor.Ev
open Go Go.RowKit Go.ChangeShapes Go.WideShapes Go.ChangeAt
set_option linter.unusedVariables false
set_option maxRecDepth 100000

def shs : List Sh := [.str, .pair (.int .i64) (.pair (.int .i64) (.pair (.int .i64) (.int .i64)))]
theorem fits : FitsL Tryd.prog [9, 64] shs := by
  exact ⟨.str (by kernel_rfl), .st Tryd.underlying64 (by kernel_rfl) (.cons rfl (by kernel_rfl) (.int (by kernel_rfl)) (.cons rfl (by kernel_rfl) (.int (by kernel_rfl)) (.cons rfl (by kernel_rfl) (.int (by kernel_rfl)) (.one rfl (by kernel_rfl) (.int (by kernel_rfl)))))), trivial⟩
theorem own : ownKnob Tryd.prog.godebug = none := by kernel_rfl
theorem laid : laidOutB Tryd.prog = true := by kernel_rfl
theorem door_met (os : Os) (args : Array Value) : laidMetH Tryd.prog Rows.fnExactFitsWindowRow.laid ((World.laidAll Tryd.prog os Rows.fnExactFitsWindowRow.laid).forCall (fun _ _ => 0) ⟨#[], args, []⟩).memory := by
  rw [MakeChecks.laidMetH_plain _ _ _ (by kernel_rfl)]
  exact laidMet_laidAll _ (by kernel_rfl) (by kernel_rfl)
theorem starE : "*" ++ "errors.errorString" = "*errors.errorString" := by decide
def ids : List Nat := [0, 1, 2, 3]
theorem libJ {W : World} (hsh : W.ShapedOpen Tryd.prog) (hL : laidMetH Tryd.prog Rows.fnExactFitsWindowRow.laid W) : LibJ (Jof W ids) := by
  rw [MakeChecks.laidMetH_plain _ _ _ (by kernel_rfl)] at hL
  have hP : laidMet Tryd.prog Rows.fnExactFitsWindowRow.laid W := hL
  have htab : Lib.TabIs Tryd.prog W "internal/strconv.uint64pow10" .u64 Lib.pow10Tab := Lib.tabIs_of_head (g := 3) (t := 181) (e := 95) (n := 20) (by kernel_rfl) (by kernel_rfl) (by kernel_rfl) (by kernel_rfl) (by kernel_rfl) (by kernel_rfl) (show laidMet Tryd.prog ((_, Lib.tabData .u64 Lib.pow10Tab) :: _) W from laidMet_drop 2 hP)
  have hmax : ∃ m : Int, W.cell? ⟨2, 0, none⟩ = some (.int .i64 m) := Go.Proofs.cell_of_shapedOpen_int (zero := #[.int .i64 0]) (t := 3) hsh (of_decide_eq_true (by kernel_rfl)) (by kernel_rfl) rfl (by kernel_rfl) (by kernel_rfl) Tryd.underlying3
  have hsyn : ∃ tp p, W.var? Tryd.prog "strconv.ErrSyntax" = some #[.iface tp p] := by
    obtain ⟨a, s, hv, _⟩ := laid_sentinel (g := 0) (ti := 82) (tp := 187) (te := 189) (ts := 9) (laidMet_drop 5 hP) (by kernel_rfl) (by kernel_rfl) Tryd.underlying82 (fun u h => typeName_ptr_named (nm := "errors.errorString") (by rw [starE]; kernel_rfl) (by kernel_rfl) (by decide) u (by rw [starE]; exact h)) Tryd.underlying187 Tryd.underlying189 rfl rfl Tryd.underlying9 (by kernel_rfl) (by kernel_rfl)
    exact ⟨_, _, hv⟩
  have hrng : ∃ tp p, W.var? Tryd.prog "strconv.ErrRange" = some #[.iface tp p] := by
    obtain ⟨a, s, hv, _⟩ := laid_sentinel (g := 1) (ti := 82) (tp := 187) (te := 189) (ts := 9) (laidMet_drop 4 hP) (by kernel_rfl) (by kernel_rfl) Tryd.underlying82 (fun u h => typeName_ptr_named (nm := "errors.errorString") (by rw [starE]; kernel_rfl) (by kernel_rfl) (by decide) u (by rw [starE]; exact h)) Tryd.underlying187 Tryd.underlying189 rfl rfl Tryd.underlying9 (by kernel_rfl) (by kernel_rfl)
    exact ⟨_, _, hv⟩
  unfold ids
  exact { tab := jtab (g := 3) (by kernel_rfl) (by simp) htab, max := jmax (g := 2) (by simp) hmax, syn := jvar (g := 0) (by kernel_rfl) (by simp) hsyn, rng := jvar (g := 1) (by kernel_rfl) (by simp) hrng }

theorem lifted (os : Os) (started : os.Started) (H : Type) (enc : TypeId × Value → H) :
    ReturnsInHanded {} Tryd.checked os 13 .any (fun w args => (Rows.fnExactFitsWindowSpec.pre enc Tryd.prog Tryd.f13 [] false w args ∧ laidMetH Tryd.prog Rows.fnExactFitsWindowRow.laid w) ∧ sizedMet enc Tryd.prog Tryd.f13 (OpenSpec.ofChange Rows.fnExactFitsWindowSpec) false w args)
      (Rows.fnExactFitsWindowSpec.post enc Tryd.prog Tryd.f13 false true false false) := by
  refine returnsInHanded_both (C := Tryd.checked) (X := fun w _ => laidMetH Tryd.prog Rows.fnExactFitsWindowRow.laid w) (fun _ _ _ hh h => h.of_heap hh) own started (by kernel_rfl) Tryd.func13
    (ChangeSpec.witness_shaped (enc := enc) (C := Tryd.checked) (os := os) (X := fun w _ => laidMetH Tryd.prog Rows.fnExactFitsWindowRow.laid w) false (World.laidAll Tryd.prog os Rows.fnExactFitsWindowRow.laid) #[.string ⟨#[]⟩, .agg #[.int .i64 0, .int .i64 0, .int .i64 0, .int .i64 0]] 8 (World.laidAll_os _ _ _) (World.shaped_of_ZipB (by kernel_rfl) (by kernel_rfl)) (by kernel_rfl) (by kernel_rfl) (by kernel_rfl) (door_met os _)) ?_
  intro W base args ds gs before hval hW hsz hsh hL
  exact law_contractS (P := Tryd.prog) (J := Jof W ids) (cf := cf0) (ext := ext0) (F := fun x => F_l_FnExactFitsWindow x.1 x.2) (shs := shs) (by kernel_rfl) (ext_spec (libJ hsh hL)) OK_l_FnExactFitsWindow (fun d => by kernel_rfl)
    (fun d hd => pureFnExactFitsWindow d.1 d.2) rfl rfl (by kernel_rfl) fits laid
    (fun t ht => by
      have : t = 9 ∨ t = 64 := by simpa using ht
      rcases this with rfl | rfl <;> exact ⟨by kernel_rfl, of_decide_eq_true (by kernel_rfl)⟩) rfl
    (fun ds hl => by
      match ds, hl with
      | [_, _], _ => rfl) Jof_self hval hW hsz

theorem over : Rows.fnExactFitsWindowRow.holds Tryd.pinned (OpenSpec.ofChange Rows.fnExactFitsWindowSpec) :=
  OpenClaim.holds_of_wide 13 Tryd.f13 rfl rfl rfl rfl rfl rfl rfl ⟨rfl, rfl, rfl, rfl, rfl⟩ rfl rfl rfl rfl rfl (by kernel_rfl) Tryd.func13 (by kernel_rfl)
    (of_decide_eq_true (by kernel_rfl)) (by unfold Func.isWrapper; first | (rw [if_pos (by decide +kernel)]; kernel_rfl) | (rw [if_neg (by decide +kernel)]; exact ⟨rfl, rfl⟩))
    (fun os started H enc _ => lifted os started H enc)

theorem carded : Rows.FnExactFitsWindowCardSaid :=
  Claim7.holds_tied_plain_at .later [] [.data, .data, .data, .data, .sentinel, .sentinel, .pinned] true (true, "adc444537e5e235a1c12790dd89a2b15b143492a964298a5ceb9355dab6fa37c") true
    over (fun _ h => by cases h) (by kernel_rfl) (fun _ h => by cases h) fnExactFitsWindow_row_tie rfl ⟨rfl, rfl⟩ (by kernel_rfl) rfl
    (fun f fn hf hfn => by
      obtain rfl : f = 13 := Option.some.inj ((show Tryd.prog.funcNamed "loop.example/g00409/laws.FnExactFitsWindow" = some 13 by kernel_rfl).symm.trans hf) |>.symm
      obtain rfl : fn = Tryd.f13 := (Option.some.inj (Tryd.func13.symm.trans hfn)).symm
      exact ⟨by kernel_rfl, fun j t ht => by
        rw [show Tryd.f13.params = #[9, 64] from rfl] at ht
        have hm : t ∈ [9, 64] := by simpa using Array.mem_of_getElem? ht
        have hall : ([9, 64].all fun u => !Tryd.prog.wantsStandIn u) = true := by kernel_rfl
        exact (show Tryd.prog.wantsStandIn t = false by simpa using List.all_eq_true.1 hall t hm)⟩)
    (by kernel_rfl)
end Go.Proofs.YtnhibkgoinnmcaaDoor.Ev
namespace Go.Proofs.YtnhibkgoinnmcaaDoor
theorem fnExactFitsWindow_holds : Rows.FnExactFitsWindowSaid := Ev.over
theorem fnExactFitsWindow_card_holds : Rows.FnExactFitsWindowCardSaid := Ev.carded
#print axioms fnExactFitsWindow_card_holds
end Go.Proofs.YtnhibkgoinnmcaaDoor
