/- Whatever the bytes handed in, the law 'FnWays' answers true, and nothing that was handed in changes. -/
import Derived.Test.YtcmihlhmeonmfaaCPuFnWays
import Derived.Test.YtcmihlhmeonmfaaRows
import Derived.WalkKit
import Derived.ProofKit
import Derived.OpenShut
import Derived.ShutString
import Derived.ChangeOld
import Derived.Below
import Derived.SizedLaws
import Derived.Test.YtcmihlhmeonmfaaChecked
namespace Go.Proofs.Ytcmihlhmeonmfaa.Ev
open Go Go.RowKit Go.ChangeShapes Go.WideShapes Go.ChangeAt
set_option linter.unusedVariables false

def shs : List Sh := [.sl 1 (.int .u8), .sl 1 (.int .u8)]
theorem fits : FitsL Try.prog [48, 48] shs := by
  have h : Fits Try.prog 48 (.sl 1 (.int .u8)) := .sl Try.underlying48 (by kernel_rfl) (by kernel_rfl) (.int Try.underlying5)
  exact ⟨h, h, trivial⟩

theorem bytes_wf {l : List Int} (h : WFC (.sl 1 (.int .u8)) l) : (∀ x ∈ l, 0 ≤ x ∧ x ≤ 255) ∧ l.length ≤ 1000000000000000 := by
  have h1 : ∀ x ∈ l, (Lit.int .u8 x).wf = true := h.1
  have h2 : l.length * 1 ≤ maxBytes := h.2
  refine ⟨fun x hx => ?_, by unfold maxBytes at h2; omega⟩
  have := h1 x hx
  simp [Lit.wf, IntKind.min, IntKind.max, IntKind.bits, IntKind.signed] at this
  omega

theorem own : ownKnob Try.prog.godebug = none := by kernel_rfl
theorem laid : laidOutB Try.prog = true := by kernel_rfl

set_option maxRecDepth 100000 in
theorem lifted (os : Os) (started : os.Started) (H : Type) (enc : TypeId × Value → H) :
    ReturnsInHanded {} Try.checked os 9 .any (Rows.fnWaysSpec.pre6 enc Try.prog Try.f9 Rows.fnWaysRow.domain false) (Rows.fnWaysSpec.post enc Try.prog Try.f9 false true false false) := by
  refine returnsInHanded_of_change_sized (C := Try.checked) own started (by kernel_rfl) Try.func9 (ChangeSpec.witness6 (enc := enc) (C := Try.checked) false ⟨#[], #[.slice none 0 0, .slice none 0 0], []⟩ 8 (by kernel_rfl) (by kernel_rfl) (by kernel_rfl) (by kernel_rfl)) ?_
  intro W base args ds gs before hval hW hcnd hsz _
  exact law_contract (P := Try.prog) (J := []) (cf := cf0) (ext := noExt) (F := fun x => F_l_FnWays x.1 x.2) (shs := shs) (by kernel_rfl) (fun _ _ _ _ _ h => h.elim) OK_l_FnWays (fun d => by kernel_rfl)
    (fun d hd => pureFnWays (bytes_wf hd.1).1 (bytes_wf hd.2.1).1 (bytes_wf hd.1).2 (bytes_wf hd.2.1).2) rfl rfl rfl (by kernel_rfl) fits laid
    (fun t ht => by
      have : t = 48 := by simpa using ht
      subst this
      exact ⟨by kernel_rfl, of_decide_eq_true (by kernel_rfl)⟩) rfl
    (fun ds hl => by
      match ds, hl with
      | [_, _], _ => rfl) (fun x hx => absurd hx (List.not_mem_nil)) hval hW hsz

theorem over : Rows.fnWaysRow.holds Try.pinned (OpenSpec.ofChange Rows.fnWaysSpec) :=
  OpenClaim.holds_of_wide 9 Try.f9 rfl rfl rfl rfl rfl rfl rfl ⟨rfl, rfl, rfl, rfl, rfl⟩ rfl rfl rfl rfl rfl (by kernel_rfl) Try.func9 (by kernel_rfl)
    (of_decide_eq_true (by kernel_rfl)) (by unfold Func.isWrapper; first | (rw [if_pos (by decide +kernel)]; kernel_rfl) | (rw [if_neg (by decide +kernel)]; exact ⟨rfl, rfl⟩))
    (fun os started H enc _ => lifted os started H enc)
end Go.Proofs.Ytcmihlhmeonmfaa.Ev
namespace Go.Proofs.Ytcmihlhmeonmfaa
theorem fnWays_holds : Rows.FnWaysSaid := Ev.over
#print axioms fnWays_holds
end Go.Proofs.Ytcmihlhmeonmfaa
