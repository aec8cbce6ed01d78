/- A law that the evaluator runs to true: the call. -/
import Derived.Test.YtcmihlhmeonmfaaEv30
import Derived.Below
import Derived.Carry
namespace Go.Proofs.Ytcmihlhmeonmfaa.Ev
open Go Go.RowKit
set_option linter.unusedVariables false
set_option linter.unusedSimpArgs false

variable {P : Program} {w : World}

theorem told_refs {xs : List V} {cs : List Value} (h : Told w xs cs) : xs.flatMap refs1 = [] := by
  rw [List.flatMap_eq_nil_iff]
  intro x hx
  obtain ⟨i, hi⟩ := List.getElem?_of_mem hx
  obtain ⟨y, _, hr⟩ := h.get i x hi
  cases hr <;> rfl

theorem told_ids {xs : List V} {cs : List Value} (h : Told w xs cs) : idsOK xs [] = true := by
  unfold idsOK
  rw [told_refs h]
  rfl

theorem law_calls {cf : Cfg} {ext : Rel} (hm : P.follows .mixedOrders = true) (hext : ∀ g args blks r blks', ext g args blks r blks' → CSpec P g args blks r blks') {g : FuncId} {xs : List V} {vals : Array Value}
    (hv : Told w xs vals.toList) (h : Runs P cf ext g xs [] (.v (.bool true)) []) : Calls P g vals w fun e w' => e = .returned (.bool true) ∧ Below w.heap.size w w' := by
  obtain ⟨k, h⟩ := h
  have hs := runs_spec hm hext k g xs [] _ [] h
  have hno : ∀ E b, ¬ Own E (lkB []) b := fun E b ⟨id, k, hk, _⟩ => by simp [lkB] at hk
  have hI : HpInv w (Own ⟨fun _ => none, fun _ _ => False⟩ (lkB [])) (fun b => b < w.heap.size) ⟨fun _ => none, fun _ _ => False⟩ (fun b => b < w.heap.size) (lkB []) w :=
    ⟨Fr.refl _ w, fun b hb => ⟨hb, .inl hb⟩, fun b _ => hno _ b, fun b h => absurd h (hno _ b), fun id k id' k' hk => by simp [lkB] at hk, fun id k b hk => by simp [lkB] at hk, fun id k hk => by simp [lkB] at hk⟩
  refine (hs.calls (told_ids hv) w _ _ vals hI (hv.mono fun x _ y hx => by
    cases hx with
    | v _ hs => exact .v _ hs
    | em a => exact .em a
    | im0 a cap => exact .im0 a cap
    | im b off cap size rows f h1 h2 h3 h4 h5 h6 h7 => exact .im b off cap size rows f h1 h2 h3 h4 h5 h6 h7)).mono ?_
  rintro e w' ⟨y, E', G', rfl, hI', hy, _⟩
  have hyt : y = .bool true := (vr2_v hy).1
  subst hyt
  exact ⟨rfl, hI'.fr.os, hI'.fr.tape, hI'.fr.output, hI'.fr.size, fun b hb => hI'.fr.block b hb (hno _ b)⟩

end Go.Proofs.Ytcmihlhmeonmfaa.Ev
