/- Code, functions: what the evaluator says is what the machine does. -/
import Derived.Test.YtcmihlhmeonmfaaEv23
import Derived.LoopN
namespace Go.Proofs.Ytcmihlhmeonmfaa.Ev
open Go
set_option linter.unusedVariables false
set_option linter.unusedSimpArgs false

variable {P : Program} {w w' w0 : World} {E E' E0 : Env} {hp hp' hp0 : Hp} {G G' G0 U A W F S : Nat → Prop} {B B' : Nat → Prop} {ρ : Operand → V} {ρr : Operand → Value}

def toExit : Ex → Exit
  | .normal => .normal
  | .exit id => .exit id
  | .ret => .ret

theorem we_sound {R : Rel} {cf : Cfg} (hm : P.follows .mixedOrders = true) (hR : ∀ g args blks r blks', R g args blks r blks' → CSpec P g args blks r blks') {g e nt : Nat} : ∀ (code : Code) (st : St) (Q : Post) (a : Act) (w : World) (QM : Exit → Act → World → Prop),
    dstsOK nt code = true → drawsOK code = true → we P R cf g e code st Q → SS w0 U A E0 G0 hp0 e nt st a w →
    (∀ ex st' a' w', Q ex st' → SS w0 U A E0 G0 hp0 e nt st' a' w' → QM (toExit ex) a' w') → code.wp P QM a w
  | .skip, st, Q, a, w, QM, _, _, h, hs, hQ => wp_skip (hQ .normal st a w h hs)
  | .exit id, st, Q, a, w, QM, _, _, h, hs, hQ => wp_exit (hQ (.exit id) st a w h hs)
  | .ret, st, Q, a, w, QM, _, _, h, hs, hQ => wp_ret (hQ .ret st a w h hs)
  | .region id ops draw, st, Q, a, w, QM, hd, hdr, h, hs, hQ => by
    have hd' : ∀ o ∈ ops.toList, ∀ d, o.dst = some d → d < nt := by
      intro o ho d hod
      simp only [dstsOK] at hd
      have := List.all_eq_true.1 hd o ho
      rw [hod] at this
      simpa using this
    unfold we at h
    cases draw with
    | false => exact region_sound (K := fun s => Q .normal s) hR hd' h hs fun st' a' w' hK hs' => hQ .normal st' a' w' hK hs'
    | true =>
      simp only [drawsOK, Bool.and_eq_true] at hdr
      exact region_draw_sound (K := fun s => Q .normal s) hm hR hd' hdr.1.1 hdr.1.2 hdr.2 h hs fun st' a' w' hK hs' => hQ .normal st' a' w' hK hs'
  | .seq x y, st, Q, a, w, QM, hd, hdr, h, hs, hQ => by
    simp only [dstsOK, Bool.and_eq_true] at hd
    simp only [drawsOK, Bool.and_eq_true] at hdr
    unfold we at h
    refine wp_seq (we_sound hm hR x st _ a w _ hd.1 hdr.1 h hs fun ex st' a' w' hq hs' => ?_)
    cases ex with
    | normal =>
      obtain ⟨s2, hq, hs'⟩ := meet_sound hq hs'
      exact we_sound hm hR y s2 Q a' w' QM hd.2 hdr.2 hq hs' hQ
    | exit id => exact hQ (.exit id) st' a' w' hq hs'
    | ret => exact hQ .ret st' a' w' hq hs'
  | .cond c x y, st, Q, a, w, QM, hd, hdr, h, hs, hQ => by
    simp only [dstsOK, Bool.and_eq_true] at hd
    simp only [drawsOK, Bool.and_eq_true] at hdr
    unfold we at h
    obtain ⟨t, ht, h'⟩ := caseB_true h
    have hc : a.eval c = .bool t := by
      obtain ⟨E, G, h1, h2, h3, h4, h5⟩ := hs.env
      have := opnd_rel h3 c
      rw [ht] at this
      exact (vr2_v this).1
    refine wp_cond hc ?_
    cases t with
    | true => simp only [if_true] at h' ⊢; exact we_sound hm hR x st Q a w QM hd.1 hdr.1 h' hs hQ
    | false => simp only [Bool.false_eq_true, if_false] at h' ⊢; exact we_sound hm hR y st Q a w QM hd.2 hdr.2 h' hs hQ
  | .block id c, st, Q, a, w, QM, hd, hdr, h, hs, hQ => by
    unfold we at h
    refine wp_block (we_sound hm hR c st _ a w _ hd hdr h hs fun ex st' a' w' hq hs' => ?_)
    cases ex with
    | normal => exact hQ .normal st' a' w' hq hs'
    | ret => exact hQ .ret st' a' w' hq hs'
    | exit j =>
      simp only [toExit, Exit.inBlock]
      by_cases hj : j = id
      · simp only [if_pos hj] at hq ⊢; exact hQ .normal st' a' w' hq hs'
      · simp only [if_neg hj] at hq ⊢; exact hQ (.exit j) st' a' w' hq hs'
  | .loop c, st, Q, a, w, QM, hd, hdr, h, hs, hQ => by
    unfold we at h
    obtain ⟨n, h⟩ := h
    refine wp_loop_rounds n ?_
    induction n generalizing st a w with
    | zero => exact h.elim
    | succ n ih =>
      unfold iter at h
      obtain ⟨st', h', hs'⟩ := canon_sound h hs
      rw [rounds_succ]
      refine we_sound hm hR c st' _ a w _ hd hdr h' hs' fun ex st2 a2 w2 hq hs2 => ?_
      cases ex with
      | normal => exact ih st2 a2 w2 hs2 hq
      | exit id =>
        obtain ⟨s3, hq, hs3⟩ := canon_sound hq hs2
        exact hQ (.exit id) s3 a2 w2 hq hs3
      | ret =>
        obtain ⟨s3, hq, hs3⟩ := canon_sound hq hs2
        exact hQ .ret s3 a2 w2 hq hs3
  | .scope c, _, _, _, _, _, _, _, h, _, _ => by simp [we] at h
  | .label l, _, _, _, _, _, _, _, h, _, _ => by simp [we] at h
  | .goto l, _, _, _, _, _, _, _, h, _, _ => by simp [we] at h
  | .rangeFunc .., _, _, _, _, _, _, _, h, _, _ => by simp [we] at h

end Go.Proofs.Ytcmihlhmeonmfaa.Ev
