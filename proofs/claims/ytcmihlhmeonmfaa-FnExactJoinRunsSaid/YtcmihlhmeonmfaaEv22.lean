/- A region that keeps its order. -/
import Derived.Test.YtcmihlhmeonmfaaEv21
namespace Go.Proofs.Ytcmihlhmeonmfaa.Ev
open Go
set_option linter.unusedVariables false
set_option linter.unusedSimpArgs false

variable {P : Program} {w w' w0 : World} {E E' E0 : Env} {hp hp' hp0 : Hp} {G G' G0 U A W F S : Nat → Prop} {B B' : Nat → Prop} {ρ : Operand → V} {ρr : Operand → Value}

theorem caseB_true {x : V} {F : Bool → Prop} (h : caseB x F) : ∃ t, x = .v (.bool t) ∧ F t := by
  unfold caseB at h
  split at h
  · exact ⟨_, rfl, h⟩
  · exact h.elim

theorem SB.bool {e nt : Nat} {tm : Tm} {a : Act} (h : SB w0 U A E0 G0 hp0 e nt B tm hp a w) {d : Nat} {t : Bool} (hd : tm d = .v (.bool t)) : a.tmps[d]? = some (.bool t) := by
  obtain ⟨E, G, h1, h2, h3, h4, h5⟩ := h.env
  have := h3 d
  rw [hd] at this
  have hy := (vr2_v this).1
  rw [Array.getD_eq_getD_getElem?] at hy
  cases hh : a.tmps[d]? with
  | some v => rw [hh] at hy; exact congrArg some hy
  | none => rw [hh] at hy; cases hy

theorem SB.wanted {e nt : Nat} {tm : Tm} {a : Act} (h : SB w0 U A E0 G0 hp0 e nt B tm hp a w) {ops : Array Oper} {o : Oper} {j : Nat} {want t : Bool} {d : Nat}
    (hg : o.guard = some (j, want)) (hj : (ops[j]?).bind (·.dst) = some d) (hd : guardC (tm d) want = some t) : Region.wanted o (yielded ops a.tmps) = t := by
  unfold Region.wanted yielded
  rw [hg]
  simp only [hj, Option.bind_some]
  unfold guardC at hd
  split at hd
  · rename_i he
    cases hd
    have := h.bool he
    simp only [this]
    rfl
  · rename_i he
    cases hd
    obtain ⟨E, G, h1, h2, h3, h4, h5⟩ := h.env
    have := h3 d
    rw [he] at this
    obtain ⟨us, hu, _⟩ := this
    rw [Array.getD_eq_getD_getElem?] at hu
    cases hh : a.tmps[d]? with
    | some v => rw [hh] at hu; have hu : v = .tuple us := hu; subst hu; rfl
    | none => rfl
  · cases hd

theorem weOp_room {R : Rel} {cf : Cfg} {e nt : Nat} {b : Nat} {tm : Tm} {a : Act} {o : Oper} {K : Cont} {next : Act → World → Prop} {Q : Exit → Act → World → Prop}
    (hR : ∀ g args blks r blks', R g args blks r blks' → CSpec P g args blks r blks') (h : SB w0 U A E0 G0 hp0 e nt B tm hp a w) (hnew : ∀ j, j < 16 → ¬ B (b + j)) (hd : ∀ d, o.dst = some d → d < nt)
    (hK : weOp P R cf o.op b (opnd tm) hp K) (hn : ∀ x hp' cls a' w', K x hp' cls → SB w0 U A E0 G0 hp0 e nt (More B b) (Ev.put tm o.dst x) hp' a' w' → next a' w') : o.wp P a w next Q := by
  obtain ⟨x, hp', cls, hk, hs⟩ := h.step hR hnew hd hK
  exact hs next Q fun a' w' hsb => hn x hp' cls a' w' hk hsb

theorem any_vr2 {y : Value} : VR2 w E hp G .any y := trivial

theorem undef_vr2 : VR2 w E hp G (.tup []) undef := ⟨#[], rfl, trivial⟩

theorem ops_sound {R : Rel} {cf : Cfg} (hR : ∀ g args blks r blks', R g args blks r blks' → CSpec P g args blks r blks') {e nt : Nat} {ops : Array Oper} {Q : Exit → Act → World → Prop} {c : Nat} {K : St → Prop} :
    ∀ (l : List Oper) (i : Nat) (tm : Tm) (hp : Hp) (a : Act) (w : World), (∀ o ∈ l, ∀ d, o.dst = some d → d < nt) → weOps P R cf ops.toList false l i ⟨tm, hp, c⟩ K →
      SB w0 U A E0 G0 hp0 e nt (fun id => id < 16 * (c + i)) tm hp a w →
      (∀ tm' hp' a' w', K ⟨tm', hp', c⟩ → SB w0 U A E0 G0 hp0 e nt (fun id => id < 16 * (c + (i + l.length))) tm' hp' a' w' → Q .normal a' w') → wpList P ops Q l a w
  | [], i, tm, hp, a, w, _, h, hs, hQ => hQ tm hp a w h (by simpa using hs)
  | o :: l, i, tm, hp, a, w, hd, h, hs, hQ => by
    have hmore : ∀ id, More (fun id => id < 16 * (c + i)) (16 * (c + i)) id → id < 16 * (c + (i + 1)) := fun id h => by rcases h with h | h <;> omega
    have hrest : ∀ x hp' a' w', weOps P R cf ops.toList false l (i + 1) ⟨put tm o.dst x, hp', c⟩ K → SB w0 U A E0 G0 hp0 e nt (More (fun id => id < 16 * (c + i)) (16 * (c + i))) (Ev.put tm o.dst x) hp' a' w' → wpList P ops Q l a' w' :=
      fun x hp' a' w' hK hsb => ops_sound hR l (i + 1) _ _ a' w' (fun o ho => hd o (by simp [ho])) hK (hsb.mono hmore) fun tm2 hp2 a2 w2 h1 h2 => hQ tm2 hp2 a2 w2 h1 (by
        refine h2.mono fun id hid => ?_
        simp only [List.length_cons]; omega)
    unfold weOps at h
    have hop : opAt P R cf false o.op (16 * (c + i)) (opnd tm) hp (fun x hp cls =>
        drawn false (eOK ops.toList i) cls (weOps P R cf ops.toList false l (i + 1) { tm := put tm o.dst x, hp := hp, c := c } K)) → o.wp P a w (wpList P ops Q l) Q := by
      intro h
      exact weOp_room hR hs (fun j hj => by omega) (hd o (by simp)) h fun x hp' cls a' w' hK hsb => hrest x hp' a' w' hK hsb
    unfold wpList
    split at h
    · rename_i hg
      have hw : Region.wanted o (yielded ops a.tmps) = true := by simp [Region.wanted, hg]
      rw [if_pos hw]
      exact .inl (hop h)
    · rename_i j want hg
      obtain ⟨y, hy, h⟩ := caseO_some' h
      obtain ⟨t, hyt, h'⟩ := caseO_some' h
      clear h
      simp only [Option.map_eq_some_iff] at hy
      obtain ⟨d, hjd, hyd⟩ := hy
      have hjd' : (ops[j]?).bind (·.dst) = some d := by simpa using hjd
      have hwant := hs.wanted hg hjd' (hyd ▸ hyt)
      cases t with
      | true =>
        simp only [if_true] at h'
        rw [hwant, if_pos rfl]
        exact .inl (hop h')
      | false =>
        simp only [Bool.false_eq_true, if_false] at h'
        rw [hwant]
        simp only [Bool.false_eq_true, if_false]
        refine hrest (.tup []) hp _ _ h' ?_
        exact (hs.put (hd o (by simp)) (fun E G _ => undef_vr2) rfl).mono fun _ h => .inl h

theorem region_sound {R : Rel} {cf : Cfg} (hR : ∀ g args blks r blks', R g args blks r blks' → CSpec P g args blks r blks') {e nt id : Nat} {ops : Array Oper} {Q : Exit → Act → World → Prop} {st : St} {K : St → Prop} {a : Act}
    (hd : ∀ o ∈ ops.toList, ∀ d, o.dst = some d → d < nt) (h : weOps P R cf ops.toList false ops.toList 0 st fun s => K { s with c := s.c + ops.size })
    (hs : SB w0 U A E0 G0 hp0 e nt (fun id => id < 16 * st.c) st.tm st.hp a w)
    (hQ : ∀ st' a' w', K st' → SB w0 U A E0 G0 hp0 e nt (fun id => id < 16 * st'.c) st'.tm st'.hp a' w' → Q .normal a' w') : (Code.region id ops false).wp P Q a w := by
  obtain ⟨tm, hp, c⟩ := st
  refine wp_region_list (ops_sound hR ops.toList 0 tm hp a w hd h (by simpa using hs) fun tm' hp' a' w' hK h' => hQ _ a' w' hK ?_)
  simpa using h'

end Go.Proofs.Ytcmihlhmeonmfaa.Ev
