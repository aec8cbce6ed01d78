/- The state of the evaluator and the frame of the machine: one operation of a region. -/
import Derived.Test.YtcmihlhmeonmfaaEv20
namespace Go.Proofs.Ytcmihlhmeonmfaa.Ev
open Go
set_option linter.unusedVariables false
set_option linter.unusedSimpArgs false

variable {P : Program} {w w' w0 : World} {E E' E0 : Env} {hp hp' hp0 : Hp} {G G' G0 U A W F S : Nat → Prop} {B B' : Nat → Prop} {ρ : Operand → V} {ρr : Operand → Value}

/-- What a run of the evaluator has kept of the blocks that it was handed. -/
theorem ext_kept {e : Nat} (hI : HpInv w0 U A E0 G0 hp0 w) (hx : Ext (fun j => j < e) E0 G0 hp0 w E' G' hp' w') {j : Nat} (hj : j < e) {k' : Blk} (hk' : hp' j = some k') :
    ∃ k, hp0 j = some k ∧ (k.kind ≠ .box → k'.kind ≠ .box ∧ k.rows.length ≤ k'.rows.length) ∧ ∀ b, E0.m j = some b → k'.size = k.size ∧ E'.m j = some b := by
  cases hk : hp0 j with
  | none =>
    exfalso
    have h1 := hx.v0 (.rf j 0 0) (.pointer (some ⟨0, 0, none⟩)) (fun id hid => by simp [refs0] at hid; subst hid; exact hj) ⟨0, 0, rfl, fun k h => by rw [hk] at h; cases h⟩
    have h2 := hx.v0 (.rf j 0 0) (.pointer (some ⟨1, 0, none⟩)) (fun id hid => by simp [refs0] at hid; subst hid; exact hj) ⟨1, 0, rfl, fun k h => by rw [hk] at h; cases h⟩
    obtain ⟨b1, o1, e1, f1⟩ := h1
    obtain ⟨b2, o2, e2, f2⟩ := h2
    cases e1
    cases e2
    have := (f1 k' hk').1
    rw [(f2 k' hk').1] at this
    cases this
  | some k =>
    have hin : ∀ id ∈ ([j] : List Nat), id < e := fun id hid => by simp at hid; subst hid; exact hj
    refine ⟨k, rfl, fun hkind => ⟨?_, ?_⟩, fun b hb => ?_⟩
    · obtain ⟨a, cap, hy, h⟩ := hx.v0 (.ar j 0 0) (.slice none 0 0) hin ⟨none, 0, rfl, fun k1 h1 => by rw [hk] at h1; cases h1; exact ⟨hkind, by omega, .inl ⟨rfl, rfl⟩⟩⟩
      exact (h k' hk').1
    · by_cases h0 : k.rows.length = 0
      · omega
      · have hb := hI.blk j k hk
        unfold BlkRel at hb
        have key : ∀ (bb cap : Nat) (cur : Array Value) (ty : TypeId) (fz : Nat × Nat), k.kind ≠ .box → E0.m j = some bb → w.heap[bb]? = some (.cells cur ty fz) → cur.size = cap * k.size → k.rows.length ≤ cap → k.rows.length ≤ k'.rows.length := by
          intro bb cap cur ty fz hkd hm hh hs hc
          obtain ⟨a, cap', hy, h⟩ := hx.v0 (.ar j 0 k.rows.length) (.slice (some ⟨bb, 0, none⟩) k.rows.length cap) hin ⟨_, _, rfl, fun k1 h1 => by
            rw [hk] at h1
            cases h1
            exact ⟨hkd, by omega, .inr ⟨bb, cur, ty, fz, hm, by simp, hc, hh, by rw [hs]; simp⟩⟩⟩
          have := (h k' hk').2.1
          omega
        cases hkk : k.kind with
        | box =>
          exact absurd hkk hkind
        | arr =>
          rw [hkk] at hb
          rcases hb with ⟨q1, _⟩ | ⟨bb, cur, cap, q1, q2, q3, q4, q5, q6, _⟩
          · rw [q1] at h0; simp at h0
          · exact key bb cap cur _ _ (by rw [hkk]; simp) q1 q2 q4 q6
        | frz =>
          rw [hkk] at hb
          rcases hb with ⟨q1, _⟩ | ⟨bb, cur, cap, fz, q1, q0, q2, q3, q4, q5, q6, _⟩
          · rw [q1] at h0; simp at h0
          · exact key bb cap cur _ _ (by rw [hkk]; simp) q1 q2 q4 q6
    · obtain ⟨b1, o1, e1, f1⟩ := hx.v0 (.rf j 1 0) (.pointer (some ⟨b, k.size, none⟩)) hin ⟨b, k.size, rfl, fun k1 h1 => by rw [hk] at h1; cases h1; exact ⟨hb, by omega⟩⟩
      cases e1
      obtain ⟨g1, g2⟩ := f1 k' hk'
      exact ⟨by omega, g1⟩

/-- The evaluator's slots and blocks, and the machine's frame and world. -/
structure SB (w0 : World) (U A : Nat → Prop) (E0 : Env) (G0 : Nat → Prop) (hp0 : Hp) (e nt : Nat) (B : Nat → Prop) (tm : Tm) (hp : Hp) (a : Act) (w : World) : Prop where
  size : a.tmps.size = nt
  defers : a.defers = []
  low : ∀ j, j < e → B j
  env : ∃ E G, HpInv w0 U A E G hp w ∧ HpWf B hp ∧ (∀ t, VR2 w E hp G (tm t) (a.tmps.getD t undef)) ∧ (∀ t, ∀ id ∈ refs2 (tm t), B id) ∧ Ext (fun j => j < e) E0 G0 hp0 w0 E G hp w

theorem const_refs (c : Value) : refs2 (ofConst c) = [] := by
  have h0 : ∀ x, refs2 (ofCell x) = [] ∧ refs0 (ofCell x) = [] := by
    intro x
    unfold ofCell
    split
    · exact ⟨rfl, rfl⟩
    · split <;> exact ⟨rfl, rfl⟩
  unfold ofConst
  split
  · rename_i cs
    show (cs.toList.map ofCell).flatMap refs0 = []
    rw [List.flatMap_eq_nil_iff]
    intro x hx
    obtain ⟨y, _, rfl⟩ := List.mem_map.1 hx
    exact (h0 y).2
  · exact (h0 _).1

theorem opnd_refs {tm : Tm} (h : ∀ t, ∀ id ∈ refs2 (tm t), B id) (x : Operand) : ∀ id ∈ refs2 (opnd tm x), B id := by
  cases x with
  | tmp t => exact h t
  | const c => intro id hid; rw [opnd, const_refs] at hid; simp at hid
  | global g => intro id hid; simp [opnd, refs2, refs1, refs0] at hid
  | func f => intro id hid; simp [opnd, refs2, refs1] at hid

theorem put_get {tm : Tm} {dst : Option Tmp} {x : V} {t : Nat} : put tm dst x t = tm t ∨ (dst = some t ∧ put tm dst x t = x) := by
  unfold put
  cases dst with
  | none => exact .inl rfl
  | some d =>
    simp only [upd]
    by_cases h : t = d
    · subst h; right; simp
    · left; simp [h]

theorem act_put {a : Act} {dst : Option Tmp} {y : Value} (hd : ∀ d, dst = some d → d < a.tmps.size) : (a.put dst y).tmps.size = a.tmps.size ∧ (a.put dst y).defers = a.defers ∧
    ∀ t, (a.put dst y).tmps.getD t undef = if dst = some t then y else a.tmps.getD t undef := by
  cases dst with
  | none => exact ⟨rfl, rfl, fun t => by simp [Act.put]⟩
  | some d =>
    refine ⟨by simp [Act.put], rfl, fun t => ?_⟩
    have hlt := hd d rfl
    simp only [Act.put, Array.getD_eq_getD_getElem?, Option.some.injEq, Array.getElem?_setIfInBounds]
    by_cases h : d = t
    · subst h; simp [hlt]
    · simp [h]

theorem SB.put {e nt : Nat} {tm : Tm} {a : Act} (h : SB w0 U A E0 G0 hp0 e nt B tm hp a w) {dst : Option Tmp} {x : V} {y : Value} (hd : ∀ d, dst = some d → d < nt)
    (hx : ∀ E G, HpInv w0 U A E G hp w → VR2 w E hp G x y) (hr : refs2 x = []) : SB w0 U A E0 G0 hp0 e nt B (put tm dst x) hp (a.put dst y) w := by
  obtain ⟨E, G, h1, h2, h3, h4, h5⟩ := h.env
  obtain ⟨p1, p2, p3⟩ := act_put (a := a) (dst := dst) (y := y) (fun d hh => by rw [h.size]; exact hd d hh)
  refine ⟨p1.trans h.size, p2.trans h.defers, h.low, E, G, h1, h2, fun t => ?_, fun t id hid => ?_, h5⟩
  · rw [p3]
    unfold Ev.put
    cases dst with
    | none => simpa using h3 t
    | some d =>
      simp only [upd, Option.some.injEq]
      by_cases ht : t = d
      · subst ht; simpa using hx E G h1
      · have : ¬ d = t := fun hh => ht hh.symm
        simpa [ht, this] using h3 t
  · rcases put_get (tm := tm) (dst := dst) (x := x) (t := t) with hp | ⟨_, hp⟩
    · rw [hp] at hid; exact h4 t id hid
    · rw [hp, hr] at hid; simp at hid

theorem SB.mono {e nt : Nat} {tm : Tm} {a : Act} (h : SB w0 U A E0 G0 hp0 e nt B tm hp a w) (hB : ∀ i, B i → B' i) : SB w0 U A E0 G0 hp0 e nt B' tm hp a w := by
  obtain ⟨E, G, h1, h2, h3, h4, h5⟩ := h.env
  exact ⟨h.size, h.defers, fun j hj => hB j (h.low j hj), E, G, h1, fun id k hk => ⟨hB id (h2 id k hk).1, fun j hj => hB j ((h2 id k hk).2 j hj)⟩, h3, fun t id hid => hB id (h4 t id hid), h5⟩

/-- One operation, from state to state. -/
theorem SB.step {R : Rel} {cf : Cfg} (hR : ∀ g args blks r blks', R g args blks r blks' → CSpec P g args blks r blks') {o : Oper} {a : Act} {b e nt : Nat} {tm : Tm} {K : Cont}
    (h : SB w0 U A E0 G0 hp0 e nt B tm hp a w) (hnew : ∀ j, j < 16 → ¬ B (b + j)) (hd : ∀ d, o.dst = some d → d < nt) (hK : weOp P R cf o.op b (opnd tm) hp K) :
    ∃ x hp' cls, K x hp' cls ∧ ∀ (next : Act → World → Prop) (Q : Exit → Act → World → Prop),
      (∀ a' w', SB w0 U A E0 G0 hp0 e nt (More B b) (Ev.put tm o.dst x) hp' a' w' → next a' w') → o.wp P a w next Q := by
  obtain ⟨E, G, h1, h2, h3, h4, h5⟩ := h.env
  obtain ⟨x, hp', cls, hk, hs, hw⟩ := weOp_sound hR (o := o) (a := a) (b := b) ⟨h1, h2, fun x => opnd_rel h3 x, fun x => opnd_refs h4 x, hnew⟩ rfl hK
  refine ⟨x, hp', cls, hk, fun next Q hn => hs next Q fun y w' E' G' g1 g2 g3 => hn _ _ ?_⟩
  obtain ⟨p1, p2, p3⟩ := act_put (a := a) (dst := o.dst) (y := y) (fun d hh => by rw [h.size]; exact hd d hh)
  refine ⟨p1.trans h.size, p2.trans h.defers, fun j hj => .inl (h.low j hj), E', G', g1, hw.2, fun t => ?_, fun t id hid => ?_, ?_⟩
  · rw [p3]
    have hold : VR2 w' E' hp' G' (tm t) (a.tmps.getD t undef) := g3.v2 _ _ (h4 t) (h3 t)
    unfold Ev.put
    cases hdst : o.dst with
    | none => simpa using hold
    | some d =>
      simp only [upd, Option.some.injEq]
      by_cases ht : t = d
      · subst ht; simpa using g2
      · have : ¬ d = t := fun hh => ht hh.symm
        simpa [ht, this] using hold
  · rcases put_get (tm := tm) (dst := o.dst) (x := x) (t := t) with hp | ⟨_, hp⟩
    · rw [hp] at hid; exact .inl (h4 t id hid)
    · rw [hp] at hid; exact hw.1 id hid
  · exact h5.trans g3 h.low

end Go.Proofs.Ytcmihlhmeonmfaa.Ev
