/- The typed evaluator and the evaluator: operations that look at values and blocks. -/
import Derived.Test.YtcmihlhmeonmfaaEvX2
namespace Go.Proofs.Ytcmihlhmeonmfaa.Ev
open Go
set_option linter.unusedVariables false
set_option linter.unusedSimpArgs false

def EqOK (P : Program) (t : TypeId) : Prop := ∀ (x y : Operand) (cs ds : List SV) (us vs : List Value) (r : Bool), RC (fun s u => (∃ k n, s = .int k n ∧ u = .v (.int k n)) ∨ ∃ b, s = .bool b ∧ u = .v (.bool b)) cs (us.map .v) →
  RC (fun s u => (∃ k n, s = .int k n ∧ u = .v (.int k n)) ∨ ∃ b, s = .bool b ∧ u = .v (.bool b)) ds (vs.map .v) → eqCells cs ds = some r →
  pureRun P (do eqGuard .eql t x y (.agg us.toArray) (.agg vs.toArray); binOp .eql t (.agg us.toArray) (.agg vs.toArray)) = some (.bool r) ∧
  pureRun P (do eqGuard .neq t x y (.agg us.toArray) (.agg vs.toArray); binOp .neq t (.agg us.toArray) (.agg vs.toArray)) = some (.bool (!r))

structure XOK (P : Program) (X : TX) : Prop where
  ty : ∀ t d, getD X.ty t = some d → tyOf P t = some d
  bools : ∀ t, X.bools.contains t = true → P.underlying t = some .bool
  eqs : ∀ t, X.eqs.contains t = true → EqOK P t

section
variable {α : Type} {P : Program} {R : Rel} {cf : Cfg} {X : TX} {b : Nat} {tm : TTm} {m : Tm} {hp hpm : THp} {hv hvm : Hp} {K : SV → THp → Cls → Option α} {z : α}

/-- An operation that leaves the blocks alone. -/
def Looks (P : Program) (R : Rel) (cf : Cfg) (op : Op) (b : Nat) (m : Tm) (hp : THp) (hpm : THp) (hvm : Hp) (K : SV → THp → Cls → Option α) (z : α) : Prop :=
  ∃ x y cls, K x hpm cls = some z ∧ RV2 hp x y ∧ ∀ KV : Cont, KV y hvm cls → weOp P R cf op b (opnd m) hvm KV

def RHm (hpm hp : THp) (hvm : Hp) : Prop := ∀ id b, getB hpm id = some b → getB hp id = some b ∧ ∃ k, hvm id = some k ∧ RB hp b k

theorem RH.toM (h : RH hp hv) : RHm hp hp hv := fun id b hb => ⟨hb, h id b hb⟩

/-- A value by 'nevT'. -/
theorem looks_T {op : Op} {x : SV} {y : V} (h : K x hpm .T = some z) (hr : RV2 hp x y) (hn : nevT P op (opnd m) = some y)
    (hop : ∀ KV : Cont, weOp P R cf op b (opnd m) hvm KV = (match nevT P op (opnd m) with | some x => KV x hvm .T | none => caseO (nevM P op (opnd m) hvm b) fun z => z.2.length ≤ 16 ∧ KV z.1 (inst hvm b z.2) .M)) : Looks P R cf op b m hp hpm hvm K z :=
  ⟨x, y, .T, h, hr, fun KV hk => by rw [hop, hn]; exact hk⟩

/-- A value by 'nevM' that lays no block. -/
theorem looks_M {op : Op} {x : SV} {y : V} (h : K x hpm .M = some z) (hr : RV2 hp x y) (hn : nevT P op (opnd m) = none) (hm : nevM P op (opnd m) hvm b = some (y, []))
    (hop : ∀ KV : Cont, weOp P R cf op b (opnd m) hvm KV = (match nevT P op (opnd m) with | some x => KV x hvm .T | none => caseO (nevM P op (opnd m) hvm b) fun z => z.2.length ≤ 16 ∧ KV z.1 (inst hvm b z.2) .M)) : Looks P R cf op b m hp hpm hvm K z :=
  ⟨x, y, .M, h, hr, fun KV hk => by rw [hop, hn]; simp only [hm, caseO_some, inst]; exact ⟨by simp, hk⟩⟩

theorem l_move {x : Operand} (hr : RT hp tm m) (h : wtOp X (.move x) b tm hpm K = some z) : Looks P R cf (.move x) b m hp hpm hvm K z := by
  simp only [wtOp, force_eq] at h
  exact looks_T h (op_rel hr x) rfl fun _ => rfl
theorem l_assign {x : Operand} (hr : RT hp tm m) (h : wtOp X (.assign x) b tm hpm K = some z) : Looks P R cf (.assign x) b m hp hpm hvm K z := by
  simp only [wtOp, force_eq] at h
  exact looks_T h (op_rel hr x) rfl fun _ => rfl

theorem l_pick {c x y : Operand} (hr : RT hp tm m) (h : wtOp X (.pick c x y) b tm hpm K = some z) : Looks P R cf (.pick c x y) b m hp hpm hvm K z := by
  simp only [wtOp, force_eq] at h
  split at h
  · rename_i t ht
    have hc := op_rel hr c
    rw [ht] at hc
    have hc := rv_bool hc
    cases t with
    | true => exact looks_T h (op_rel hr x) (by simp [nevT, hc]) fun _ => rfl
    | false => exact looks_T h (op_rel hr y) (by simp [nevT, hc]) fun _ => rfl
  · cases h

theorem l_nil {x : Operand} (hr : RT hp tm m) (h : wtOp X (.nilCheck x) b tm hpm K = some z) : Looks P R cf (.nilCheck x) b m hp hpm hvm K z := by
  simp only [wtOp] at h
  have hc := op_rel hr x
  split at h
  · rename_i id r c hx
    rw [hx] at hc
    have hc' : opnd m x = .rf id r c := hc
    exact looks_T h (y := .rf id r c) rfl (by simp [nevT, hc']) fun _ => rfl
  · rename_i t a c hx
    rw [hx] at hc
    obtain ⟨row, he, hre⟩ := hc
    exact looks_T h (y := .ir row c) ⟨row, rfl, hre⟩ (by simp [nevT, he]) fun _ => rfl
  · rename_i f caps hx
    rw [hx] at hc
    obtain ⟨us, he, hre⟩ := rv_cl hc
    exact looks_T h (y := .cl f us) ⟨us, rfl, hre⟩ (by simp [nevT, he]) fun _ => rfl
  · cases h

theorem l_un {u : UnOp} {t : TypeId} {x : Operand} (hr : RT hp tm m) (h : wtOp X (.unOp u t x) b tm hpm K = some z) : Looks P R cf (.unOp u t x) b m hp hpm hvm K z := by
  simp only [wtOp, tUn] at h
  have hc := op_rel hr x
  split at h
  · rename_i bb hx
    rw [hx] at hc
    have hc := rv_bool hc
    exact looks_T h (y := .v (.bool !bb)) rfl (by simp only [nevT, hc]; rfl) fun _ => rfl
  · rename_i k n hx
    rw [hx] at hc
    have hc := rv_int hc
    exact looks_T h (y := .v (.int k (k.wrap (0 - n)))) rfl (by simp only [nevT, hc]; rfl) fun _ => rfl
  · cases h

theorem eq_cells {cs ds : List SV} {r : Bool} (h : eqCells cs ds = some r) : ∀ {us vs : List V}, RC (RV0 hp) cs us → RC (RV0 hp) ds vs → ∃ us' vs' : List Value, us = us'.map .v ∧ vs = vs'.map .v ∧
    RC (fun s u => (∃ k n, s = .int k n ∧ u = .v (.int k n)) ∨ ∃ b, s = .bool b ∧ u = .v (.bool b)) cs (us'.map .v) ∧ RC (fun s u => (∃ k n, s = .int k n ∧ u = .v (.int k n)) ∨ ∃ b, s = .bool b ∧ u = .v (.bool b)) ds (vs'.map .v) := by
  induction cs generalizing ds r with
  | nil =>
    intro us vs h1 h2
    cases ds with
    | nil =>
      cases us with
      | nil => cases vs with
        | nil => exact ⟨[], [], rfl, rfl, trivial, trivial⟩
        | cons a l => exact h2.elim
      | cons a l => exact h1.elim
    | cons a l => simp [eqCells] at h
  | cons c cs ih =>
    intro us vs h1 h2
    cases ds with
    | nil => cases c <;> simp [eqCells] at h
    | cons d ds =>
      cases us with
      | nil => exact h1.elim
      | cons u us =>
        cases vs with
        | nil => exact h2.elim
        | cons v vs =>
          have hrest : ∃ r', eqCells cs ds = some r' := by
            cases c <;> cases d <;> first | (simp [eqCells] at h; done) | skip
            · rename_i k n k' n'
              cases cs with
              | nil =>
                cases ds with
                | nil => exact ⟨true, rfl⟩
                | cons a l => simp only [eqCells] at h; split at h <;> simp_all
              | cons a l =>
                simp only [eqCells] at h
                split at h
                · cases he : eqCells (a :: l) ds with
                  | none => rw [he] at h; cases h
                  | some r' => exact ⟨r', rfl⟩
                · cases h
            · rename_i n n'
              cases cs with
              | nil =>
                cases ds with
                | nil => exact ⟨true, rfl⟩
                | cons a l => simp [eqCells] at h
              | cons a l =>
                simp only [eqCells] at h
                cases he : eqCells (a :: l) ds with
                | none => rw [he] at h; cases h
                | some r' => exact ⟨r', rfl⟩
          obtain ⟨r', hr'⟩ := hrest
          obtain ⟨us', vs', e1, e2, e3, e4⟩ := ih hr' h1.2 h2.2
          have hc : ∃ u', u = .v u' ∧ ((∃ k n, c = .int k n ∧ V.v u' = .v (.int k n)) ∨ ∃ b, c = .bool b ∧ V.v u' = .v (.bool b)) := by
            cases c <;> first | (cases d <;> simp [eqCells] at h; done) | skip
            · exact ⟨_, h1.1, .inl ⟨_, _, rfl, rfl⟩⟩
            · exact ⟨_, h1.1, .inr ⟨_, rfl, rfl⟩⟩
          have hd : ∃ u', v = .v u' ∧ ((∃ k n, d = .int k n ∧ V.v u' = .v (.int k n)) ∨ ∃ b, d = .bool b ∧ V.v u' = .v (.bool b)) := by
            cases d <;> first | (cases c <;> simp [eqCells] at h; done) | skip
            · exact ⟨_, h2.1, .inl ⟨_, _, rfl, rfl⟩⟩
            · exact ⟨_, h2.1, .inr ⟨_, rfl, rfl⟩⟩
          obtain ⟨u', rfl, q1⟩ := hc
          obtain ⟨v', rfl, q2⟩ := hd
          subst e1
          subst e2
          exact ⟨u' :: us', v' :: vs', rfl, rfl, ⟨q1, e3⟩, ⟨q2, e4⟩⟩

theorem pure_under {β : Type} {t : TypeId} {d : TypeDesc} (hu : P.underlying t = some d) (f : TypeDesc → Sem β) : pureRun P (underlying t >>= f) = pureRun P (f d) := by
  show pureRun P ((match P.underlying t with | some d => (pure d : Sem TypeDesc) | none => stuck "no such type") >>= f) = _
  rw [hu]; rfl

theorem pure_bool {t : TypeId} (hu : P.underlying t = some .bool) (p q : Bool) : pureRun P (Op.equal t (.bool p) (.bool q)) = some (p == q) := by
  show pureRun P (Op.equalIn (9999 + 1) t (.bool p) (.bool q)) = _
  unfold Op.equalIn
  rw [pure_under hu]
  rfl

theorem pureRun_bind {α β : Type} (f : α → Sem β) (s : Sem α) (a : α) (h : pureRun P s = some a) : pureRun P (s >>= f) = pureRun P (f a) := by
  induction s with
  | pure b => simp [pureRun] at h; subst h; rfl
  | program k ih => exact ih P (by simpa [pureRun] using h)
  | _ => simp [pureRun] at h

theorem toVals_map_v : ∀ (l : List Value), toVals (l.map V.v) = some l
  | [] => rfl
  | x :: l => by simp [toVals, toVals_map_v l]

theorem l_bin {op : BinOp} {t yt : TypeId} {x y : Operand} (hX : XOK P X) (hr : RT hp tm m) (h : wtOp X (.binOp op t x y yt) b tm hpm K = some z) : Looks P R cf (.binOp op t x y yt) b m hp hpm hvm K z := by
  simp only [wtOp, tBin] at h
  have hx := op_rel hr x
  have hy := op_rel hr y
  split at h
  · rename_i k a k' c e1 e2
    rw [e1] at hx
    rw [e2] at hy
    have hx := rv_int hx
    have hy := rv_int hy
    obtain ⟨v, u, q1, q2, q3⟩ := bin_int (P := P) (t := t) (x := x) (y := y) h
    exact looks_T q3 (q2 hp) (by simp only [nevT, hx, hy, toVal]; exact q1) fun _ => rfl
  · rename_i s u e1 e2
    rw [e1] at hx
    rw [e2] at hy
    have hx := rv_str hx
    have hy := rv_str hy
    obtain ⟨v, u, q1, q2, q3⟩ := bin_str (P := P) (t := t) (x := x) (y := y) h
    exact looks_T q3 (q2 hp) (by simp only [nevT, hx, hy, toVal]; exact q1) fun _ => rfl
  · rename_i p q e1 e2
    rw [e1] at hx
    rw [e2] at hy
    have hx := rv_bool hx
    have hy := rv_bool hy
    split at h
    · rename_i hb
      have hu := hX.bools t hb
      have heq := pure_bool hu p q
      split at h
      · refine looks_T h (y := .v (.bool (p == q))) rfl ?_ fun _ => rfl
        simp only [nevT, hx, hy, toVal]
        show ((pureRun P (do let r ← Op.equal t (.bool p) (.bool q); pure (.bool r))).bind ofScalar) = _
        rw [pureRun_bind _ _ _ heq]; rfl
      · refine looks_T h (y := .v (.bool !(p == q))) rfl ?_ fun _ => rfl
        simp only [nevT, hx, hy, toVal]
        show ((pureRun P (do let r ← Op.equal t (.bool p) (.bool q); pure (.bool !r))).bind ofScalar) = _
        rw [pureRun_bind _ _ _ heq]; rfl
      · cases h
    · cases h
  · rename_i cs ds e1 e2
    rw [e1] at hx
    rw [e2] at hy
    obtain ⟨us, hx, r1⟩ := rv_agg hx
    obtain ⟨vs, hy, r2⟩ := rv_agg hy
    split at h
    · rename_i ht
      split at h
      · rename_i r hq
        obtain ⟨us', vs', rfl, rfl, q1, q2⟩ := eq_cells hq r1 r2
        obtain ⟨p1, p2⟩ := hX.eqs t ht x y cs ds us' vs' r q1 q2 hq
        split at h
        · exact looks_T h (y := .v (.bool r)) rfl (by simp only [nevT, hx, hy, toVal, toVals_map_v]; rw [p1]; rfl) fun _ => rfl
        · exact looks_T h (y := .v (.bool !r)) rfl (by simp only [nevT, hx, hy, toVal, toVals_map_v]; rw [p2]; rfl) fun _ => rfl
        · cases h
      · cases h
    · cases h
  · cases h
end
end Go.Proofs.Ytcmihlhmeonmfaa.Ev
