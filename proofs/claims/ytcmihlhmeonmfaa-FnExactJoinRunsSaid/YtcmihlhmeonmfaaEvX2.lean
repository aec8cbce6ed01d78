/- The typed evaluator and the evaluator: cells, operands, numbers. -/
import Derived.Test.YtcmihlhmeonmfaaEvX1
import Derived.Laws.Strings
namespace Go.Proofs.Ytcmihlhmeonmfaa.Ev
open Go
set_option linter.unusedVariables false
set_option linter.unusedSimpArgs false

theorem RE.cells {hp : THp} : ∀ {t : Ty} {a : t.den} {row : List V}, RE t a row → RC (RV0 hp) (encT t a) row
  | .int _, _, _, h => by simp only [RE] at h; subst h; exact ⟨rfl, trivial⟩
  | .bool, _, _, h => by simp only [RE] at h; subst h; exact ⟨rfl, trivial⟩
  | .str, _, _, h => by simp only [RE] at h; subst h; exact ⟨rfl, trivial⟩
  | .pair a b, x, _, h => by
    obtain ⟨r1, r2, rfl, h1, h2⟩ := h
    exact h1.cells.append h2.cells
  | .sl e, l, _, h => by
    rcases h with ⟨rfl, rfl⟩ | ⟨rows, rfl, hr⟩
    · exact ⟨.inl ⟨rfl, rfl⟩, trivial⟩
    · exact ⟨.inr ⟨rows, rfl, hr⟩, trivial⟩

theorem castL_rel {t e : Ty} (h : t = e) {l : List t.den} {rows : List (List V)} (hr : RLx (RE t) l rows) : RLx (RE e) (castL h l) rows := by subst h; exact hr
theorem castL_len {t e : Ty} (h : t = e) {l : List t.den} : (castL h l).length = l.length := by subst h; rfl

theorem asL_rel {hp : THp} {e : Ty} {x : SV} {l : List e.den} {y : V} (h : asL e x = some l) (hv : RV0 hp x y) : (l = [] ∧ y = .em) ∨ ∃ rows, y = .im rows ∧ RLx (RE e) l rows := by
  unfold asL at h
  split at h
  · cases h; exact .inl ⟨rfl, hv⟩
  · split at h
    · rename_i t l' he
      cases h
      subst he
      rcases hv with ⟨rfl, rfl⟩ | ⟨rows, rfl, hr⟩
      · exact .inl ⟨rfl, rfl⟩
      · exact .inr ⟨rows, rfl, hr⟩
    · cases h
  · cases h

theorem decT_rel {hp : THp} : ∀ {t : Ty} {cs r : List SV} {x : t.den} {us : List V}, decT t cs = some (x, r) → RC (RV0 hp) cs us → ∃ row us', us = row ++ us' ∧ RE t x row ∧ RC (RV0 hp) r us'
  | .int k, cs, r, x, us, h, hv => by
    cases cs with
    | nil => simp [decT] at h
    | cons c cs =>
      cases c <;> simp only [decT, reduceCtorEq] at h
      rename_i k' n
      split at h
      · rename_i hk
        cases h
        subst hk
        cases us with
        | nil => exact hv.elim
        | cons u us => obtain ⟨h1, h2⟩ := hv; exact ⟨[u], us, rfl, by simp only [RE]; rw [h1], h2⟩
      · cases h
  | .bool, cs, r, x, us, h, hv => by
    cases cs with
    | nil => simp [decT] at h
    | cons c cs =>
      cases c <;> simp only [decT, reduceCtorEq] at h
      cases h
      cases us with
      | nil => exact hv.elim
      | cons u us => obtain ⟨h1, h2⟩ := hv; exact ⟨[u], us, rfl, by simp only [RE]; rw [h1], h2⟩
  | .str, cs, r, x, us, h, hv => by
    cases cs with
    | nil => simp [decT] at h
    | cons c cs =>
      cases c <;> simp only [decT, reduceCtorEq] at h
      cases h
      cases us with
      | nil => exact hv.elim
      | cons u us => obtain ⟨h1, h2⟩ := hv; exact ⟨[u], us, rfl, by simp only [RE]; rw [h1], h2⟩
  | .pair a b, cs, r, x, us, h, hv => by
    simp only [decT] at h
    split at h
    · rename_i x1 r1 h1
      split at h
      · rename_i y1 r2 h2
        cases h
        obtain ⟨row1, us1, rfl, e1, v1⟩ := decT_rel h1 hv
        obtain ⟨row2, us2, rfl, e2, v2⟩ := decT_rel h2 v1
        exact ⟨row1 ++ row2, us2, by simp, ⟨row1, row2, rfl, e1, e2⟩, v2⟩
      · cases h
    · cases h
  | .sl e, cs, r, x, us, h, hv => by
    cases cs with
    | nil => simp [decT] at h
    | cons c cs =>
      simp only [decT] at h
      split at h
      · rename_i l h1
        cases h
        cases us with
        | nil => exact hv.elim
        | cons u us =>
          obtain ⟨q1, q2⟩ := hv
          refine ⟨[u], us, rfl, ?_, q2⟩
          rcases asL_rel h1 q1 with ⟨rfl, rfl⟩ | ⟨rows, rfl, hr⟩
          · exact .inl ⟨rfl, rfl⟩
          · exact .inr ⟨rows, rfl, hr⟩
      · cases h

theorem decR_rel {hp : THp} {t : Ty} {cs : List SV} {x : t.den} {us : List V} (h : decR t cs = some x) (hv : RC (RV0 hp) cs us) : RE t x us := by
  unfold decR at h
  split at h
  · rename_i y hd
    cases h
    obtain ⟨row, us', rfl, e, v⟩ := decT_rel hd hv
    cases us' with
    | nil => simpa using e
    | cons a l => exact v.elim
  · cases h

theorem cell_rel {hp : THp} (c : Value) : RV0 hp (cellT c) (ofCell c) := by
  unfold cellT ofCell
  split
  · simp [scalarB, RV0]
  · simp [scalarB, RV0]
  · simp [scalarB, RV0]
  · rfl
  · split
    · rename_i h1 h2 h3 h4 h5
      split
      · exact absurd rfl h4
      · rw [if_pos h5]; rfl
    · trivial

theorem cells_rel {hp : THp} : ∀ (l : List Value), RC (RV0 hp) (l.map cellT) (l.map ofCell)
  | [] => trivial
  | c :: l => ⟨cell_rel c, cells_rel l⟩

theorem const_rel {hp : THp} (c : Value) : RV2 hp (constT c) (ofConst c) := by
  unfold constT ofConst
  split
  · rename_i cs
    exact ⟨_, rfl, cells_rel cs.toList⟩
  · rename_i hn
    split
    · rename_i cs; exact absurd rfl (hn cs)
    · exact (cell_rel c).to1.to2

theorem op_rel {hp : THp} {tm : TTm} {m : Tm} (h : RT hp tm m) (x : Operand) : RV2 hp (opT tm x) (opnd m x) := by
  cases x with
  | tmp t => exact h t
  | const c => exact const_rel c
  | global g => trivial
  | func f => exact ⟨[], rfl, trivial⟩

theorem zero_rel {hp : THp} : ∀ (l : List V), RC (RV0 hp) (l.map zeroT) l
  | [] => trivial
  | x :: l => by
    refine ⟨?_, zero_rel l⟩
    unfold zeroT
    split <;> first | rfl | trivial

theorem force_eq {α : Type} (x : SV) (F : SV → α) : force x F = F x := by cases x <;> rfl

section
variable {hp : THp} {x : SV} {y : V}
theorem rv_int {k : IntKind} {n : Int} (h : RV2 hp (.int k n) y) : y = .v (.int k n) := h
theorem rv_bool {b : Bool} (h : RV2 hp (.bool b) y) : y = .v (.bool b) := h
theorem rv_str {s : Str} (h : RV2 hp (.str s) y) : y = .v (.string ⟨s.toArray⟩) := h
theorem rv_agg {cs : List SV} (h : RV2 hp (.agg cs) y) : ∃ us, y = .agg us ∧ RC (RV0 hp) cs us := h
theorem rv_cl {f : FuncId} {cs : List SV} (h : RV2 hp (.cl f cs) y) : ∃ us, y = .cl f us ∧ RC (RV0 hp) cs us := h

theorem flat_rel (hv : RV2 hp x y) (hok : (flatT x).all okT = true) : RC (RV0 hp) (flatT x) (flat y) ∧ (flat y).all okCell = true := by
  have one : ∀ {x : SV} {y : V}, RV0 hp x y → okT x = true → okCell y = true := by
    intro x y h hk
    cases x with
    | int k n => have : y = _ := h; subst this; rfl
    | bool b => have : y = _ := h; subst this; rfl
    | str s => have : y = _ := h; subst this; rfl
    | sc v => have : y = _ := h; subst this; rfl
    | em => have : y = _ := h; subst this; rfl
    | im t l => rcases h with ⟨_, rfl⟩ | ⟨rows, rfl, _⟩ <;> rfl
    | ow id => obtain ⟨n, rfl, _⟩ := h; rfl
    | ar a b c => have : y = _ := h; subst this; rfl
    | rf a b c => have : y = _ := h; subst this; rfl
    | ir a b c => obtain ⟨row, rfl, _⟩ := h; rfl
    | agg cs => simp [okT] at hk
    | tup cs => simp [okT] at hk
    | cl f cs => cases cs with
      | nil => have : y = _ := h; subst this; rfl
      | cons a l => simp [okT] at hk
    | any => simp [okT] at hk
  have many : ∀ {xs : List SV} {ys : List V}, RC (RV0 hp) xs ys → xs.all okT = true → ys.all okCell = true := by
    intro xs
    induction xs with
    | nil => intro ys h _; cases ys with | nil => rfl | cons a l => exact h.elim
    | cons a l ih =>
      intro ys h hk
      cases ys with
      | nil => exact h.elim
      | cons b m =>
        simp only [List.all_cons, Bool.and_eq_true] at hk ⊢
        exact ⟨one h.1 hk.1, ih h.2 hk.2⟩
  have single : RV0 hp x y → flatT x = [x] → flat y = [y] → RC (RV0 hp) (flatT x) (flat y) ∧ (flat y).all okCell = true := by
    intro h h1 h2
    rw [h1] at hok ⊢
    rw [h2]
    exact ⟨⟨h, trivial⟩, many (xs := [x]) (ys := [y]) ⟨h, trivial⟩ hok⟩
  cases x with
  | agg cs => obtain ⟨us, rfl, h⟩ := hv; exact ⟨h, many h hok⟩
  | int k n => have : y = _ := hv; subst this; exact single rfl rfl rfl
  | bool b => have : y = _ := hv; subst this; exact single rfl rfl rfl
  | str s => have : y = _ := hv; subst this; exact single rfl rfl rfl
  | sc v => have : y = _ := hv; subst this; exact single rfl rfl rfl
  | em => have : y = _ := hv; subst this; exact single rfl rfl rfl
  | im t l => have hv' : RV0 hp (.im t l) y := hv; rcases hv with ⟨_, rfl⟩ | ⟨rows, rfl, _⟩ <;> exact single hv' rfl rfl
  | ow id => have hv' : RV0 hp (.ow id) y := hv; obtain ⟨n, rfl, _⟩ := hv; exact single hv' rfl rfl
  | ar a b c => have : y = _ := hv; subst this; exact single rfl rfl rfl
  | rf a b c => have : y = _ := hv; subst this; exact single rfl rfl rfl
  | ir a b c => have hv' : RV0 hp (.ir a b c) y := hv; obtain ⟨row, rfl, _⟩ := hv; exact single hv' rfl rfl
  | tup cs => simp [flatT, okT] at hok
  | cl f cs =>
    cases cs with
    | nil =>
      obtain ⟨us, rfl, h⟩ := hv
      cases us with
      | nil => exact single rfl rfl rfl
      | cons a l => exact h.elim
    | cons a l => simp [flatT, okT] at hok
  | any => simp [flatT, okT] at hok
end

theorem mkT_rel {hp : THp} {g : Bool} {cs : List SV} {us : List V} {x : SV} (h : mkT g cs = some x) (hr : RC (RV0 hp) cs us) : ∃ y, mk g us = some y ∧ RV2 hp x y := by
  unfold mkT at h
  split at h
  · rename_i hg
    cases h
    exact ⟨.agg us, by simp [mk, hg], us, rfl, hr⟩
  · rename_i hg
    split at h
    · cases h
      cases us with
      | nil => exact hr.elim
      | cons u us =>
        cases us with
        | nil => exact ⟨u, by simp [mk, hg], hr.1.to1.to2⟩
        | cons a l => exact hr.2.elim
    · cases h

theorem tMk_some {α : Type} {g : Bool} {cs : Option (List SV)} {K : SV → Option α} {z : α} (h : tMk g cs K = some z) : ∃ l x, cs = some l ∧ mkT g l = some x ∧ K x = some z := by
  unfold tMk at h
  split at h
  · split at h
    · rename_i x hx
      rw [force_eq] at h
      exact ⟨_, x, rfl, hx, h⟩
    · cases h
  · cases h

theorem bind_some' {α β : Type} {x : Option α} {f : α → Option β} {z : β} (h : x.bind f = some z) : ∃ a, x = some a ∧ f a = some z := by
  cases x with
  | none => cases h
  | some a => exact ⟨a, rfl, h⟩

theorem cond_none {α : Type} {c : Bool} {A : Option α} {z : α} (h : cond c none A = some z) : c = false ∧ A = some z := by
  cases c with
  | true => cases h
  | false => exact ⟨rfl, h⟩

theorem cond_none' {α : Type} {c : Bool} {A : Option α} {z : α} (h : cond c A none = some z) : c = true ∧ A = some z := by
  cases c with
  | false => cases h
  | true => exact ⟨rfl, h⟩


theorem done_int {α : Type} {X : Option V} {k : IntKind} {n : Int} {K : SV → Option α} {z : α} (h : K (.int k n) = some z) (he : X = some (.v (.int k n))) : ∃ v u, X = some (.v u) ∧ (∀ hp, RV2 hp v (.v u)) ∧ K v = some z := ⟨.int k n, .int k n, he, fun _ => rfl, h⟩
theorem done_bool {α : Type} {X : Option V} {b : Bool} {K : SV → Option α} {z : α} (h : K (.bool b) = some z) (he : X = some (.v (.bool b))) : ∃ v u, X = some (.v u) ∧ (∀ hp, RV2 hp v (.v u)) ∧ K v = some z := ⟨.bool b, .bool b, he, fun _ => rfl, h⟩
theorem done_str {α : Type} {X : Option V} {s : Str} {K : SV → Option α} {z : α} (h : K (.str s) = some z) (he : X = some (.v (.string ⟨s.toArray⟩))) : ∃ v u, X = some (.v u) ∧ (∀ hp, RV2 hp v (.v u)) ∧ K v = some z := ⟨.str s, .string ⟨s.toArray⟩, he, fun _ => rfl, h⟩

/-- Numbers. -/
theorem bin_int {α : Type} {P : Program} {op : BinOp} {t : TypeId} {x y : Operand} {k k' : IntKind} {a b : Int} {K : SV → Option α} {z : α} (h : tBinI op k k' a b K = some z) :
    ∃ v u, ((pureRun P (do eqGuard op t x y (.int k a) (.int k' b); binOp op t (.int k a) (.int k' b))).bind ofScalar) = some (.v u) ∧ (∀ hp, RV2 hp v (.v u)) ∧ K v = some z := by
  have hk : k = k' → (op ≠ .shl ∧ op ≠ .shr) → ∃ v u, ((pureRun P (do eqGuard op t x y (.int k a) (.int k b); binOp op t (.int k a) (.int k b))).bind ofScalar) = some (.v u) ∧ (∀ hp, RV2 hp v (.v u)) ∧ K v = some z := by
    intro he hop
    subst he
    cases op
    case quo =>
      simp only [tBinI, if_true] at h
      obtain ⟨h1, h2⟩ := cond_none h
      have h0 : ¬ b = 0 := by simpa using h1
      refine done_int h2 ?_
      show ((pureRun P (if k ≠ k then _ else if b = 0 then _ else _)).bind ofScalar) = _
      rw [if_neg (by simp), if_neg h0]; rfl
    case rem =>
      simp only [tBinI, if_true] at h
      obtain ⟨h1, h2⟩ := cond_none h
      have h0 : ¬ b = 0 := by simpa using h1
      refine done_int h2 ?_
      show ((pureRun P (if k ≠ k then _ else if b = 0 then _ else _)).bind ofScalar) = _
      rw [if_neg (by simp), if_neg h0]; rfl
    case shl => exact absurd rfl hop.1
    case shr => exact absurd rfl hop.2
    case andNot => simp only [tBinI, if_true, reduceCtorEq] at h
    case add => simp only [tBinI, if_true] at h; exact done_int h (by show ((pureRun P (if k ≠ k then _ else _)).bind ofScalar) = _; rw [if_neg (by simp)]; rfl)
    case sub => simp only [tBinI, if_true] at h; exact done_int h (by show ((pureRun P (if k ≠ k then _ else _)).bind ofScalar) = _; rw [if_neg (by simp)]; rfl)
    case mul => simp only [tBinI, if_true] at h; exact done_int h (by show ((pureRun P (if k ≠ k then _ else _)).bind ofScalar) = _; rw [if_neg (by simp)]; rfl)
    case and => simp only [tBinI, if_true] at h; exact done_int h (by show ((pureRun P (if k ≠ k then _ else _)).bind ofScalar) = _; rw [if_neg (by simp)]; rfl)
    case or => simp only [tBinI, if_true] at h; exact done_int h (by show ((pureRun P (if k ≠ k then _ else _)).bind ofScalar) = _; rw [if_neg (by simp)]; rfl)
    case xor => simp only [tBinI, if_true] at h; exact done_int h (by show ((pureRun P (if k ≠ k then _ else _)).bind ofScalar) = _; rw [if_neg (by simp)]; rfl)
    case eql => simp only [tBinI, if_true] at h; exact done_bool h (by show ((pureRun P (if k ≠ k then _ else _)).bind ofScalar) = _; rw [if_neg (by simp)]; rfl)
    case neq => simp only [tBinI, if_true] at h; exact done_bool h (by show ((pureRun P (if k ≠ k then _ else _)).bind ofScalar) = _; rw [if_neg (by simp)]; rfl)
    case lss => simp only [tBinI, if_true] at h; exact done_bool h (by show ((pureRun P (if k ≠ k then _ else _)).bind ofScalar) = _; rw [if_neg (by simp)]; rfl)
    case leq => simp only [tBinI, if_true] at h; exact done_bool h (by show ((pureRun P (if k ≠ k then _ else _)).bind ofScalar) = _; rw [if_neg (by simp)]; rfl)
    case gtr => simp only [tBinI, if_true] at h; exact done_bool h (by show ((pureRun P (if k ≠ k then _ else _)).bind ofScalar) = _; rw [if_neg (by simp)]; rfl)
    case geq => simp only [tBinI, if_true] at h; exact done_bool h (by show ((pureRun P (if k ≠ k then _ else _)).bind ofScalar) = _; rw [if_neg (by simp)]; rfl)
  by_cases h1 : op = .shl
  · subst h1
    simp only [tBinI] at h
    obtain ⟨h1, h2⟩ := cond_none h
    have h0 : ¬ b < 0 := by simpa using h1
    refine done_int h2 ?_
    show ((pureRun P (if b < 0 then _ else _)).bind ofScalar) = _
    rw [if_neg h0]; rfl
  · by_cases h2 : op = .shr
    · subst h2
      simp only [tBinI] at h
      obtain ⟨h1, h2⟩ := cond_none h
      have h0 : ¬ b < 0 := by simpa using h1
      refine done_int h2 ?_
      show ((pureRun P (if b < 0 then _ else _)).bind ofScalar) = _
      rw [if_neg h0]; rfl
    · by_cases hkk : k = k'
      · subst hkk; exact hk rfl ⟨h1, h2⟩
      · exfalso
        cases op <;> simp only [tBinI, if_neg hkk, reduceCtorEq] at h
        · exact h1 rfl
        · exact h2 rfl

theorem bin_str {α : Type} {P : Program} {op : BinOp} {t : TypeId} {x y : Operand} {s u : Str} {K : SV → Option α} {z : α} (h : tBinS op s u K = some z) :
    ∃ v w, ((pureRun P (do eqGuard op t x y (.string ⟨s.toArray⟩) (.string ⟨u.toArray⟩); binOp op t (.string ⟨s.toArray⟩) (.string ⟨u.toArray⟩))).bind ofScalar) = some (.v w) ∧ (∀ hp, RV2 hp v (.v w)) ∧ K v = some z := by
  have e1 : (ByteArray.mk s.toArray).toList = s := ByteArray.toList_mk s
  have e2 : (ByteArray.mk u.toArray).toList = u := ByteArray.toList_mk u
  cases op <;> simp only [tBinS, reduceCtorEq] at h
  case add =>
    obtain ⟨r, h1, h2⟩ := bind_some' h
    unfold catS at h1
    split at h1
    · rename_i hle
      cases h1
      refine done_str h2 ?_
      show ((pureRun P (if (((ByteArray.mk s.toArray).size + (ByteArray.mk u.toArray).size : Nat) : Int) > IntKind.i64.max then _ else _)).bind ofScalar) = _
      have hs : (ByteArray.mk s.toArray).size = s.length := by simp [ByteArray.size]
      have hu : (ByteArray.mk u.toArray).size = u.length := by simp [ByteArray.size]
      have hm : IntKind.i64.max = 9223372036854775807 := by decide
      rw [if_neg (by rw [hs, hu, hm]; omega)]
      have : (ByteArray.mk s.toArray) ++ (ByteArray.mk u.toArray) = ⟨(s ++ u).toArray⟩ := by
        apply ByteArray.ext; simp
      show some (V.v (.string ((ByteArray.mk s.toArray) ++ (ByteArray.mk u.toArray)))) = _
      rw [this]
    · cases h1
  all_goals
    refine done_bool h ?_
    show some (V.v (.bool _)) = _
    simp only [e1, e2]
end Go.Proofs.Ytcmihlhmeonmfaa.Ev
