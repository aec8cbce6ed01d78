/- What an operation looks at. -/
import Derived.Test.YtcmihlhmeonmfaaEv27
namespace Go.Proofs.Ytcmihlhmeonmfaa.Ev
open Go
set_option linter.unusedVariables false
set_option linter.unusedSimpArgs false

variable {P : Program} {R : Rel} {cf : Cfg} {ρ ρ' : Operand → V} {hp hp' : Hp} {b : Nat} {K : Cont}

theorem fillV_congr {flds : List Fld} : ∀ (l : List (Nat × Operand)) (cs : List V), (∀ x ∈ l, ρ x.2 = ρ' x.2) → fillV flds ρ cs l = fillV flds ρ' cs l
  | [], _, _ => rfl
  | (k, x) :: l, cs, h => by
    have e := h (k, x) (by simp)
    simp only at e
    simp only [fillV, e]
    cases flds[k]? with
    | none => rfl
    | some f =>
      simp only []
      split
      · cases putSeg cs f.off (flat (ρ' x)) with
        | none => rfl
        | some cs' => simp only [Option.bind_some]; exact fillV_congr l cs' fun y hy => h y (by simp [hy])
      · rfl

theorem closeParts_congr {size : Nat} : ∀ (l : List (Nat × Operand)) (n : Nat), (∀ x ∈ l, ρ x.2 = ρ' x.2) → closeParts hp ρ size n l = closeParts hp ρ' size n l
  | [], _, _ => rfl
  | (k, x) :: l, n, h => by
    have e := h (k, x) (by simp)
    simp only at e
    simp only [closeParts, e, closeParts_congr l (n + 1) fun y hy => h y (by simp [hy])]

theorem bnd_congr {x : Option Operand} {d : Nat} (h : ∀ y, x = some y → ρ y = ρ' y) : bnd ρ x d = bnd ρ' x d := by
  cases x with
  | none => rfl
  | some y => simp only [bnd, h y rfl]

theorem map_congr' {l : List Operand} (h : ∀ x ∈ l, ρ x = ρ' x) : l.map ρ = l.map ρ' := List.map_congr_left h

theorem nevT_congr {op : Op} (h : ∀ y ∈ op.operands, ρ y = ρ' y) : nevT P op ρ = nevT P op ρ' := by
  cases op with
  | move x => simp only [nevT, h x (by simp [Op.operands])]
  | assign x => simp only [nevT, h x (by simp [Op.operands])]
  | pick c a b => simp only [nevT, h c (by simp [Op.operands]), h a (by simp [Op.operands]), h b (by simp [Op.operands])]
  | build t parts =>
    simp only [nevT]
    cases tyOf P t with
    | none => rfl
    | some d => simp only [fillV_congr parts.toList d.zero fun x hx => h x.2 (by simp only [Op.operands, List.mem_toArray, List.mem_map]; exact ⟨x, hx, rfl⟩)]
  | nilCheck x => simp only [nevT, h x (by simp [Op.operands])]
  | binOp o t x y yt => simp only [nevT, h x (by simp [Op.operands]), h y (by simp [Op.operands])]
  | unOp u t x => simp only [nevT, h x (by simp [Op.operands])]
  | convert s d x => simp only [nevT, h x (by simp [Op.operands])]
  | field t x k => simp only [nevT, h x (by simp [Op.operands])]
  | fieldAddr t x k => simp only [nevT, h x (by simp [Op.operands])]
  | index t x i => simp only [nevT, h x (by simp [Op.operands]), h i (by simp [Op.operands])]
  | indexAddr t x i => simp only [nevT, h x (by simp [Op.operands]), h i (by simp [Op.operands])]
  | slice t x lo hi mx =>
    have e := h x (by simp [Op.operands])
    have el : ∀ d, bnd ρ lo d = bnd ρ' lo d := fun d => bnd_congr fun y hy => h y (by subst hy; simp [Op.operands])
    have eh : ∀ d, bnd ρ hi d = bnd ρ' hi d := fun d => bnd_congr fun y hy => h y (by subst hy; simp [Op.operands])
    have em : ∀ d, bnd ρ mx d = bnd ρ' mx d := fun d => bnd_congr fun y hy => h y (by subst hy; simp [Op.operands])
    cases mx with
    | none => simp only [nevT, e, el, eh]
    | some m =>
      cases hi with
      | none => rfl
      | some r => simp only [nevT, e, el, eh, em]
  | extract x k => simp only [nevT, h x (by simp [Op.operands])]
  | makeFunc fn first caps =>
    cases fn with
    | func f =>
      have e : caps.toList.map ρ = caps.toList.map ρ' := map_congr' fun x hx => h x (by simp [Op.operands]; right; simpa using hx)
      simp only [nevT, e]
    | _ => rfl
  | call c =>
    obtain ⟨callee, args, tys⟩ := c
    cases callee with
    | value f => rfl
    | invoke r m => rfl
    | builtin bb =>
      have e : args.toList.map ρ = args.toList.map ρ' := map_congr' fun x hx => h x (by simp [Op.operands, Call.operands]; simpa using hx)
      cases bb with
      | len =>
        simp only [nevT]
        match hargs : args.toList, tys.toList with
        | [], _ => rfl
        | [x], [] => rfl
        | [x], [t] =>
          rw [hargs] at e
          simp only [List.map_cons, List.map_nil, List.cons.injEq, and_true] at e
          simp only [e]
        | [x], _ :: _ :: _ => rfl
        | _ :: _ :: _, _ => rfl
      | min => simp only [nevT, e]
      | max => simp only [nevT, e]
      | _ => rfl
  | _ => rfl

theorem nevM_congr {op : Op} (h : ∀ y ∈ op.operands, ρ y = ρ' y) : nevM P op ρ hp b = nevM P op ρ' hp b := by
  cases op with
  | box t x => simp only [nevM, h x (by simp [Op.operands])]
  | load t x => simp only [nevM, h x (by simp [Op.operands])]
  | indexAddr t x i => simp only [nevM, h x (by simp [Op.operands]), h i (by simp [Op.operands])]
  | makeSlice t x i => simp only [nevM, h x (by simp [Op.operands]), h i (by simp [Op.operands])]
  | convert s d x => simp only [nevM, h x (by simp [Op.operands])]
  | _ => rfl

theorem weSlice_congr {t : TypeId} {s : V} {lo hi : Option Operand} (h1 : ∀ y, lo = some y → ρ y = ρ' y) (h2 : ∀ y, hi = some y → ρ y = ρ' y) : weSlice P t s lo hi ρ hp K = weSlice P t s lo hi ρ' hp K := by
  have e1 : ∀ d, bnd ρ lo d = bnd ρ' lo d := fun d => bnd_congr h1
  have e2 : ∀ d, bnd ρ hi d = bnd ρ' hi d := fun d => bnd_congr h2
  simp only [weSlice, e1, e2]

theorem weBuild_congr {t : TypeId} {n : Nat} {l : List (Nat × Operand)} (h : ∀ x ∈ l, ρ x.2 = ρ' x.2) : weBuildSlice P t n l ρ hp b K = weBuildSlice P t n l ρ' hp b K := by
  cases n with
  | zero => rfl
  | succ n => simp only [weBuildSlice, closeParts_congr l _ h]

/-- An operation looks at its operands alone. -/
theorem weOp_congr {op : Op} (h : ∀ y ∈ op.operands, ρ y = ρ' y) : weOp P R cf op b ρ hp K = weOp P R cf op b ρ' hp K := by
  have eT := nevT_congr (P := P) h
  have eM := nevM_congr (P := P) (hp := hp) (b := b) h
  cases op with
  | store t a x => simp only [weOp, h a (by simp [Op.operands]), h x (by simp [Op.operands])]
  | buildSlice t n parts => simp only [weOp]; exact weBuild_congr fun x hx => h x.2 (by simp only [Op.operands, List.mem_toArray, List.mem_map]; exact ⟨x, hx, rfl⟩)
  | slice t x lo hi mx =>
    have e := h x (by simp [Op.operands])
    cases mx with
    | none =>
      have es : ∀ K, weSlice P t (ρ' x) lo hi ρ hp K = weSlice P t (ρ' x) lo hi ρ' hp K := fun K =>
        weSlice_congr (fun y (hy : lo = some y) => h y (by subst hy; simp [Op.operands])) (fun y (hy : hi = some y) => h y (by subst hy; simp [Op.operands]))
      simp only [weOp, eT, e, es]
    | some m => simp only [weOp, eT, eM]
  | call c =>
    obtain ⟨callee, args, tys⟩ := c
    have e : args.toList.map ρ = args.toList.map ρ' := map_congr' fun x hx => h x (by cases callee <;> simp [Op.operands, Call.operands] <;> first | (right; simpa using hx) | simpa using hx)
    cases callee with
    | value f => simp only [weOp, e, h f (by simp [Op.operands, Call.operands])]
    | invoke r m => rfl
    | builtin bb =>
      cases bb with
      | append =>
        simp only [weOp]
        match hargs : args.toList with
        | [] => rfl
        | [_] => rfl
        | [s, x] =>
          rw [hargs] at e
          simp only [List.map_cons, List.map_nil, List.cons.injEq, and_true] at e
          simp only [e.1, e.2]
        | _ :: _ :: _ :: _ => rfl
      | _ => simp only [weOp, eT, eM]
  | _ => simp only [weOp, eT, eM]

/-- Operations that look at their operands alone. -/
theorem weOp_isT {op : Op} (ht : isT op = true) (h : weOp P R cf op b ρ hp K) : ∃ x, K x hp .T ∧ ∀ (hp' : Hp) (b' : Nat) (K' : Cont), K' x hp' .T → weOp P R cf op b' ρ hp' K' := by
  have key : ∀ {op : Op}, (∀ hp b K, weOp P R cf op b ρ hp K = match nevT P op ρ with | some x => K x hp .T | none => caseO (nevM P op ρ hp b) fun z => z.2.length ≤ 16 ∧ K z.1 (inst hp b z.2) .M) → (∀ hp b, nevM P op ρ hp b = none) →
      weOp P R cf op b ρ hp K → ∃ x, K x hp .T ∧ ∀ (hp' : Hp) (b' : Nat) (K' : Cont), K' x hp' .T → weOp P R cf op b' ρ hp' K' := by
    intro op h1 h2 h
    rw [h1] at h
    cases hx : nevT P op ρ with
    | none => rw [hx] at h; simp only [h2] at h; exact h.elim
    | some x =>
      rw [hx] at h
      exact ⟨x, h, fun hp' b' K' h' => by rw [h1, hx]; exact h'⟩
  cases op with
  | call c =>
    obtain ⟨callee, args, tys⟩ := c
    cases callee with
    | builtin bb => cases bb <;> first | (simp [isT] at ht; done) | exact key (fun _ _ _ => rfl) (fun _ _ => rfl) h
    | _ => simp [isT] at ht
  | _ => first | (simp [isT] at ht; done) | exact key (fun _ _ _ => rfl) (fun _ _ => rfl) h

/-- Operations that look at blocks and leave them. -/
theorem weOp_isR {op : Op} (hr : isR op = true) (h : weOp P R cf op b ρ hp K) : ∃ x cls, K x hp cls ∧ ∀ (hp' : Hp), (∀ y ∈ op.operands, ∀ id ∈ refs2 (ρ y), ∀ k, hp id = some k → hp' id = some k) →
    ∀ (b' : Nat) (K' : Cont), K' x hp' cls → weOp P R cf op b' ρ hp' K' := by
  have key : ∀ {op : Op}, (∀ hp b K, weOp P R cf op b ρ hp K = match nevT P op ρ with | some x => K x hp .T | none => caseO (nevM P op ρ hp b) fun z => z.2.length ≤ 16 ∧ K z.1 (inst hp b z.2) .M) →
      (∀ x new, nevM P op ρ hp b = some (x, new) → new = [] ∧ ∀ hp', (∀ y ∈ op.operands, ∀ id ∈ refs2 (ρ y), ∀ k, hp id = some k → hp' id = some k) → ∀ b', nevM P op ρ hp' b' = some (x, [])) →
      weOp P R cf op b ρ hp K → ∃ x cls, K x hp cls ∧ ∀ (hp' : Hp), (∀ y ∈ op.operands, ∀ id ∈ refs2 (ρ y), ∀ k, hp id = some k → hp' id = some k) → ∀ (b' : Nat) (K' : Cont), K' x hp' cls → weOp P R cf op b' ρ hp' K' := by
    intro op h1 h2 h
    rw [h1] at h
    cases hx : nevT P op ρ with
    | some x =>
      rw [hx] at h
      exact ⟨x, .T, h, fun hp' _ b' K' h' => by rw [h1, hx]; exact h'⟩
    | none =>
      rw [hx] at h
      simp only at h
      obtain ⟨⟨x, new⟩, hz, hl, hK⟩ := caseO_some' h
      obtain ⟨rfl, h3⟩ := h2 x new hz
      refine ⟨x, .M, hK, fun hp' ha b' K' h' => ?_⟩
      rw [h1, hx]
      simp only [h3 hp' ha b', caseO_some, inst]
      exact ⟨by simp, h'⟩
  cases op with
  | load t a =>
    refine key (fun _ _ _ => rfl) (fun x new hx => ?_) h
    refine ⟨load_len P b ρ hp t a _ hx, fun hp' ha b' => ?_⟩
    simp only [nevM] at hx ⊢
    split at hx
    · rename_i d hd
      split at hx
      · rename_i row c hra
        split at hx
        · rename_i z hz
          cases hx
          simp only [hd, hra, hz]
        · cases hx
      · rename_i id r c hra
        have hag := ha a (by simp [Op.operands]) id (by rw [hra]; simp [refs2, refs1, refs0])
        split at hx
        · rename_i k hk
          have hag' := hag k hk
          split at hx
          · rename_i row hrow
            split at hx
            · rename_i cs hcs
              split at hx
              · rename_i hc
                split at hx
                · rename_i z hz
                  cases hx
                  simp only [hd, hra, hag', hrow, hcs]
                  rw [if_pos hc]
                  simp only [hz]
                · cases hx
              · cases hx
            · cases hx
          · cases hx
        · cases hx
      · cases hx
    · cases hx
  | indexAddr t a i =>
    refine key (fun _ _ _ => rfl) (fun x new hx => ?_) h
    simp only [nevM] at hx
    split at hx
    · rename_i id lo n k j hra hri
      split at hx
      · rename_i e he
        split at hx
        · rename_i d kb hd hkb
          split at hx
          · rename_i hc
            cases hx
            refine ⟨rfl, fun hp' ha b' => ?_⟩
            have hag := ha a (by simp [Op.operands]) id (by rw [hra]; simp [refs2, refs1, refs0]) kb hkb
            simp only [nevM, hra, hri, he, hd, hag]
            rw [if_pos hc]
          · cases hx
        · cases hx
      · cases hx
    · cases hx
  | convert s d a =>
    refine key (fun _ _ _ => rfl) (fun x new hx => ?_) h
    simp only [nevM] at hx
    split at hx
    · rename_i rows hra
      split at hx
      · rename_i hc
        split at hx
        · rename_i bs hbs
          cases hx
          exact ⟨rfl, fun hp' ha b' => by simp only [nevM, hra, hbs]; rw [if_pos hc]⟩
        · cases hx
      · cases hx
    · rename_i id lo n hra
      split at hx
      · rename_i k hk
        split at hx
        · rename_i hc
          split at hx
          · rename_i bs hbs
            cases hx
            refine ⟨rfl, fun hp' ha b' => ?_⟩
            have hag := ha a (by simp [Op.operands]) id (by rw [hra]; simp [refs2, refs1, refs0]) k hk
            simp only [nevM, hra, hag]
            rw [if_pos hc]
            simp only [hbs]
          · cases hx
        · cases hx
      · cases hx
    · rename_i str hra
      split at hx
      · rename_i hc
        cases hx
        exact ⟨rfl, fun hp' ha b' => by simp only [nevM, hra]; rw [if_pos hc]⟩
      · cases hx
    · rename_i hra
      split at hx
      · rename_i hc
        cases hx
        exact ⟨rfl, fun hp' ha b' => by simp only [nevM, hra]; rw [if_pos hc]⟩
      · cases hx
    · cases hx
  | slice t a lo hi mx =>
    cases mx with
    | some m => exact key (fun _ _ _ => rfl) (fun x new hx => by simp [nevM] at hx) h
    | none =>
      simp only [weOp] at h
      by_cases hs : isStr P t = true
      · rw [if_pos hs] at h
        obtain ⟨z, hz, hK⟩ := caseO_some' h
        refine ⟨z, .M, hK, fun hp' ha b' K' h' => ?_⟩
        simp only [weOp]
        rw [if_pos hs, hz]
        exact h'
      · rw [if_neg hs] at h
        unfold weSlice at h
        obtain ⟨e, he, h⟩ := caseO_some' h
        obtain ⟨d, hd, h⟩ := caseO_some' h
        split at h
        · rename_i hra
          obtain ⟨l, hl, h⟩ := caseO_some' h
          obtain ⟨r, hrr, h⟩ := caseO_some' h
          refine ⟨.em, .M, h.2.2, fun hp' ha b' K' h' => ?_⟩
          simp only [weOp]
          rw [if_neg hs]
          simp only [weSlice, he, hd, hra, hl, hrr, caseO_some]
          exact ⟨h.1, h.2.1, h'⟩
        · rename_i rows hra
          obtain ⟨l, hl, h⟩ := caseO_some' h
          obtain ⟨r, hrr, h⟩ := caseO_some' h
          obtain ⟨h1, h2, h3, h⟩ := h
          refine ⟨_, .M, h, fun hp' ha b' K' h' => ?_⟩
          simp only [weOp]
          rw [if_neg hs]
          simp only [weSlice, he, hd, hra, hl, hrr, caseO_some]
          exact ⟨h1, h2, h3, h'⟩
        · rename_i id l0 n hra
          obtain ⟨l, hl, h⟩ := caseO_some' h
          obtain ⟨r, hrr, h⟩ := caseO_some' h
          obtain ⟨k, hk, h⟩ := caseO_some' h
          obtain ⟨h1, h2, h3, h⟩ := h
          refine ⟨_, .M, h, fun hp' ha b' K' h' => ?_⟩
          have hag := ha a (by simp [Op.operands]) id (by rw [hra]; simp [refs2, refs1, refs0]) k hk
          simp only [weOp]
          rw [if_neg hs]
          simp only [weSlice, he, hd, hra, hl, hrr, hag, caseO_some]
          exact ⟨h1, h2, h3, h'⟩
        · exact h.elim
  | _ => simp [isR] at hr

/-- What leaves the old blocks alone: all but what lies at its own numbers. -/
def Leaves (b : Nat) (hp hp' : Hp) : Prop := ∀ id, ¬ (b ≤ id ∧ id < b + 16) → hp' id = hp id

theorem Leaves.refl (b : Nat) (hp : Hp) : Leaves b hp hp := fun _ _ => rfl

theorem leaves_upd {b : Nat} {hp : Hp} {x : Option Blk} : Leaves b hp (upd hp b x) := fun id h => by
  simp only [upd]
  rw [if_neg (by omega)]

theorem inst_other : ∀ (l : List Blk) (hp : Hp) (b id : Nat), ¬ (b ≤ id ∧ id < b + l.length) → inst hp b l id = hp id
  | [], _, _, _, _ => rfl
  | k :: l, hp, b, id, h => by
    simp only [inst]
    simp only [List.length_cons] at h
    rw [inst_other l _ (b + 1) id (by omega)]
    simp only [upd]
    rw [if_neg (by omega)]

theorem leaves_inst {b : Nat} {hp : Hp} {l : List Blk} (h : l.length ≤ 16) : Leaves b hp (inst hp b l) := fun id hid => inst_other l hp b id (by omega)

def Lv (b : Nat) (hp : Hp) (K : Cont) : Prop := ∃ x hp' cls, K x hp' cls ∧ (cls ≠ .E → Leaves b hp hp')

theorem weStore_lv {t : TypeId} {a x : V} (h : weStore P t a x hp K) : Lv b hp K := by
  unfold weStore at h
  repeat' (split at h)
  all_goals first | exact h.elim | exact ⟨_, _, _, h, fun hh => absurd rfl hh⟩

theorem weBuild_lv {t : TypeId} {len : Nat} {parts : List (Nat × Operand)} (h : weBuildSlice P t len parts ρ hp b K) : Lv b hp K := by
  unfold weBuildSlice at h
  obtain ⟨e, he, h⟩ := caseO_some' h
  obtain ⟨d, hd, h⟩ := caseO_some' h
  cases len with
  | zero => exact ⟨_, _, _, h.2, fun _ => Leaves.refl _ _⟩
  | succ len =>
    obtain ⟨z, hz, h1, h2, h3, h⟩ := caseO_some' h
    refine ⟨_, _, _, h, fun hh => ?_⟩
    cases hk : z.2.1 with
    | nil => exact leaves_upd
    | cons i l => rw [hk] at hh; exact absurd rfl hh

theorem weAppend_lv {ts : List TypeId} {s x : V} (h : weAppend P ts s x hp b K) : Lv b hp K := by
  unfold weAppend at h
  split at h
  · obtain ⟨e, he, h⟩ := caseO_some' h
    obtain ⟨d, hd, h⟩ := caseO_some' h
    obtain ⟨ht, h⟩ := h
    obtain ⟨rows, kills, deep, h, _⟩ := srcRows_one h
    split at h
    · obtain ⟨h1, h2, h3, h4, h⟩ := h
      refine ⟨_, _, _, h, fun hh => ?_⟩
      cases kills with
      | nil => exact leaves_upd
      | cons i l => exact absurd rfl hh
    · obtain ⟨k, hk, h⟩ := caseO_some' h
      exact ⟨_, _, _, h.2.2.2.2.2.2.2.2, fun hh => absurd rfl hh⟩
    · exact h.elim
  · exact h.elim

theorem weSlice_lv {t : TypeId} {s : V} {lo hi : Option Operand} (h : weSlice P t s lo hi ρ hp K) : Lv b hp K := by
  unfold weSlice at h
  obtain ⟨e, he, h⟩ := caseO_some' h
  obtain ⟨d, hd, h⟩ := caseO_some' h
  split at h
  · obtain ⟨l, hl, h⟩ := caseO_some' h
    obtain ⟨r, hr, h⟩ := caseO_some' h
    exact ⟨_, _, _, h.2.2, fun _ => Leaves.refl _ _⟩
  · obtain ⟨l, hl, h⟩ := caseO_some' h
    obtain ⟨r, hr, h⟩ := caseO_some' h
    exact ⟨_, _, _, h.2.2.2, fun _ => Leaves.refl _ _⟩
  · obtain ⟨l, hl, h⟩ := caseO_some' h
    obtain ⟨r, hr, h⟩ := caseO_some' h
    obtain ⟨k, hk, h⟩ := caseO_some' h
    exact ⟨_, _, _, h.2.2.2, fun _ => Leaves.refl _ _⟩
  · exact h.elim

theorem weInv_lv {g : FuncId} {args : List V} (h : weInv R cf g args hp b K) : Lv b hp K := by
  unfold weInv at h
  cases ha : (if cf.byref g then (if args.all notTup then some args else none) else lendA hp args) with
  | none => rw [ha] at h; exact h.elim
  | some args' =>
    rw [ha] at h
    cases hc : close hp 64 (args'.flatMap refs1) [] with
    | none => simp only [hc] at h
    | some order =>
      cases order with
      | nil =>
        simp only [hc] at h
        unfold wePure callR at h
        obtain ⟨r, blks', hr, hlen, hid, h⟩ := h
        by_cases hif : ((if cf.byref g = true then ([] : List Nat) else args.flatMap arIds1).isEmpty || (noIm r && blks'.all noImB)) = true
        · rw [if_pos hif] at h
          refine ⟨_, _, _, h, fun _ => ?_⟩
          have : callHp hp [] 0 b blks' = inst hp b (blks'.map (renB (back [] 0 blks'.length b))) := by cases blks' <;> rfl
          rw [this]
          exact leaves_inst (by simpa using hlen)
        · rw [if_neg hif] at h
          exact ⟨_, _, _, h, fun hh => absurd rfl hh⟩
      | cons i l =>
        simp only [hc] at h
        unfold weRef callR at h
        obtain ⟨_, _, _, r, blks', hr, _, _, h⟩ := h
        exact ⟨_, _, _, h, fun hh => absurd rfl hh⟩

theorem weOp_lv {op : Op} (h : weOp P R cf op b ρ hp K) : Lv b hp K := by
  unfold weOp at h
  split at h
  · exact weStore_lv h
  · exact weBuild_lv h
  · split at h
    · obtain ⟨z, hz, h⟩ := caseO_some' h
      exact ⟨_, _, _, h, fun _ => Leaves.refl _ _⟩
    · exact weSlice_lv h
  · split at h
    · exact weAppend_lv h
    · exact h.elim
  · split at h
    · exact weInv_lv h
    · exact h.elim
  · split at h
    · exact ⟨_, _, _, h, fun _ => Leaves.refl _ _⟩
    · obtain ⟨z, hz, hl, h⟩ := caseO_some' h
      exact ⟨_, _, _, h, fun _ => leaves_inst hl⟩

end Go.Proofs.Ytcmihlhmeonmfaa.Ev
