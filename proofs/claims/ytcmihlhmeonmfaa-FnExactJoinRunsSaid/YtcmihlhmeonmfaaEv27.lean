/- The evaluator gives one outcome, found at a finite depth of calls. -/
import Derived.Test.YtcmihlhmeonmfaaEv22
import Derived.Test.YtcmihlhmeonmfaaEv2
namespace Go.Proofs.Ytcmihlhmeonmfaa.Ev
open Go
set_option linter.unusedVariables false
set_option linter.unusedSimpArgs false

variable {P : Program} {cf : Cfg} {R : Rel} {Rk : Nat → Rel}

/-- The union of what holds at some depth. -/
def UR (Rk : Nat → Rel) : Rel := fun g a b r b' => ∃ k, Rk k g a b r b'

def Mono (Rk : Nat → Rel) : Prop := ∀ k k' g a b r b', k ≤ k' → Rk k g a b r b' → Rk k' g a b r b'

/-- One result for each call. -/
def Uniq (R : Rel) : Prop := ∀ g a b r b' r2 b2, R g a b r b' → R g a b r2 b2 → r = r2 ∧ b' = b2

/-- A computation that gives one outcome, found at some depth. -/
def One3 (T : Rel → Cont → Prop) (R : Rel) (Rk : Nat → Rel) (K : Cont) : Prop :=
  ∃ k x hp cls, K x hp cls ∧ (∀ k', k ≤ k' → ∀ K' : Cont, K' x hp cls → T (Rk k') K') ∧ (Uniq R → ∀ K' : Cont, T R K' → K' x hp cls)

theorem One3.of {T : Rel → Cont → Prop} {K : Cont} {x : V} {hp : Hp} {cls : Cls} (h : K x hp cls) (ht : ∀ R, ∀ K' : Cont, T R K' ↔ K' x hp cls) : One3 T R Rk K :=
  ⟨0, x, hp, cls, h, fun k' _ K' h' => (ht _ K').2 h', fun _ K' h' => (ht _ K').1 h'⟩

/-- What R holds is held at some depth. -/
def Sub (R : Rel) (Rk : Nat → Rel) : Prop := ∀ g a b r b', R g a b r b' → ∃ k, Rk k g a b r b'

theorem callR_one {g : FuncId} {args : List V} {blks : List Blk} {F : V → List Blk → Prop} (h : callR R g args blks F) (hm : Mono Rk) (hS : Sub R Rk) : ∃ k r b', F r b' ∧ (∀ k', k ≤ k' → ∀ F' : V → List Blk → Prop, F' r b' → callR (Rk k') g args blks F') ∧ (Uniq R → ∀ F' : V → List Blk → Prop, callR R g args blks F' → F' r b') := by
  obtain ⟨r, b', h, hF⟩ := h
  obtain ⟨k, hk⟩ := hS _ _ _ _ _ h
  exact ⟨k, r, b', hF, fun k' hle F' h' => ⟨r, b', hm k k' _ _ _ _ _ hle hk, h'⟩, fun hU F' ⟨r2, b2, h2, h'⟩ => by obtain ⟨rfl, rfl⟩ := hU _ _ _ _ _ _ _ h h2; exact h'⟩

theorem weStore_one {t : TypeId} {a x : V} {hp : Hp} {K : Cont} (h : weStore P t a x hp K) : One3 (fun _ K => weStore P t a x hp K) R Rk K := by
  unfold weStore at h
  split at h
  · rename_i d id r c hd
    split at h
    · rename_i k hk
      split at h
      · rename_i row hr
        split at h
        · rename_i hl
          split at h
          · rename_i hkk
            split at h
            · rename_i hok
              split at h
              · rename_i row' hrow
                exact .of h fun R K' => by simp only [weStore, hd, hk, hr, hl, hkk, hok, hrow, if_true]
              · exact h.elim
            · exact h.elim
          · rename_i hkk
            split at h
            · rename_i cs kills deep hcl
              split at h
              · rename_i hnd
                split at h
                · rename_i row' hrow
                  exact .of h fun R K' => by simp only [weStore, hd, hk, hr, hl, hkk, hcl, hnd, hrow, if_true]
                · exact h.elim
              · exact h.elim
            · exact h.elim
          · exact h.elim
        · exact h.elim
      · exact h.elim
    · exact h.elim
  · exact h.elim

theorem weBuild_one {t : TypeId} {len : Nat} {parts : List (Nat × Operand)} {ρ : Operand → V} {hp : Hp} {b : Nat} {K : Cont} (h : weBuildSlice P t len parts ρ hp b K) : One3 (fun _ K => weBuildSlice P t len parts ρ hp b K) R Rk K := by
  unfold weBuildSlice at h
  obtain ⟨e, he, h⟩ := caseO_some' h
  obtain ⟨d, hd, h⟩ := caseO_some' h
  cases len with
  | zero => exact .of h.2 fun R K' => by simp only [weBuildSlice, he, hd, caseO_some, h.1, true_and]
  | succ len =>
    obtain ⟨z, hz, h1, h2, h3, h⟩ := caseO_some' h
    exact .of h fun R K' => by simp only [weBuildSlice, he, hd, hz, caseO_some, h1, h2, h3, true_and]

theorem srcRows_one {d : TyD} {x : V} {hp : Hp} {K : List (List V) → List Nat → Bool → Prop} (h : srcRows d x hp K) : ∃ rows kills deep, K rows kills deep ∧ ∀ K' : List (List V) → List Nat → Bool → Prop, srcRows d x hp K' ↔ K' rows kills deep := by
  unfold srcRows at h
  split at h
  · exact ⟨_, _, _, h, fun K' => Iff.rfl⟩
  · exact ⟨_, _, _, h, fun K' => Iff.rfl⟩
  · rename_i id lo n
    split at h
    · rename_i k hk
      split at h
      · exact h.elim
      · rename_i hkk
        exact ⟨_, _, _, h, fun K' => by simp only [srcRows, hk, hkk]⟩
      · rename_i hkk
        split at h
        · rename_i hz
          exact ⟨_, _, _, h.2, fun K' => by simp only [srcRows, hk, hkk, hz, if_true, h.1, true_and]⟩
        · rename_i hz
          exact ⟨_, _, _, h, fun K' => by simp only [srcRows, hk, hkk]; rw [if_neg hz]⟩
    · exact h.elim
  · exact h.elim

theorem weAppend_one {ts : List TypeId} {s x : V} {hp : Hp} {b : Nat} {K : Cont} (h : weAppend P ts s x hp b K) : One3 (fun _ K => weAppend P ts s x hp b K) R Rk K := by
  unfold weAppend at h
  split at h
  · rename_i t t'
    obtain ⟨e, he, h⟩ := caseO_some' h
    obtain ⟨d, hd, h⟩ := caseO_some' h
    obtain ⟨ht, h⟩ := h
    obtain ⟨rows, kills, deep, h, hs⟩ := srcRows_one h
    split at h
    · obtain ⟨h1, h2, h3, h4, h⟩ := h
      exact .of h fun R K' => by
        simp only [weAppend, he, hd, caseO_some]
        exact ⟨fun h => ((hs _).1 h.2).2.2.2.2, fun h' => ⟨ht, (hs _).2 ⟨h1, h2, h3, h4, h'⟩⟩⟩
    · rename_i id lo n
      obtain ⟨k, hk, h⟩ := caseO_some' h
      obtain ⟨h1, h2, h3, h4, h5, h6, h7, h8, h⟩ := h
      exact .of h fun R K' => by
        simp only [weAppend, he, hd, caseO_some]
        refine ⟨fun h => ?_, fun h' => ⟨ht, (hs _).2 ?_⟩⟩
        · have := (hs _).1 h.2
          simp only [hk, caseO_some] at this
          exact this.2.2.2.2.2.2.2.2
        · simp only [hk, caseO_some]
          exact ⟨h1, h2, h3, h4, h5, h6, h7, h8, h'⟩
    · exact h.elim
  · exact h.elim

theorem weSlice_one {t : TypeId} {s : V} {lo hi : Option Operand} {ρ : Operand → V} {hp : Hp} {K : Cont} (h : weSlice P t s lo hi ρ hp K) : One3 (fun _ K => weSlice P t s lo hi ρ hp K) R Rk K := by
  unfold weSlice at h
  obtain ⟨e, he, h⟩ := caseO_some' h
  obtain ⟨d, hd, h⟩ := caseO_some' h
  split at h
  · obtain ⟨l, hl, h⟩ := caseO_some' h
    obtain ⟨r, hr, h⟩ := caseO_some' h
    exact .of h.2.2 fun R K' => by simp only [weSlice, he, hd, hl, hr, caseO_some, h.1, h.2.1, true_and]
  · obtain ⟨l, hl, h⟩ := caseO_some' h
    obtain ⟨r, hr, h⟩ := caseO_some' h
    obtain ⟨h1, h2, h3, h⟩ := h
    exact .of h fun R K' => by
      simp only [weSlice, he, hd, hl, hr, caseO_some]
      exact ⟨fun h => h.2.2.2, fun h' => ⟨h1, h2, h3, h'⟩⟩
  · obtain ⟨l, hl, h⟩ := caseO_some' h
    obtain ⟨r, hr, h⟩ := caseO_some' h
    obtain ⟨k, hk, h⟩ := caseO_some' h
    obtain ⟨h1, h2, h3, h⟩ := h
    exact .of h fun R K' => by
      simp only [weSlice, he, hd, hl, hr, hk, caseO_some]
      exact ⟨fun h => h.2.2.2, fun h' => ⟨h1, h2, h3, h'⟩⟩
  · exact h.elim

theorem wePure_one (hm : Mono Rk) (hS : Sub R Rk) {g : FuncId} {args : List V} {lent : List Nat} {hp : Hp} {b : Nat} {K : Cont} (h : wePure R g args lent hp b K) : One3 (fun R K => wePure R g args lent hp b K) R Rk K := by
  unfold wePure at h
  obtain ⟨k, r, b', ⟨h1, h2, h⟩, hk, hu⟩ := callR_one h hm hS
  by_cases hc : (lent.isEmpty || (noIm r && b'.all noImB)) = true
  · rw [if_pos hc] at h
    refine ⟨k, _, _, _, h, fun k' hle K' h' => hk k' hle _ ⟨h1, h2, ?_⟩, fun hU K' h' => ?_⟩
    · rw [if_pos hc]; exact h'
    · have := (hu hU _ h').2.2
      rw [if_pos hc] at this; exact this
  · rw [if_neg hc] at h
    refine ⟨k, _, _, _, h, fun k' hle K' h' => hk k' hle _ ⟨h1, h2, ?_⟩, fun hU K' h' => ?_⟩
    · rw [if_neg hc]; exact h'
    · have := (hu hU _ h').2.2
      rw [if_neg hc] at this; exact this

theorem weRef_one (hm : Mono Rk) (hS : Sub R Rk) {g : FuncId} {args : List V} {lent direct order : List Nat} {hp : Hp} {b : Nat} {K : Cont} (h : weRef R g args lent direct order hp b K) : One3 (fun R K => weRef R g args lent direct order hp b K) R Rk K := by
  unfold weRef at h
  obtain ⟨h1, h2, h3, h⟩ := h
  obtain ⟨k, r, b', ⟨h4, h5, h⟩, hk, hu⟩ := callR_one h hm hS
  exact ⟨k, _, _, _, h, fun k' hle K' h' => ⟨h1, h2, h3, hk k' hle _ ⟨h4, h5, h'⟩⟩, fun hU K' h' => (hu hU _ h'.2.2.2).2.2⟩

theorem weInv_one (hm : Mono Rk) (hS : Sub R Rk) {g : FuncId} {args : List V} {hp : Hp} {b : Nat} {K : Cont} (h : weInv R cf g args hp b K) : One3 (fun R K => weInv R cf g args hp b K) R Rk K := by
  unfold weInv at h
  cases ha : (if cf.byref g then (if args.all notTup then some args else none) else lendA hp args) with
  | none => rw [ha] at h; exact h.elim
  | some args' =>
    rw [ha] at h
    cases hc : close hp 64 (args'.flatMap refs1) [] with
    | none => simp only [hc] at h
    | some order =>
      cases order with
      | nil =>
        simp only [hc] at h
        obtain ⟨k, x, hp', cls, h1, h2, h3⟩ := wePure_one hm hS h
        exact ⟨k, x, hp', cls, h1, fun k' hle K' h' => by unfold weInv; rw [ha]; simp only [hc]; exact h2 k' hle K' h', fun hU K' h' => h3 hU K' (by unfold weInv at h'; rw [ha] at h'; simp only [hc] at h'; exact h')⟩
      | cons i l =>
        simp only [hc] at h
        obtain ⟨k, x, hp', cls, h1, h2, h3⟩ := weRef_one hm hS h
        exact ⟨k, x, hp', cls, h1, fun k' hle K' h' => by unfold weInv; rw [ha]; simp only [hc]; exact h2 k' hle K' h', fun hU K' h' => h3 hU K' (by unfold weInv at h'; rw [ha] at h'; simp only [hc] at h'; exact h')⟩

theorem weOp_one (hm : Mono Rk) (hS : Sub R Rk) {op : Op} {b : Nat} {ρ : Operand → V} {hp : Hp} {K : Cont} (h : weOp P R cf op b ρ hp K) : One3 (fun R K => weOp P R cf op b ρ hp K) R Rk K := by
  unfold weOp at h
  split at h
  · exact weStore_one h
  · exact weBuild_one h
  · rename_i t x lo hi
    split at h
    · rename_i hs
      obtain ⟨z, hz, h⟩ := caseO_some' h
      exact .of h fun R K' => by simp only [weOp, hs, hz, if_true, caseO_some]
    · rename_i hs
      obtain ⟨k, x, hp', cls, h1, h2, h3⟩ := weSlice_one (R := R) (Rk := Rk) h
      exact ⟨k, x, hp', cls, h1, fun k' hle K' h' => by simp only [weOp]; rw [if_neg hs]; exact h2 k' hle K' h', fun hU K' h' => h3 hU K' (by simp only [weOp] at h'; rw [if_neg hs] at h'; exact h')⟩
  · rename_i args tys
    split at h
    · rename_i s x ha
      obtain ⟨k, x, hp', cls, h1, h2, h3⟩ := weAppend_one (R := R) (Rk := Rk) h
      exact ⟨k, x, hp', cls, h1, fun k' hle K' h' => by simp only [weOp, ha]; exact h2 k' hle K' h', fun hU K' h' => h3 hU K' (by simp only [weOp, ha] at h'; exact h')⟩
    · exact h.elim
  · rename_i f args
    split at h
    · rename_i g caps hf
      obtain ⟨k, x, hp', cls, h1, h2, h3⟩ := weInv_one hm hS h
      exact ⟨k, x, hp', cls, h1, fun k' hle K' h' => by simp only [weOp, hf]; exact h2 k' hle K' h', fun hU K' h' => h3 hU K' (by simp only [weOp, hf] at h'; exact h')⟩
    · exact h.elim
  · rename_i n1 n2 n3 n4 n5
    have hform : ∀ R, ∀ K' : Cont, weOp P R cf op b ρ hp K' ↔ (match nevT P op ρ with | some x => K' x hp .T | none => caseO (nevM P op ρ hp b) fun z => z.2.length ≤ 16 ∧ K' z.1 (inst hp b z.2) .M) := by
      intro R K'
      unfold weOp
      split <;> first | exact Iff.rfl | (exfalso; simp_all; done) | skip
      all_goals first | exact (n1 _ _ _ rfl).elim | exact (n2 _ _ _ rfl).elim | exact (n3 _ _ _ _ rfl).elim | exact (n4 _ _ rfl).elim | exact (n5 _ _ _ rfl).elim
    cases hx : nevT P op ρ with
    | some x =>
      simp only [hx] at h
      exact .of h fun R K' => (hform R K').trans (by simp only [hx])
    | none =>
      simp only [hx] at h
      obtain ⟨z, hz, hl, h⟩ := caseO_some' h
      exact .of h fun R K' => (hform R K').trans (by simp only [hx, hz, caseO_some, hl, true_and])

theorem opAt_one (hm : Mono Rk) (hS : Sub R Rk) {draw : Bool} {op : Op} {b : Nat} {ρ : Operand → V} {hp : Hp} {K : Cont} (h : opAt P R cf draw op b ρ hp K) : One3 (fun R K => opAt P R cf draw op b ρ hp K) R Rk K := by
  unfold opAt at h
  split at h
  · rename_i hd
    obtain ⟨k, x, hp', cls, h1, h2, h3⟩ := weOp_one hm hS h
    exact ⟨k, x, hp, cls, h1, fun k' hle K' h' => by simp only [opAt, hd]; exact h2 k' hle _ h', fun hU K' h' => by simp only [opAt, hd] at h'; exact h3 hU _ h'⟩
  · rename_i hd
    obtain ⟨k, x, hp', cls, h1, h2, h3⟩ := weOp_one hm hS h
    exact ⟨k, x, hp', cls, h1, fun k' hle K' h' => by simp only [opAt, hd]; exact h2 k' hle _ h', fun hU K' h' => by simp only [opAt, hd] at h'; exact h3 hU _ h'⟩

end Go.Proofs.Ytcmihlhmeonmfaa.Ev
