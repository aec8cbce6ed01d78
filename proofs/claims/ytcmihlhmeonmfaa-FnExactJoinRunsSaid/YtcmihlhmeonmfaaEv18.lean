/- A call comes to what the callee's contract says. -/
import Derived.Test.YtcmihlhmeonmfaaEv17
namespace Go.Proofs.Ytcmihlhmeonmfaa.Ev
open Go
set_option linter.unusedVariables false
set_option linter.unusedSimpArgs false

variable {P : Program} {w w' w0 : World} {E E' : Env} {hp hp' : Hp} {G G' U A W F S : Nat → Prop} {B : Nat → Prop} {ρ : Operand → V} {ρr : Operand → Value}

def KeptA (args : List V) (blks blks' : List Blk) (E E' : Env) : Prop := ∀ j ∈ args.flatMap refs1, ∀ k', blks'[j]? = some k' → ∃ k, blks[j]? = some k ∧ (k.kind ≠ .box → k'.kind ≠ .box ∧ k.rows.length ≤ k'.rows.length) ∧ ∀ b, E.m j = some b → k'.size = k.size ∧ E'.m j = some b

/-- What a contract says of a call in the machine. -/
structure CSpec (P : Program) (g : FuncId) (args : List V) (blks : List Blk) (r : V) (blks' : List Blk) : Prop where
  enter : ∃ fn, P.funcs[g]? = some fn ∧ okEnter fn = true ∧ fn.body.isSome = true
  calls : idsOK args blks = true → ∀ (w : World) (A : Nat → Prop) (E : Env) (vals : Array Value), HpInv w (Own E (lkB blks)) A E A (lkB blks) w → VL (VR1 w E (lkB blks) A) args vals.toList →
    Calls P g vals w fun e w' => ∃ y E' G', e = .returned y ∧ HpInv w (Own E (lkB blks)) A E' G' (lkB blks') w' ∧ VR2 w' E' (lkB blks') G' r y ∧ KeptA args blks blks' E E'

theorem refs0_ren {f : Nat → Option Nat} {x : V} {i : Nat} (h : i ∈ refs0 (ren0 f x)) : ∃ j, f j = some i ∧ j ∈ refs0 x := by
  cases x with
  | ar id lo n =>
    simp only [ren0] at h
    cases hf : f id with
    | none => rw [hf] at h; simp [refs0] at h
    | some j => rw [hf] at h; simp [refs0] at h; subst h; exact ⟨id, hf, by simp [refs0]⟩
  | rf id r c =>
    simp only [ren0] at h
    cases hf : f id with
    | none => rw [hf] at h; simp [refs0] at h
    | some j => rw [hf] at h; simp [refs0] at h; subst h; exact ⟨id, hf, by simp [refs0]⟩
  | cl g caps => cases caps <;> simp [ren0, refs0] at h
  | _ => simp [ren0, refs0] at h

theorem refs1_ren {f : Nat → Option Nat} {x : V} {i : Nat} (h : i ∈ refs1 (ren1 f x)) : ∃ j, f j = some i ∧ j ∈ refs1 x := by
  cases x with
  | agg cs =>
    simp only [ren1, refs1, List.mem_flatMap, List.mem_map] at h
    obtain ⟨_, ⟨a, ha, rfl⟩, hi⟩ := h
    obtain ⟨j, h1, h2⟩ := refs0_ren hi
    exact ⟨j, h1, List.mem_flatMap.2 ⟨a, ha, h2⟩⟩
  | cl g caps =>
    simp only [ren1, refs1, List.mem_flatMap, List.mem_map] at h
    obtain ⟨_, ⟨a, ha, rfl⟩, hi⟩ := h
    obtain ⟨j, h1, h2⟩ := refs0_ren hi
    exact ⟨j, h1, List.mem_flatMap.2 ⟨a, ha, h2⟩⟩
  | ar id lo n =>
    simp only [ren1, ren0] at h
    cases hf : f id with
    | none => rw [hf] at h; simp [refs1, refs0] at h
    | some j => rw [hf] at h; simp [refs1, refs0] at h; subst h; exact ⟨id, hf, by simp [refs1, refs0]⟩
  | rf id r c =>
    simp only [ren1, ren0] at h
    cases hf : f id with
    | none => rw [hf] at h; simp [refs1, refs0] at h
    | some j => rw [hf] at h; simp [refs1, refs0] at h; subst h; exact ⟨id, hf, by simp [refs1, refs0]⟩
  | _ => simp [ren1, ren0, refs1, refs0] at h

theorem refs2_ren {f : Nat → Option Nat} {x : V} {i : Nat} (h : i ∈ refs2 (ren2 f x)) : ∃ j, f j = some i ∧ j ∈ refs2 x := by
  cases x with
  | tup vs =>
    simp only [ren2, refs2, List.mem_flatMap, List.mem_map] at h
    obtain ⟨_, ⟨a, ha, rfl⟩, hi⟩ := h
    obtain ⟨j, h1, h2⟩ := refs1_ren hi
    exact ⟨j, h1, List.mem_flatMap.2 ⟨a, ha, h2⟩⟩
  | agg cs => exact refs1_ren (x := .agg cs) h
  | cl g caps => exact refs1_ren (x := .cl g caps) h
  | ar a b c =>
    simp only [ren2, ren1, ren0] at h
    cases hf : f a with
    | none => rw [hf] at h; simp [refs2, refs1, refs0] at h
    | some j => rw [hf] at h; simp [refs2, refs1, refs0] at h; subst h; exact ⟨a, hf, by simp [refs2, refs1, refs0]⟩
  | rf a b c =>
    simp only [ren2, ren1, ren0] at h
    cases hf : f a with
    | none => rw [hf] at h; simp [refs2, refs1, refs0] at h
    | some j => rw [hf] at h; simp [refs2, refs1, refs0] at h; subst h; exact ⟨a, hf, by simp [refs2, refs1, refs0]⟩
  | _ => simp [ren2, ren1, ren0, refs2, refs1, refs0] at h

theorem refsB_ren {f : Nat → Option Nat} {k : Blk} {i : Nat} (h : i ∈ refsB (renB f k)) : ∃ j, f j = some i ∧ j ∈ refsB k := by
  unfold refsB at h
  rw [(renB_shape f k).1] at h
  split at h
  · rename_i hk
    have : (renB f k).rows = k.rows.map (·.map (ren0 f)) := by unfold renB; rw [hk]
    rw [this] at h
    simp only [List.mem_flatMap, List.mem_map] at h
    obtain ⟨_, ⟨row, hrow, rfl⟩, c, hc, hi⟩ := h
    simp only [List.mem_map] at hc
    obtain ⟨a, ha, rfl⟩ := hc
    obtain ⟨j, h1, h2⟩ := refs0_ren hi
    exact ⟨j, h1, mem_refsB hk hrow ha h2⟩
  · simp at h

theorem freeze_get : ∀ (l : List Nat) (hp : Hp) (id : Nat) (k : Blk), freeze hp l id = some k → ∃ k0, hp id = some k0 ∧ k.rows = k0.rows ∧ (k.kind = .box ↔ k0.kind = .box)
  | [], hp, id, k, h => ⟨k, h, rfl, Iff.rfl⟩
  | i :: l, hp, id, k, h => by
    simp only [freeze] at h
    obtain ⟨k1, h1, h2, h3⟩ := freeze_get l _ id k h
    by_cases hid : id = i
    · subst hid
      simp only [upd, if_true, Option.map_eq_some_iff] at h1
      obtain ⟨k0, h4, h5⟩ := h1
      subst h5
      refine ⟨k0, h4, h2, h3.trans ?_⟩
      cases hk : k0.kind <;> simp [hk]
    · simp only [upd, if_neg hid] at h1
      exact ⟨k1, h1, h2, h3⟩

theorem freeze_other : ∀ (l : List Nat) (hp : Hp) (id : Nat), id ∉ l → freeze hp l id = hp id
  | [], hp, id, _ => rfl
  | i :: l, hp, id, h => by
    simp only [List.mem_cons, not_or] at h
    simp only [freeze]
    rw [freeze_other l _ id h.2]
    simp only [upd, if_neg h.1]

theorem HpWf.freeze (h : HpWf B hp) (l : List Nat) : HpWf B (freeze hp l) := by
  intro id k hk
  obtain ⟨k0, h1, h2, h3⟩ := freeze_get l hp id k hk
  refine ⟨(h id k0 h1).1, fun j hj => (h id k0 h1).2 j ?_⟩
  unfold refsB at hj ⊢
  by_cases hb : k0.kind = .box
  · have := h3.2 hb
    rw [this] at hj
    rw [hb]
    rw [h2] at hj
    exact hj
  · have hb' : k.kind ≠ .box := fun hh => hb (h3.1 hh)
    cases hkk : k.kind with
    | box => exact absurd hkk hb'
    | arr => rw [hkk] at hj; simp at hj
    | frz => rw [hkk] at hj; simp at hj

theorem lend0_kind {x x' : V} (h : lend0 hp x = some x') : ∀ i ∈ arIds0 x, ∀ k, hp i = some k → k.kind ≠ .box := by
  cases x with
  | ar id lo n =>
    intro i hi k hk
    simp [arIds0] at hi
    subst hi
    simp only [lend0, hk] at h
    intro hb
    rw [hb] at h
    cases h
  | _ => intro i hi; simp [arIds0] at hi

theorem lendL_kind : ∀ {xs xs' : List V}, lendL hp xs = some xs' → ∀ i ∈ xs.flatMap arIds0, ∀ k, hp i = some k → k.kind ≠ .box
  | [], _, _, i, hi => by simp at hi
  | x :: xs, xs', h, i, hi => by
    simp only [lendL] at h
    split at h
    · rename_i y r h1 h2
      simp only [List.flatMap_cons, List.mem_append] at hi
      exact hi.elim (lend0_kind h1 i) (lendL_kind h2 i)
    · cases h

theorem lend1_kind {x x' : V} (h : lend1 hp x = some x') : ∀ i ∈ arIds1 x, ∀ k, hp i = some k → k.kind ≠ .box := by
  cases x with
  | agg cs =>
    simp only [lend1] at h
    split at h
    · rename_i r hr; exact lendL_kind hr
    · cases h
  | cl g caps =>
    simp only [lend1] at h
    split at h
    · rename_i r hr; exact lendL_kind hr
    · cases h
  | ar a b c => exact lend0_kind (x := .ar a b c) h
  | _ => intro i hi; simp [arIds1, arIds0] at hi

theorem lendA_kind : ∀ {xs xs' : List V}, lendA hp xs = some xs' → ∀ i ∈ xs.flatMap arIds1, ∀ k, hp i = some k → k.kind ≠ .box
  | [], _, _, i, hi => by simp at hi
  | x :: xs, xs', h, i, hi => by
    simp only [lendA] at h
    split at h
    · rename_i y r h1 h2
      simp only [List.flatMap_cons, List.mem_append] at hi
      exact hi.elim (lend1_kind h1 i) (lendA_kind h2 i)
    · cases h

theorem vl_2_1 : ∀ {xs : List V} {ys : List Value}, xs.all notTup = true → VL (VR2 w E hp G) xs ys → VL (VR1 w E hp G) xs ys
  | [], [], _, _ => trivial
  | x :: xs, y :: ys, h, hv => by
    simp only [List.all_cons, Bool.and_eq_true] at h
    refine ⟨?_, vl_2_1 h.2 hv.2⟩
    cases x with
    | tup vs => simp [notTup] at h
    | _ => exact hv.1
  | [], _ :: _, _, h => h.elim
  | _ :: _, [], _, h => h.elim

theorem blksOf_congr {hp1 : Hp} {order : List Nat} (h : ∀ id ∈ order, hp1 id = hp id) : blksOf hp1 order = blksOf hp order := by
  unfold blksOf
  apply List.map_congr_left
  intro id hid
  rw [h id hid]

theorem own_congr {hp1 : Hp} {id x : Nat} : OwnBy E id x ↔ OwnBy E id x := Iff.rfl

/-- What a call hands back, in the caller's numbers. -/
theorem wfout_call {hp1 : Hp} (hw : HpWf B hp1) {order : List Nat} (hs : ∀ id ∈ order, ∃ k, hp1 id = some k) {e b : Nat} {blks : List Blk} (he : e ≤ blks.length) (heo : e ≤ order.length) (hlen : blks.length - e ≤ 16) (r : V) :
    WfOut B b (ren2 (back order e blks.length b) r) (callHp hp1 order e b blks) := by
  have hb : ∀ j i, back order e blks.length b j = some i → More B b i := by
    intro j i h
    unfold back at h
    by_cases hje : j < e
    · rw [if_pos hje] at h
      obtain ⟨k, hk⟩ := hs i (List.mem_of_getElem? h)
      exact .inl (hw i k hk).1
    · rw [if_neg hje] at h
      split at h
      · have := Option.some.inj h
        exact .inr ⟨by omega, by omega⟩
      · cases h
  refine ⟨fun i hi => ?_, fun id k hk => ?_⟩
  · obtain ⟨j, h1, _⟩ := refs2_ren hi
    exact hb j i h1
  · rcases callHp_get he heo hk with ⟨j, kj, h1, h2, h3⟩ | ⟨h1, h2, h3⟩
    · subst h3
      refine ⟨hb j id h1, fun i hi => ?_⟩
      obtain ⟨q, h4, _⟩ := refsB_ren hi
      exact hb q i h4
    · exact ⟨.inl (hw id k h1).1, fun i hi => .inl ((hw id k h1).2 i hi)⟩

end Go.Proofs.Ytcmihlhmeonmfaa.Ev
