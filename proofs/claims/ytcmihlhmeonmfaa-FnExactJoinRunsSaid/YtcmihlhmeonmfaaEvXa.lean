/- The typed evaluator and the evaluator: calls. -/
import Derived.Test.YtcmihlhmeonmfaaEvX9
namespace Go.Proofs.Ytcmihlhmeonmfaa.Ev
open Go
set_option linter.unusedVariables false
set_option linter.unusedSimpArgs false

/-- What a function hands back. -/
structure ResRel (res : List Item) (y : denI res) (r : V) (blks : List Blk) : Prop where
  val : RV2 (encI id 0 res y).2 (tupT ((encI id 0 res y).1.map (·.2))) r
  blk : RH (encI id 0 res y).2 (lkB blks)
  len : blks.length = (encI id 0 res y).2.length
  refs : ∀ s j isb, Item.slot s (.ref j isb) ∈ res → j < blks.length

/-- A function that is known. -/
def EntOK (R : Rel) (E : Ent) : Prop := ∀ x y args blks, E.F x = some y → RS (encSt E.a.params x) (entry args blks) → idsOK args blks = true → args.length = E.a.params.length → (args.flatMap refs1).eraseDups.length = nBlks E.a.params →
  ∃ r blks', R E.a.g args blks r blks' ∧ ResRel E.a.res y r blks'

/-- Numbers turned, values told anew. -/
theorem turn_val {H H' : THp} {f g : Nat → Nat} {φ : Nat → Option Nat} {n : Nat} (hφ : ∀ j, j < n → φ (f j) = some (g j)) (hlen : ∀ j, j < n → ∀ b', getB H' (g j) = some b' → ∃ b, getB H (f j) = some b ∧ blen b = blen b') {k : Nat} {a : AS} {xa : a.den} {y : V}
    (href : ∀ j isb, a = .ref j isb → j < n) (hnew : newB a xa ≠ none → k < n) (hv : RV2 H (encSV f k a xa) y) : RV1 H' (encSV g k a xa) (ren1 φ y) := by
  have ow : ∀ j, j < n → RV0 H (.ow (f j)) y → RV1 H' (.ow (g j)) (ren1 φ y) := by
    intro j hj h
    obtain ⟨m, rfl, hl⟩ := h
    have : ren1 φ (.ar (f j) 0 m) = .ar (g j) 0 m := by simp only [ren1, ren0, hφ j hj]
    rw [this]
    refine ⟨m, rfl, fun b' hb' => ?_⟩
    obtain ⟨b, h1, h2⟩ := hlen j hj b' hb'
    rw [← h2]; exact hl b h1
  cases a with
  | cell c =>
    have hv0 : RV0 H (encC c xa) y := by cases c <;> exact hv
    have : ren1 φ y = y := by
      cases c with
      | int k => have : y = _ := hv0; subst this; rfl
      | bool => have : y = _ := hv0; subst this; rfl
      | str => have : y = _ := hv0; subst this; rfl
      | im t => rcases hv0 with ⟨_, rfl⟩ | ⟨_, rfl, _⟩ <;> rfl
    rw [this]
    exact (encC_any (hp' := H') hv0).to1
  | agg cs =>
    obtain ⟨us, rfl, hc⟩ := hv
    obtain ⟨q1, q2, q3⟩ := encCs_refs hc
    exact ⟨us.map (ren0 φ), rfl, by rw [q2]; exact q3 _⟩
  | new b =>
    have hk := hnew (by simp [newB])
    cases b with
    | arr ty deep t => exact ow k hk hv
    | box ty cs =>
      have hy : y = .rf (f k) 0 0 := hv
      subst hy
      show ren1 φ (.rf (f k) 0 0) = .rf (g k) 0 0
      simp only [ren1, ren0, hφ k hk]
  | ref j isb =>
    have hj := href j isb rfl
    cases isb with
    | false => exact ow j hj hv
    | true =>
      have hy : y = .rf (f j) 0 0 := hv
      subst hy
      show ren1 φ (.rf (f j) 0 0) = .rf (g j) 0 0
      simp only [ren1, ren0, hφ j hj]
  | clo fn =>
    obtain ⟨us, rfl, hc⟩ := (show ∃ us, y = V.cl fn us ∧ RC (RV0 H) [] us from hv)
    cases us with
    | nil => exact ⟨[], rfl, trivial⟩
    | cons a l => exact hc.elim

theorem inst_at : ∀ (l : List Blk) (hp : Hp) (b i : Nat), inst hp b l i = if b ≤ i ∧ i < b + l.length then l[i - b]? else hp i
  | [], hp, b, i => by rw [if_neg (by simp)]; rfl
  | x :: l, hp, b, i => by
    simp only [inst]
    rw [inst_at l]
    by_cases h : b + 1 ≤ i ∧ i < b + 1 + l.length
    · rw [if_pos h, if_pos (by simp only [List.length_cons]; omega)]
      rw [show i - b = (i - (b + 1)) + 1 by omega]
      rfl
    · rw [if_neg h]
      unfold upd
      by_cases hi : i = b
      · subst hi
        rw [if_pos rfl, if_pos (by simp)]
        simp
      · rw [if_neg hi, if_neg (by simp only [List.length_cons]; omega)]

theorem setAt_other : ∀ (ids : List Nat) (ks : List Blk) (hp : Hp) (i : Nat), i ∉ ids → setAt hp ids ks i = hp i
  | [], ks, hp, i, _ => by cases ks <;> rfl
  | _ :: _, [], hp, i, _ => rfl
  | id :: ids, k :: ks, hp, i, h => by
    simp only [List.mem_cons, not_or] at h
    simp only [setAt]
    rw [setAt_other ids ks _ i h.2]
    simp [upd, h.1]

theorem setAt_at : ∀ (ids : List Nat) (ks : List Blk) (hp : Hp) (j : Nat) (id : Nat), ids.Nodup → ids[j]? = some id → j < ks.length → setAt hp ids ks id = ks[j]?
  | [], _, _, _, _, _, h, _ => by simp at h
  | _ :: _, [], _, _, _, _, _, h => by simp at h
  | i :: ids, k :: ks, hp, j, id, hn, h, hl => by
    simp only [List.nodup_cons] at hn
    simp only [setAt]
    cases j with
    | zero =>
      simp at h
      subst h
      rw [setAt_other ids ks _ i hn.1]
      simp [upd]
    | succ j =>
      simp only [List.getElem?_cons_succ] at h ⊢
      exact setAt_at ids ks _ j id hn.2 h (by simpa using hl)

theorem callHp_at {hp1 : Hp} {order : List Nat} {b : Nat} {blks : List Blk} {j : Nat} {k : Blk} (hn : order.Nodup) (hlow : ∀ id ∈ order, id < b) (hle : order.length ≤ blks.length) (hj : blks[j]? = some k) :
    callHp hp1 order order.length b blks (backT order order.length b j) = some (renB (back order order.length blks.length b) k) := by
  have hjl := (List.getElem?_eq_some_iff.1 hj).1
  unfold callHp
  rw [inst_at]
  by_cases h : j < order.length
  · have ho : order[j]? = some order[j] := List.getElem?_eq_getElem h
    have hb : backT order order.length b j = order[j] := by
      unfold backT
      rw [ho]
      have hb : Nat.blt j order.length = true := Nat.ble_eq_true_of_le h
      simp only [hb, cond_true]
    rw [hb]
    have hlt := hlow order[j] (List.getElem_mem h)
    rw [if_neg (by omega)]
    rw [setAt_at _ _ _ j _ (by rw [List.take_length]; exact hn) (by rw [List.take_length]; exact ho) (by simp; omega)]
    rw [List.getElem?_take, if_pos h, List.getElem?_map, hj]
    rfl
  · have hb : backT order order.length b j = b + (j - order.length) := by
      unfold backT
      rw [List.getElem?_eq_none (by omega)]
    rw [hb]
    rw [if_pos (by simp; omega)]
    rw [List.getElem?_drop, List.getElem?_map, show order.length + (b + (j - order.length) - b) = j by omega, hj]
    rfl

theorem callHp_other {hp1 : Hp} {order : List Nat} {b : Nat} {blks : List Blk} {i : Nat} (h1 : i ∉ order) (h2 : ¬ (b ≤ i ∧ i < b + (blks.length - order.length))) : callHp hp1 order order.length b blks i = hp1 i := by
  unfold callHp
  rw [inst_at, if_neg (by simpa using h2), setAt_other _ _ _ _ (by rw [List.take_length]; exact h1), kill_other _ _ _ h1]

/-- How a list of values is turned. -/
theorem turn_list {H H' : THp} {f g : Nat → Nat} {φ : Nat → Option Nat} {n : Nat} (hφ : ∀ j, j < n → φ (f j) = some (g j)) (hlen : ∀ j, j < n → ∀ b', getB H' (g j) = some b' → ∃ b, getB H (f j) = some b ∧ blen b = blen b') :
    ∀ (l : List Item) (k : Nat) (d : denI l) (ys : List V), (∀ s j isb, Item.slot s (.ref j isb) ∈ l → j < n) → k + (encI f k l d).2.length ≤ n → RC (RV2 H) ((encI f k l d).1.map (·.2)) ys → RC (RV1 H') ((encI g k l d).1.map (·.2)) (ys.map (ren1 φ))
  | [], k, d, ys, _, _, h => by
    cases ys with
    | nil => exact trivial
    | cons a l => exact h.elim
  | .root b :: l, k, d, ys, hr, hk, h => by
    simp only [encI, List.length_cons] at h hk ⊢
    exact turn_list hφ hlen l (k + 1) (tlI _ l d) ys (fun s j isb hm => hr s j isb (by simp [hm])) (by omega) h
  | .slot s a :: l, k, d, ys, hr, hk, h => by
    have hr0 : ∀ j isb, a = .ref j isb → j < n := fun j isb he => hr s j isb (by simp [he])
    have hr' : ∀ s j isb, Item.slot s (.ref j isb) ∈ l → j < n := fun s j isb hm => hr s j isb (by simp [hm])
    simp only [encI] at h hk ⊢
    cases hn : newB a (hdI (.slot s a) l d) with
    | none =>
      simp only [hn] at h hk ⊢
      cases ys with
      | nil => exact h.elim
      | cons y ys => exact ⟨turn_val hφ hlen hr0 (fun hh => absurd hn hh) h.1, turn_list hφ hlen l k (tlI _ l d) ys hr' hk h.2⟩
    | some b =>
      simp only [hn, List.length_cons] at h hk ⊢
      cases ys with
      | nil => exact h.elim
      | cons y ys => exact ⟨turn_val hφ hlen hr0 (fun _ => by omega) h.1, turn_list hφ hlen l (k + 1) (tlI _ l d) ys hr' (by omega) h.2⟩

theorem enc_len {f g : Nat → Nat} : ∀ (l : List Item) (k : Nat) (d : denI l), (encI f k l d).2.length = (encI g k l d).2.length ∧ (encI f k l d).1.length = (encI g k l d).1.length
  | [], k, d => ⟨rfl, rfl⟩
  | .root b :: l, k, d => by
    obtain ⟨h1, h2⟩ := enc_len (f := f) (g := g) l (k + 1) (tlI _ l d)
    simp only [encI, List.length_cons, h1, h2, and_self]
  | .slot s a :: l, k, d => by
    simp only [encI]
    cases hn : newB a (hdI (.slot s a) l d) with
    | none =>
      obtain ⟨h1, h2⟩ := enc_len (f := f) (g := g) l k (tlI _ l d)
      simp only [List.length_cons, h1, h2, and_self]
    | some b =>
      obtain ⟨h1, h2⟩ := enc_len (f := f) (g := g) l (k + 1) (tlI _ l d)
      simp only [List.length_cons, h1, h2, and_self]

theorem enc_blk {f g : Nat → Nat} : ∀ (l : List Item) (k : Nat) (d : denI l) (i : Nat), ∃ o : Option TB, ((encI f k l d).2[i]?).map (·.2) = ((encI g k l d).2[i]?).map (·.2) ∧ (∀ p, (encI f k l d).2[i]? = some p → p.1 = f (k + i) ∧ ∃ b, Enc b ∧ p.2 = some b)
  | [], k, d, i => ⟨none, rfl, fun p hp => by simp [encI] at hp⟩
  | .root b :: l, k, d, i => by
    simp only [encI]
    cases i with
    | zero => exact ⟨none, rfl, fun p hp => by simp at hp; subst hp; exact ⟨rfl, _, ⟨b, _, rfl⟩, rfl⟩⟩
    | succ i =>
      obtain ⟨o, h1, h2⟩ := enc_blk (f := f) (g := g) l (k + 1) (tlI _ l d) i
      refine ⟨o, by simpa using h1, fun p hp => ?_⟩
      obtain ⟨q1, q2⟩ := h2 p (by simpa using hp)
      exact ⟨by rw [q1]; congr 1; omega, q2⟩
  | .slot s a :: l, k, d, i => by
    simp only [encI]
    cases hn : newB a (hdI (.slot s a) l d) with
    | none => exact enc_blk (f := f) (g := g) l k (tlI _ l d) i
    | some b =>
      cases i with
      | zero => exact ⟨none, rfl, fun p hp => by simp at hp; subst hp; exact ⟨rfl, _, newB_enc hn, rfl⟩⟩
      | succ i =>
        obtain ⟨o, h1, h2⟩ := enc_blk (f := f) (g := g) l (k + 1) (tlI _ l d) i
        refine ⟨o, by simpa using h1, fun p hp => ?_⟩
        obtain ⟨q1, q2⟩ := h2 p (by simpa using hp)
        exact ⟨by rw [q1]; congr 1; omega, q2⟩

/-- The block with a number. -/
theorem enc_get {f : Nat → Nat} {l : List Item} {d : denI l} {i : Nat} {p : Nat × Option TB} (hp : (encI f 0 l d).2[i]? = some p) : p.1 = f i ∧ ∃ b, Enc b ∧ p.2 = some b := by
  obtain ⟨_, _, h⟩ := enc_blk (f := f) (g := f) l 0 d i
  simpa using h p hp

theorem getB_idx : ∀ {l : THp} {i : Nat} {b : TB}, getB l i = some b → ∃ j : Nat, l[j]? = some (i, some b)
  | [], _, _, h => by cases h
  | (k, x) :: l, i, b, h => by
    rw [getB_cons] at h
    split at h
    · rename_i he; subst he; subst h; exact ⟨0, rfl⟩
    · obtain ⟨j, hj⟩ := getB_idx h; exact ⟨j + 1, by simpa using hj⟩

theorem keys_nodup {f : Nat → Nat} {l : List Item} {d : denI l} (hf : ∀ i j, i < (encI f 0 l d).2.length → j < (encI f 0 l d).2.length → f i = f j → i = j) : ((encI f 0 l d).2.map (·.1)).Nodup := by
  refine List.pairwise_iff_getElem.2 fun i j hi hj hij he => ?_
  simp only [List.length_map] at hi hj
  simp only [List.getElem_map] at he
  have h1 := (enc_get (List.getElem?_eq_getElem hi)).1
  have h2 := (enc_get (List.getElem?_eq_getElem hj)).1
  rw [h1, h2] at he
  have := hf i j hi hj he
  omega

theorem getB_enc {f : Nat → Nat} {l : List Item} {d : denI l} {i : Nat} {b : TB} (hf : ∀ i j, i < (encI f 0 l d).2.length → j < (encI f 0 l d).2.length → f i = f j → i = j) (h : ((encI f 0 l d).2[i]?).map (·.2) = some (some b)) : getB (encI f 0 l d).2 (f i) = some b := by
  simp only [Option.map_eq_some_iff] at h
  obtain ⟨p, hp, hb⟩ := h
  have h1 := (enc_get hp).1
  refine getB_of_mem (keys_nodup hf) ?_
  have : p = (f i, some b) := by rw [← h1, ← hb]
  rw [← this]
  exact List.mem_of_getElem? hp

theorem getB_append {l m : THp} {i : Nat} : getB (l ++ m) i = if i ∈ l.map (·.1) then getB l i else getB m i := by
  induction l with
  | nil => simp
  | cons a l ih =>
    obtain ⟨k, x⟩ := a
    rw [List.cons_append, getB_cons, ih, getB_cons]
    by_cases h : i = k
    · simp [h]
    · simp only [List.map_cons, List.mem_cons, h, false_or, if_false]

end Go.Proofs.Ytcmihlhmeonmfaa.Ev
