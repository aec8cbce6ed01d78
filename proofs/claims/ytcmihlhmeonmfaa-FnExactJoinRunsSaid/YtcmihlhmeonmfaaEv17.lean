/- A call: how the evaluator's blocks are taken back. -/
import Derived.Test.YtcmihlhmeonmfaaEv16
namespace Go.Proofs.Ytcmihlhmeonmfaa.Ev
open Go
set_option linter.unusedVariables false
set_option linter.unusedSimpArgs false

variable {P : Program} {w w' w0 : World} {E E' : Env} {hp hp' : Hp} {G G' U A W F S : Nat → Prop} {B : Nat → Prop} {ρ : Operand → V} {ρr : Operand → Value}

theorem inst_get : ∀ (l : List Blk) (hp : Hp) (b id : Nat) (k : Blk), inst hp b l id = some k → (∃ i, l[i]? = some k ∧ id = b + i) ∨ (hp id = some k ∧ ¬ (b ≤ id ∧ id < b + l.length))
  | [], hp, b, id, k, h => .inr ⟨h, by simp⟩
  | x :: l, hp, b, id, k, h => by
    simp only [inst] at h
    rcases inst_get l _ (b + 1) id k h with ⟨i, h1, h2⟩ | ⟨h1, h2⟩
    · exact .inl ⟨i + 1, by simpa using h1, by omega⟩
    · by_cases hid : id = b
      · subst hid
        simp only [upd, if_true, Option.some.injEq] at h1
        exact .inl ⟨0, by simp [h1], by omega⟩
      · simp only [upd, if_neg hid] at h1
        refine .inr ⟨h1, ?_⟩
        simp only [List.length_cons]
        omega

theorem setAt_get : ∀ (ids : List Nat) (ks : List Blk) (hp : Hp) (id : Nat) (k : Blk), setAt hp ids ks id = some k → (∃ i : Nat, ids[i]? = some id ∧ ks[i]? = some k) ∨ hp id = some k
  | [], ks, hp, id, k, h => .inr (by cases ks <;> exact h)
  | i :: ids, [], hp, id, k, h => .inr h
  | i :: ids, x :: ks, hp, id, k, h => by
    simp only [setAt] at h
    rcases setAt_get ids ks _ id k h with ⟨q, h1, h2⟩ | h1
    · exact .inl ⟨q + 1, by simpa using h1, by simpa using h2⟩
    · by_cases hid : id = i
      · subst hid
        simp only [upd, if_true, Option.some.injEq] at h1
        exact .inl ⟨0, by simp, by simp [h1]⟩
      · simp only [upd, if_neg hid] at h1
        exact .inr h1

/-- What lies at a number behind a call. -/
theorem callHp_get {hp1 : Hp} {order : List Nat} {e b : Nat} {blks : List Blk} (he : e ≤ blks.length) (heo : e ≤ order.length) {id : Nat} {k : Blk} (h : callHp hp1 order e b blks id = some k) :
    (∃ j kj, back order e blks.length b j = some id ∧ blks[j]? = some kj ∧ k = renB (back order e blks.length b) kj) ∨ (hp1 id = some k ∧ id ∉ order ∧ ¬ (b ≤ id ∧ id < b + (blks.length - e))) := by
  unfold callHp at h
  rcases inst_get _ _ _ _ _ h with ⟨i, h1, h2⟩ | ⟨h1, h2⟩
  · left
    rw [List.getElem?_drop, List.getElem?_map, Option.map_eq_some_iff] at h1
    obtain ⟨kj, h3, h4⟩ := h1
    have hlt := (List.getElem?_eq_some_iff.1 h3).1
    refine ⟨e + i, kj, ?_, h3, h4.symm⟩
    unfold back
    rw [if_neg (by omega), if_pos hlt, h2]
    congr 2
    omega
  · simp only [List.length_drop, List.length_map] at h2
    rcases setAt_get _ _ _ _ _ h1 with ⟨i, h3, h4⟩ | h3
    · left
      rw [List.getElem?_take] at h3 h4
      split at h3
      · rename_i hi
        rw [if_pos hi, List.getElem?_map, Option.map_eq_some_iff] at h4
        obtain ⟨kj, h5, h6⟩ := h4
        refine ⟨i, kj, ?_, h5, h6.symm⟩
        unfold back
        rw [if_pos hi]; exact h3
      · cases h3
    · right
      obtain ⟨h5, h6⟩ := kill_some order hp1 id k h3
      exact ⟨h5, h6, h2⟩

theorem back_inj {order : List Nat} {e n b : Nat} (hn : order.Nodup) (hnew : ∀ id ∈ order, ¬ (b ≤ id ∧ id < b + 16)) (hle : n - e ≤ 16) {j j' id : Nat} (h : back order e n b j = some id) (h' : back order e n b j' = some id) : j = j' := by
  unfold back at h h'
  split at h
  · split at h'
    · exact (List.getElem_inj (h₀ := (List.getElem?_eq_some_iff.1 h).1) (h₁ := (List.getElem?_eq_some_iff.1 h').1) hn).1 ((List.getElem?_eq_some_iff.1 h).2.trans (List.getElem?_eq_some_iff.1 h').2.symm)
    · split at h'
      · cases h'
        exact absurd ⟨by omega, by omega⟩ (hnew _ (List.mem_of_getElem? h))
      · cases h'
  · split at h
    · cases h
      split at h'
      · exact absurd ⟨by omega, by omega⟩ (hnew _ (List.mem_of_getElem? h'))
      · split at h'
        · have := Option.some.inj h'
          omega
        · cases h'
    · cases h

/-- The inverse of 'back'. -/
def unback (order : List Nat) (e n b id : Nat) : Option Nat := (List.range n).find? fun j => back order e n b j == some id

theorem unback_of {order : List Nat} {e n b : Nat} (hn : order.Nodup) (hnew : ∀ id ∈ order, ¬ (b ≤ id ∧ id < b + 16)) (hle : n - e ≤ 16) {j id : Nat} (hj : j < n) (h : back order e n b j = some id) : unback order e n b id = some j := by
  unfold unback
  cases hf : (List.range n).find? fun j => back order e n b j == some id with
  | none =>
    have := List.find?_eq_none.1 hf j (by simpa using hj)
    simp [h] at this
  | some j' =>
    have h1 := List.find?_some hf
    have h2 : back order e n b j' = some id := by simpa using h1
    rw [back_inj hn hnew hle h2 h]

theorem unback_none {order : List Nat} {e n b id : Nat} (h1 : id ∉ order) (h2 : ¬ (b ≤ id ∧ id < b + (n - e))) : unback order e n b id = none := by
  unfold unback
  refine List.find?_eq_none.2 fun j hj => ?_
  simp only [List.mem_range] at hj
  simp only [beq_iff_eq]
  intro h
  unfold back at h
  by_cases hje : j < e
  · rw [if_pos hje] at h
    exact h1 (List.mem_of_getElem? h)
  · rw [if_neg hje, if_pos hj] at h
    have := Option.some.inj h
    exact h2 ⟨by omega, by omega⟩

def envBack (E E' : Env) (order : List Nat) (e n b : Nat) : Env :=
  ⟨fun id => match unback order e n b id with | some j => E'.m j | none => E.m id, fun id => match unback order e n b id with | some j => E'.N j | none => E.N id⟩

/-- What is known of a call's blocks behind it. -/
def Kept (n : Nat) (blks blks' : List Blk) (E E' : Env) : Prop := ∀ j, j < n → ∀ k', blks'[j]? = some k' → ∃ k, blks[j]? = some k ∧ (k.kind ≠ .box → k'.kind ≠ .box ∧ k.rows.length ≤ k'.rows.length) ∧ ∀ b, E.m j = some b → k'.size = k.size ∧ E'.m j = some b

theorem call_out {hp1 : Hp} {G1 G3 Ac : Nat → Prop} {order : List Nat} {e b : Nat} {blks' : List Blk} {r : V} {y : Value} {noim : Bool}
    (hI : HpInv w0 U A E G1 hp1 w) (hw : HpWf B hp1) (hnew : ∀ j, j < 16 → ¬ B (b + j)) (hn : order.Nodup) (hs : ∀ id ∈ order, ∃ k, hp1 id = some k) (heo : e ≤ order.length) (heb : e ≤ blks'.length) (hlen : blks'.length - e ≤ 16)
    (hC : HpInv w (Own (envOf E order) (lkB (blksOf hp1 order))) Ac E' G' (lkB blks') w') (hkept : Kept e (blksOf hp1 order) blks' (envOf E order) E')
    (hv : VR2 w' E' (lkB blks') G' r y) (hnoim : noim = true → noIm r = true ∧ blks'.all noImB = true)
    (hG : ∀ b, G1 b → G3 b) (hG3 : ∀ b, G3 b → G1 b ∨ (G' b ∧ (Ac b → G1 b) ∧ noim = false)) (hG' : noim = false → ∀ b, G' b → G3 b) :
    HpInv w0 U A (envBack E E' order e blks'.length b) G3 (callHp hp1 order e b blks') w' ∧
      VR2 w' (envBack E E' order e blks'.length b) (callHp hp1 order e b blks') G3 (ren2 (back order e blks'.length b) r) y ∧
      Ext B E G1 hp1 w (envBack E E' order e blks'.length b) G3 (callHp hp1 order e b blks') w' := by
  have hordB : ∀ id ∈ order, ¬ (b ≤ id ∧ id < b + 16) := by
    intro id hid hh
    obtain ⟨k, hk⟩ := hs id hid
    have h1 := (hw id k hk).1
    have := hnew (id - b) (by omega)
    rw [show b + (id - b) = id by omega] at this
    exact this h1
  have hBn : ∀ id, B id → ¬ (b ≤ id ∧ id < b + 16) := by
    intro id hid hh
    have := hnew (id - b) (by omega)
    rw [show b + (id - b) = id by omega] at this
    exact this hid
  have hub : ∀ {j id}, j < blks'.length → back order e blks'.length b j = some id → unback order e blks'.length b id = some j := fun hj h => unback_of hn hordB hlen hj h
  have hget : ∀ {id k}, callHp hp1 order e b blks' id = some k → (∃ j kj, j < blks'.length ∧ back order e blks'.length b j = some id ∧ unback order e blks'.length b id = some j ∧ blks'[j]? = some kj ∧ k = renB (back order e blks'.length b) kj) ∨
      (hp1 id = some k ∧ id ∉ order ∧ unback order e blks'.length b id = none) := by
    intro id k h
    rcases callHp_get heb heo h with ⟨j, kj, h1, h2, h3⟩ | ⟨h1, h2, h3⟩
    · have hj := (List.getElem?_eq_some_iff.1 h2).1
      exact .inl ⟨j, kj, hj, h1, hub hj h1, h2, h3⟩
    · exact .inr ⟨h1, h2, unback_none h2 h3⟩
  -- what the callee held
  have hUc : ∀ x, Own (envOf E order) (lkB (blksOf hp1 order)) x → Own E hp1 x ∧ ∃ id ∈ order, ∃ k, hp1 id = some k ∧ liveB k = true ∧ OwnBy E id x := by
    intro x hx
    obtain ⟨id, hid, k, hk, hl, ho⟩ := own_in hs hx
    exact ⟨⟨id, k, hk, hl, ho⟩, id, hid, k, hk, hl, ho⟩
  have hfr : Fr (Own (envOf E order) (lkB (blksOf hp1 order))) w w' := hC.fr
  have hGW : ∀ x, G1 x → x < w.heap.size ∧ ¬ Own (envOf E order) (lkB (blksOf hp1 order)) x := fun x hx => ⟨(hI.g1 x hx).1, fun ho => hI.g2 x hx (hUc x ho).1⟩
  have hturn : Turn (back order e blks'.length b) E' (lkB blks') (envBack E E' order e blks'.length b) (callHp hp1 order e b blks') := by
    refine ⟨fun j id hj k' hk' => ?_⟩
    rcases hget hk' with ⟨j', kj, hj', h1, h2, h3, h4⟩ | ⟨h1, h2, h3⟩
    · have : j' = j := back_inj hn hordB hlen h1 hj
      subst this
      obtain ⟨r1, r2, r3, r4, r5⟩ := renB_shape (back order e blks'.length b) kj
      subst h4
      exact ⟨kj, h3, by rw [r1], r2, r5, by simp [envBack, h2]⟩
    · exfalso
      have hjn : j < blks'.length := by
        unfold back at hj
        split at hj
        · omega
        · split at hj
          · assumption
          · cases hj
      rw [hub hjn hj] at h3
      cases h3
  have hvr : ∀ x y, VR0 w' E' (lkB blks') G' x y → (noim = true → noIm0 x = true) → VR0 w' (envBack E E' order e blks'.length b) (callHp hp1 order e b blks') G3 (ren0 (back order e blks'.length b) x) y := by
    intro x y hx hno
    cases hnn : noim with
    | true => exact hturn.vr0' (hno hnn) hx
    | false => exact hturn.vr0 (hG' hnn) hx
  have hres : VR2 w' (envBack E E' order e blks'.length b) (callHp hp1 order e b blks') G3 (ren2 (back order e blks'.length b) r) y := by
    cases hnn : noim with
    | true => exact hturn.vr2' (hnoim hnn).1 hv
    | false => exact hturn.vr2 (hG' hnn) hv
  -- old values
  have hold : ∀ x y, (∀ id ∈ refs0 x, B id) → VR0 w E hp1 G1 x y → VR0 w' (envBack E E' order e blks'.length b) (callHp hp1 order e b blks') G3 x y := by
    intro x y hB hx
    have hsame : Same G1 w w' := hfr.same hGW
    have hshape : ∀ id k', B id → callHp hp1 order e b blks' id = some k' → ∃ k, hp1 id = some k ∧ (k.kind ≠ .box → k'.kind ≠ .box ∧ k.rows.length ≤ k'.rows.length) ∧ ∀ bb, E.m id = some bb → k'.size = k.size ∧ (envBack E E' order e blks'.length b).m id = some bb := by
      intro id k' hid hk'
      rcases hget hk' with ⟨j, kj, hj, h1, h2, h3, h4⟩ | ⟨h1, h2, h3⟩
      · have hje : j < e ∧ order[j]? = some id := by
          unfold back at h1
          by_cases hje : j < e
          · rw [if_pos hje] at h1
            exact ⟨hje, h1⟩
          · rw [if_neg hje, if_pos hj] at h1
            have := Option.some.inj h1
            exact absurd ⟨by omega, by omega⟩ (hBn _ hid)
        obtain ⟨k0, q1, q2, q5⟩ := hkept j hje.1 kj h3
        obtain ⟨id', q6, q7⟩ := blksOf_get (hp := hp1) (order := order) (j := j) (k' := k0) q1
        rw [hje.2] at q6
        cases q6
        obtain ⟨k, hk⟩ := hs id (List.mem_of_getElem? hje.2)
        rw [hk, Option.getD_some] at q7
        obtain ⟨r1, r2, r3, r4, r5⟩ := renB_shape (idx order) k
        obtain ⟨s1, s2, s3, s4, s5⟩ := renB_shape (back order e blks'.length b) kj
        subst h4
        subst q7
        refine ⟨k, hk, by rw [s1, s5, ← r1, ← r5]; exact q2, fun bb hbb => ?_⟩
        obtain ⟨p1, p2⟩ := q5 bb (by simp [envOf, hje.2, hbb])
        refine ⟨by rw [s2, p1, r2], ?_⟩
        simp only [envBack, h2]
        exact p2
      · exact ⟨k', h1, fun h => ⟨h, Nat.le_refl _⟩, fun bb hbb => ⟨rfl, by simpa [envBack, h3] using hbb⟩⟩
    cases x with
    | ar id lo n =>
      obtain ⟨a, cap, hy, hk⟩ := hx
      refine ⟨a, cap, hy, fun k' hk' => ?_⟩
      obtain ⟨k, h1, h2, h5⟩ := hshape id k' (hB id (by simp [refs0])) hk'
      obtain ⟨q1, q2, q3⟩ := hk k h1
      refine ⟨(h2 q1).1, Nat.le_trans q2 (h2 q1).2, q3.imp (fun h => h) ?_⟩
      rintro ⟨bb, cur, ty, fz, s1, s2, s3, s4, s5⟩
      obtain ⟨h3, h5⟩ := h5 bb s1
      obtain ⟨cur', fz', s6, s7⟩ := hfr.shape bb cur ty fz s4
      exact ⟨bb, cur', ty, fz', h5, by rw [h3]; exact s2, s3, s6, by rw [h3, s7]; exact s5⟩
    | rf id r c =>
      obtain ⟨bb, o, hy, hk⟩ := hx
      refine ⟨bb, o, hy, fun k' hk' => ?_⟩
      obtain ⟨k, h1, h2, h5⟩ := hshape id k' (hB id (by simp [refs0])) hk'
      obtain ⟨q2, q3⟩ := hk k h1
      obtain ⟨h3, h5⟩ := h5 bb q2
      exact ⟨h5, by rw [h3]; exact q3⟩
    | ir row c =>
      obtain ⟨bb, off, f, hg, hy, hc⟩ := hx
      refine ⟨bb, off, f, hG bb hg, hy, fun j x hx => ?_⟩
      obtain ⟨h1, h2⟩ := hc j x hx
      exact ⟨by rw [cell_same (hfr.block bb (hGW bb hg).1 (hGW bb hg).2)]; exact h1, h2.same hsame hG⟩
    | v a => exact Rep.same hx hsame hG
    | em => exact Rep.same hx hsame hG
    | im rows => exact Rep.same hx hsame hG
    | any => exact trivial
    | agg cs => exact hx.elim
    | tup vs => exact hx.elim
    | cl f caps => cases caps <;> exact hx
  have hc1 : ∀ x, Own E' (lkB blks') x → x < w'.heap.size ∧ (Own (envOf E order) (lkB (blksOf hp1 order)) x ∨ w.heap.size ≤ x) := fun x hx => hC.o1 x hx
  -- who holds a block behind the call
  have hown : ∀ id k x, callHp hp1 order e b blks' id = some k → liveB k = true → OwnBy (envBack E E' order e blks'.length b) id x →
      (∃ j kj, back order e blks'.length b j = some id ∧ blks'[j]? = some kj ∧ liveB kj = true ∧ OwnBy E' j x) ∨ (hp1 id = some k ∧ id ∉ order ∧ OwnBy E id x) := by
    intro id k x hk hl ho
    rcases hget hk with ⟨j, kj, hj, h1, h2, h3, h4⟩ | ⟨h1, h2, h3⟩
    · left
      refine ⟨j, kj, h1, h3, ?_, ?_⟩
      · subst h4; unfold liveB at hl ⊢; rw [(renB_shape _ kj).1] at hl; exact hl
      · rcases ho with ho | ho
        · left; simpa [envBack, h2] using ho
        · right; simpa [envBack, h2] using ho
    · right
      refine ⟨h1, h2, ?_⟩
      rcases ho with ho | ho
      · left; simpa [envBack, h3] using ho
      · right; simpa [envBack, h3] using ho
  have hG1c : ∀ x, G1 x → ¬ Own E' (lkB blks') x := by
    intro x hg ho
    rcases (hc1 x ho).2 with h | h
    · exact hI.g2 x hg (hUc x h).1
    · have := (hI.g1 x hg).1; omega
  have hrest : ∀ id k x, hp1 id = some k → liveB k = true → id ∉ order → OwnBy E id x → ¬ Own E' (lkB blks') x := by
    intro id k x hk hl hid ho hc
    rcases (hc1 x hc).2 with h | h
    · obtain ⟨_, id', hid', k', hk', hl', ho'⟩ := hUc x h
      exact hid (hI.dis id k id' k' hk hl hk' hl' x ho ho' ▸ hid')
    · have := (hI.o1 x ⟨id, k, hk, hl, ho⟩).1; omega
  refine ⟨⟨hI.fr.then hfr (fun x hx => (hI.o1 x (hUc x hx).1).2), ?_, ?_, ?_, ?_, ?_, ?_⟩, hres, ⟨hold⟩⟩
  · intro x hx
    rcases hG3 x hx with hg | ⟨hg, ha, _⟩
    · have := hI.g1 x hg; exact ⟨Nat.lt_of_lt_of_le this.1 hfr.size, this.2⟩
    · have h1 := hC.g1 x hg
      refine ⟨h1.1, ?_⟩
      rcases h1.2 with h | h | h
      · exact (hI.g1 x (ha h)).2
      · exact .inr (hI.o1 x (hUc x h).1).2
      · exact .inr (.inr (Nat.le_trans hI.fr.size h))
  · rintro x hx ⟨id, k, hk, hl, ho⟩
    rcases hown id k x hk hl ho with ⟨j, kj, h1, h2, h3, h4⟩ | ⟨h1, h2, h3⟩
    · have hoc : Own E' (lkB blks') x := ⟨j, kj, h2, h3, h4⟩
      rcases hG3 x hx with hg | ⟨hg, _, _⟩
      · exact hG1c x hg hoc
      · exact hC.g2 x hg hoc
    · rcases hG3 x hx with hg | ⟨hg, ha, _⟩
      · exact hI.g2 x hg ⟨id, k, h1, hl, h3⟩
      · rcases (hC.g1 x hg).2 with h | h | h
        · exact hI.g2 x (ha h) ⟨id, k, h1, hl, h3⟩
        · obtain ⟨_, id', hid', k', hk', hl', ho'⟩ := hUc x h
          exact h2 (hI.dis id k id' k' h1 hl hk' hl' x h3 ho' ▸ hid')
        · have := (hI.o1 x ⟨id, k, h1, hl, h3⟩).1; omega
  · rintro x ⟨id, k, hk, hl, ho⟩
    rcases hown id k x hk hl ho with ⟨j, kj, h1, h2, h3, h4⟩ | ⟨h1, h2, h3⟩
    · have := hc1 x ⟨j, kj, h2, h3, h4⟩
      refine ⟨this.1, ?_⟩
      rcases this.2 with h | h
      · exact (hI.o1 x (hUc x h).1).2
      · exact .inr (Nat.le_trans hI.fr.size h)
    · have := hI.o1 x ⟨id, k, h1, hl, h3⟩
      exact ⟨Nat.lt_of_lt_of_le this.1 hfr.size, this.2⟩
  · intro id k id' k' hk hl hk' hl' x ho ho'
    rcases hown id k x hk hl ho with ⟨j, kj, h1, h2, h3, h4⟩ | ⟨h1, h2, h3⟩
    · rcases hown id' k' x hk' hl' ho' with ⟨j', kj', h1', h2', h3', h4'⟩ | ⟨h1', h2', h3'⟩
      · have := hC.dis j kj j' kj' h2 h3 h2' h3' x h4 h4'
        subst this
        rw [h1] at h1'
        exact Option.some.inj h1'
      · exact absurd ⟨j, kj, h2, h3, h4⟩ (hrest id' k' x h1' hl' h2' h3')
    · rcases hown id' k' x hk' hl' ho' with ⟨j', kj', h1', h2', h3', h4'⟩ | ⟨h1', h2', h3'⟩
      · exact absurd ⟨j', kj', h2', h3', h4'⟩ (hrest id k x h1 hl h2 h3)
      · exact hI.dis id k id' k' h1 hl h1' hl' x h3 h3'
  · intro id k x hk hl hm hN
    rcases hget hk with ⟨j, kj, hj, h1, h2, h3, h4⟩ | ⟨h1, h2, h3⟩
    · refine hC.self j kj x h3 ?_ (by simpa [envBack, h2] using hm) (by simpa [envBack, h2] using hN)
      subst h4; unfold liveB at hl ⊢; rw [(renB_shape _ kj).1] at hl; exact hl
    · exact hI.self id k x h1 hl (by simpa [envBack, h3] using hm) (by simpa [envBack, h3] using hN)
  · intro id k hk
    rcases hget hk with ⟨j, kj, hj, h1, h2, h3, h4⟩ | ⟨h1, h2, h3⟩
    · subst h4
      have hnb : noim = true → noImB kj = true := fun hh => List.all_eq_true.1 (hnoim hh).2 kj (List.mem_of_getElem? h3)
      refine (hC.blk j kj h3).turn (by simp [envBack, h2]) (fun x hx => by simpa [envBack, h2] using hx) (fun hkind x hx => ?_) (fun hkind row hrow x hx y hv => hvr x y hv fun hh => ?_)
      · cases hnn : noim with
        | true =>
          have := hnb hnn
          unfold noImB at this
          rcases hkind with hkind | ⟨hkind, hd⟩
          · simp [hkind] at this
          · simp [hkind, hd] at this
        | false => exact hG' hnn x hx
      · have := hnb hh
        unfold noImB at this
        rw [hkind] at this
        exact List.all_eq_true.1 (List.all_eq_true.1 this row hrow) x hx
    · have hW : Loose E (kill hp1 order) G1 (Own (envOf E order) (lkB (blksOf hp1 order))) := by
        intro x hx
        obtain ⟨q1, id', hid', k', hk', hl', ho'⟩ := hUc x hx
        have hf := hI.freedL (l := order) (x := x) ⟨id', hid', k', hk', hl', ho'⟩
        exact ⟨hf.2.1, hf.2.2.1⟩
      have hk2 : kill hp1 order id = some k := by rw [kill_other order hp1 id h2]; exact h1
      have hblk := hI.blk id k h1
      have hI2 := (hI.dropL (B := B) order).1
      have hNlt := hI2.N_lt hW hk2
      have hMn := hI2.M_nW hW hk2
      unfold BlkRel at hblk ⊢
      cases hkk : k.kind with
      | box =>
        simp only [hkk] at hblk ⊢
        obtain ⟨bb, row, cur, q1, q2, q3, q4, q5, q6⟩ := hblk
        exact ⟨bb, row, cur, by simpa [envBack, h3] using q1, hfr.at (hMn bb q1) q2, q3, q4, q5, q6.mono fun x hx y hxy => ⟨hold x y (fun i hi => (hw id k h1).2 i (mem_refsB hkk (by rw [q3]; simp) hx hi)) hxy.1, hxy.2⟩⟩
      | arr =>
        simp only [hkk] at hblk ⊢
        rcases hblk with ⟨q1, q2⟩ | ⟨bb, cur, cap, q1, q2, q3, q4, q5, q6, q7, q8⟩
        · exact .inl ⟨q1, by simpa [envBack, h3] using q2⟩
        · refine .inr ⟨bb, cur, cap, by simpa [envBack, h3] using q1, hfr.at (hMn bb q1) q2, q3, q4, q5, q6, q7, fun i q row x hi hq => ?_⟩
          obtain ⟨u, hu, hr⟩ := q8 i q row x hi hq
          refine ⟨u, hu, ?_⟩
          cases hd : k.deep with
          | true =>
            simp only [hd, if_true] at hr ⊢
            exact hr.same (hfr.same fun x hx => (hNlt x hx).elim (fun h => h) (fun h => by simp [hkk, hd] at h)) (fun x hx => by simpa [envBack, h3] using hx)
          | false =>
            simp only [hd, Bool.false_eq_true, if_false] at hr ⊢
            exact hr.same (hfr.same hGW) hG
      | frz =>
        simp only [hkk] at hblk ⊢
        rcases hblk with ⟨q1, q2⟩ | ⟨bb, cur, cap, fz, q1, q1', q2, q3, q4, q5, q6, q7, q8⟩
        · exact .inl ⟨q1, by simpa [envBack, h3] using q2⟩
        · refine .inr ⟨bb, cur, cap, fz, by simpa [envBack, h3] using q1, hG bb q1', hfr.at (hMn bb q1) q2, q3, q4, q5, q6, q7, fun i q row x hi hq => ?_⟩
          obtain ⟨u, hu, hr⟩ := q8 i q row x hi hq
          exact ⟨u, hu, hr.same (hfr.same hGW) hG⟩

end Go.Proofs.Ytcmihlhmeonmfaa.Ev
