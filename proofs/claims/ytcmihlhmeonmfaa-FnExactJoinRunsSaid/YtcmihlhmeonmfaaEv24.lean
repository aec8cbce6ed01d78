/- Blocks numbered anew: the heads of loops, and results. -/
import Derived.Test.YtcmihlhmeonmfaaEvN
namespace Go.Proofs.Ytcmihlhmeonmfaa.Ev
open Go
set_option linter.unusedVariables false
set_option linter.unusedSimpArgs false

variable {P : Program} {w w' w0 : World} {E E' E0 : Env} {hp hp' hp0 : Hp} {G G' G0 U A W F S : Nat → Prop} {B B' : Nat → Prop} {ρ : Operand → V} {ρr : Operand → Value}

theorem turn_inv (hI : HpInv w0 U A E G hp w) {order : List Nat} (hn : order.Nodup) (hs : ∀ id ∈ order, ∃ k, hp id = some k) :
    HpInv w0 U A (envOf E order) G (lkB (blksOf hp order)) w := by
  have h := call_in (lent := []) hI hn hs (fun _ _ h => by simp at h)
  have hG : (fun b => G b ∨ Held E hp [] b) = G := by
    funext b
    exact propext ⟨fun h => h.elim (fun h => h) (fun ⟨i, hi, _⟩ => by simp at hi), .inl⟩
  rw [hG] at h
  refine ⟨hI.fr, hI.g1, h.g2, fun b ho => ?_, h.dis, h.self, h.blk⟩
  obtain ⟨id, hid, k, hk, hl, ho'⟩ := own_in hs ho
  exact hI.o1 b ⟨id, k, hk, hl, ho'⟩

theorem idx_lt {order : List Nat} {id j : Nat} (h : idx order id = some j) : j < order.length := (List.getElem?_eq_some_iff.1 (idx_some h)).1

theorem turn_wf {order : List Nat} (hs : ∀ id ∈ order, ∃ k, hp id = some k) : HpWf (fun id => id < order.length) (lkB (blksOf hp order)) := by
  intro j k' hj
  obtain ⟨id, h1, h2⟩ := blksOf_get hj
  refine ⟨(List.getElem?_eq_some_iff.1 h1).1, fun i hi => ?_⟩
  subst h2
  obtain ⟨r1, r2, r3, r4, r5⟩ := renB_shape (idx order) ((hp id).getD default)
  unfold refsB at hi
  rw [r1] at hi
  split at hi
  · rename_i hk
    unfold renB at hi
    rw [hk] at hi
    simp only [List.mem_flatMap, List.mem_map] at hi
    obtain ⟨row, ⟨row0, hr0, rfl⟩, x, hx, hi⟩ := hi
    obtain ⟨x0, hx0, rfl⟩ := List.mem_map.1 hx
    obtain ⟨j', hj', _⟩ := refs0_ren hi
    exact idx_lt hj'
  · simp at hi

theorem take_range {order : List Nat} {e : Nat} (hn : order.Nodup) (h : order.take e = List.range e) {j : Nat} (hj : j < e) : order[j]? = some j ∧ idx order j = some j := by
  have h1 : (order.take e)[j]? = some j := by rw [h]; simp [hj]
  rw [List.getElem?_take, if_pos hj] at h1
  exact ⟨h1, idx_get hn h1⟩

/-- Values that name what was handed in alone stand as they stood. -/
theorem turn_ext {order : List Nat} {e : Nat} (hn : order.Nodup) (hs : ∀ id ∈ order, ∃ k, hp id = some k) (h : order.take e = List.range e) :
    Ext (fun j => j < e) E G hp w (envOf E order) G (lkB (blksOf hp order)) w := by
  refine ⟨fun x y hx hv => ?_⟩
  have := (turn_in (E := E) hs).vr0 (fun b hb => hb) hv
  have hren : ren0 (idx order) x = x := by
    cases x with
    | ar id lo n => simp only [ren0, (take_range hn h (hx id (by simp [refs0]))).2]
    | rf id lo n => simp only [ren0, (take_range hn h (hx id (by simp [refs0]))).2]
    | agg cs => exact hv.elim
    | tup cs => exact hv.elim
    | cl f cs => cases cs with | nil => rfl | cons a l => exact hv.elim
    | _ => rfl
  rw [hren] at this
  exact this

theorem refs2_ren_lt {order : List Nat} {x : V} : ∀ i ∈ refs2 (ren2 (idx order) x), i < order.length := by
  have h0 : ∀ x, ∀ i ∈ refs0 (ren0 (idx order) x), i < order.length := fun x i hi => by
    obtain ⟨j, hj, _⟩ := refs0_ren hi
    exact idx_lt hj
  have h1 : ∀ x, ∀ i ∈ refs1 (ren1 (idx order) x), i < order.length := by
    intro x i hi
    cases x with
    | agg cs =>
      obtain ⟨z, hz, hi⟩ := List.mem_flatMap.1 hi
      obtain ⟨z0, _, rfl⟩ := List.mem_map.1 hz
      exact h0 z0 i hi
    | cl f cs =>
      obtain ⟨z, hz, hi⟩ := List.mem_flatMap.1 hi
      obtain ⟨z0, _, rfl⟩ := List.mem_map.1 hz
      exact h0 z0 i hi
    | ar a b c =>
      have hr : refs1 (ren1 (idx order) (.ar a b c)) = refs0 (ren0 (idx order) (.ar a b c)) := by
        simp only [ren1, ren0]; cases idx order a <;> rfl
      rw [hr] at hi; exact h0 _ i hi
    | rf a b c =>
      have hr : refs1 (ren1 (idx order) (.rf a b c)) = refs0 (ren0 (idx order) (.rf a b c)) := by
        simp only [ren1, ren0]; cases idx order a <;> rfl
      rw [hr] at hi; exact h0 _ i hi
    | _ => simp [ren1, ren0, refs1, refs0] at hi
  intro i hi
  cases x with
  | tup vs =>
    obtain ⟨z, hz, hi⟩ := List.mem_flatMap.1 hi
    obtain ⟨z0, _, rfl⟩ := List.mem_map.1 hz
    exact h1 z0 i hi
  | ar a b c =>
    have hr : refs2 (ren2 (idx order) (.ar a b c)) = refs1 (ren1 (idx order) (.ar a b c)) := by
      simp only [ren2, ren1, ren0]; cases idx order a <;> rfl
    rw [hr] at hi; exact h1 _ i hi
  | rf a b c =>
    have hr : refs2 (ren2 (idx order) (.rf a b c)) = refs1 (ren1 (idx order) (.rf a b c)) := by
      simp only [ren2, ren1, ren0]; cases idx order a <;> rfl
    rw [hr] at hi; exact h1 _ i hi
  | agg cs => exact h1 (.agg cs) i hi
  | cl f cs => exact h1 (.cl f cs) i hi
  | _ => simp [ren2, ren1, ren0, refs2, refs1, refs0] at hi

abbrev SS (w0 : World) (U A : Nat → Prop) (E0 : Env) (G0 : Nat → Prop) (hp0 : Hp) (e nt : Nat) (st : St) (a : Act) (w : World) : Prop :=
  SB w0 U A E0 G0 hp0 e nt (fun id => id < 16 * st.c) st.tm st.hp a w

theorem lk_get {α : Type} {d : α} {f : Nat → α} : ∀ (l : List Nat) (i : Nat), lk d (l.map fun s => (s, f s)) i = d ∨ lk d (l.map fun s => (s, f s)) i = f i
  | [], i => .inl rfl
  | k :: l, i => by
    simp only [List.map_cons, lk]
    by_cases h : i = k
    · subst h; simp
    · simp only [if_neg h]; exact lk_get l i

theorem canon0_sound {e nt : Nat} {keep : List Nat} {st : St} {K : St → Prop} {a : Act} (h : canon0 e keep st K) (hs : SS w0 U A E0 G0 hp0 e nt st a w) : ∃ st', K st' ∧ SS w0 U A E0 G0 hp0 e nt st' a w := by
  unfold canon0 at h
  split at h
  · rename_i order hcl
    obtain ⟨h1, h2, hK⟩ := h
    obtain ⟨c1, c2, _, _⟩ := close_spec st.hp 64 _ _ _ hcl (by simp) (fun id hid => by simp at hid)
    refine ⟨_, hK, ?_⟩
    obtain ⟨E, G, g1, g2, g3, g4, g5⟩ := hs.env
    have hlow : e ≤ order.length := by
      have := congrArg List.length h2
      simp only [List.length_take, List.length_range] at this
      omega
    refine ⟨hs.size, hs.defers, fun j hj => ?_, envOf E order, G, turn_inv g1 c1 c2, ?_, fun t => ?_, fun t id hid => ?_, g5.trans (turn_ext c1 c2 h2) fun _ h => h⟩
    · show j < 16 * 1
      omega
    · intro id k hk
      obtain ⟨q1, q2⟩ := turn_wf c2 id k hk
      exact ⟨show id < 16 * 1 by omega, fun j hj => show j < 16 * 1 by have := q2 j hj; omega⟩
    · rcases lk_get (d := V.any) (f := fun s => ren2 (idx order) (st.tm s)) keep t with h' | h'
      · show VR2 w _ _ G (lk _ _ t) _
        rw [h']; exact any_vr2
      · show VR2 w _ _ G (lk _ _ t) _
        rw [h']; exact (turn_in c2).vr2 (fun b hb => hb) (g3 t)
    · have hid : id ∈ refs2 (lk V.any (keep.map fun s => (s, ren2 (idx order) (st.tm s))) t) := hid
      rcases lk_get (d := V.any) (f := fun s => ren2 (idx order) (st.tm s)) keep t with h' | h'
      · rw [h'] at hid; simp [refs2, refs1, refs0] at hid
      · rw [h'] at hid
        have := refs2_ren_lt id hid
        show id < 16 * 1
        omega
  · exact h.elim

theorem normS_sound {e nt : Nat} {a : Act} : ∀ {keep : List (Nat × Mds)} {st st' : St}, normS keep st = some st' → SS w0 U A E0 G0 hp0 e nt st a w → SS w0 U A E0 G0 hp0 e nt st' a w
  | [], st, st', h, hs => by simp only [normS, Option.some.injEq] at h; subst h; exact hs
  | (s, m) :: l, st, st', h, hs => by
    simp only [normS] at h
    split at h
    · rename_i x hp n h1
      split at h
      · rename_i hn
        refine normS_sound h ?_
        obtain ⟨E, G, g1, g2, g3, g4, g5⟩ := hs.env
        obtain ⟨E', G', q1, q2, q3, q4, q5, _⟩ := normV_sound g1 g2 (g3 s) (g4 s) (fun i hi hB => by have : i < 16 * st.c := hB; omega) h1
        have hsub : ∀ i, (i < 16 * st.c ∨ (16 * st.c ≤ i ∧ i < 16 * st.c + n)) → i < 16 * (st.c + 1) := fun i hi => by omega
        refine ⟨hs.size, hs.defers, fun j hj => hsub j (.inl (hs.low j hj)), E', G', q1, q2.mono hsub, fun t => ?_, fun t id hid => ?_, g5.trans q3 fun j hj => hs.low j hj⟩
        · show VR2 w E' hp G' (upd st.tm s x t) _
          unfold upd
          split
          · rename_i ht; subst ht; exact q4
          · exact q3.v2 _ _ (g4 t) (g3 t)
        · have hid : id ∈ refs2 (upd st.tm s x t) := hid
          unfold upd at hid
          split at hid
          · exact hsub id (q5 id hid)
          · exact hsub id (.inl (g4 t id hid))
      · cases h
    · cases h

theorem canon_sound {e nt : Nat} {keep : List (Nat × Mds)} {st : St} {K : St → Prop} {a : Act} (h : canon e keep st K) (hs : SS w0 U A E0 G0 hp0 e nt st a w) : ∃ st', K st' ∧ SS w0 U A E0 G0 hp0 e nt st' a w := by
  unfold canon caseO at h
  split at h
  · rename_i st1 h1
    exact canon0_sound h (normS_sound h1 hs)
  · exact h.elim

theorem meet_sound {e nt : Nat} {j : Option (List (Nat × Mds))} {st : St} {K : St → Prop} {a : Act} (h : meet e j st K) (hs : SS w0 U A E0 G0 hp0 e nt st a w) : ∃ st', K st' ∧ SS w0 U A E0 G0 hp0 e nt st' a w := by
  unfold meet at h
  split at h
  · exact canon_sound h hs
  · exact ⟨st, h, hs⟩

theorem normR_sound : ∀ {ms : List Mds} {xs xs' : List V} {ys : List Value} {E : Env} {G : Nat → Prop} {hp hp' : Hp} {c c' : Nat}, HpInv w0 U A E G hp w → HpWf (fun i => i < 16 * c) hp → xs.length = ys.length →
    (∀ (i : Nat) (x : V) (y : Value), xs[i]? = some x → ys[i]? = some y → VR2 w E hp G x y) → (∀ x ∈ xs, ∀ i ∈ refs2 x, i < 16 * c) → normR ms xs hp c = some (xs', hp', c') →
    ∃ E' G', HpInv w0 U A E' G' hp' w ∧ Ext (fun i => i < 16 * c) E G hp w E' G' hp' w ∧ xs'.length = ys.length ∧ (∀ (i : Nat) (x : V) (y : Value), xs'[i]? = some x → ys[i]? = some y → VR2 w E' hp' G' x y)
  | [], [], xs', ys, E, G, hp, hp', c, c', hI, hw, hl, hv, hx, h => by
    simp only [normR, Option.some.injEq, Prod.mk.injEq] at h
    obtain ⟨rfl, rfl, rfl⟩ := h
    exact ⟨E, G, hI, Ext.refl _ _ _ _ _, hl, fun i x y hi => by simp at hi⟩
  | m :: ms, x :: xs, xs', ys, E, G, hp, hp', c, c', hI, hw, hl, hv, hx, h => by
    simp only [normR] at h
    split at h
    · rename_i z hp1 n h1
      split at h
      · rename_i hn
        split at h
        · rename_i zs hp2 c2 h2
          simp only [Option.some.injEq, Prod.mk.injEq] at h
          obtain ⟨rfl, rfl, rfl⟩ := h
          cases ys with
          | nil => simp at hl
          | cons y ys =>
            have hsub : ∀ i, (i < 16 * c ∨ (16 * c ≤ i ∧ i < 16 * c + n)) → i < 16 * (c + 1) := fun i hi => by omega
            obtain ⟨E1, G1, q1, q2, q3, q4, q5, _⟩ := normV_sound hI hw (hv 0 x y rfl rfl) (hx x (by simp)) (fun i hi hB => by have : i < 16 * c := hB; omega) h1
            obtain ⟨E2, G2, r1, r2, r3, r4⟩ := normR_sound q1 (q2.mono hsub) (by simpa using hl) (fun i x' y' hi hj => q3.v2 x' y' (hx x' (by simp [List.mem_of_getElem? hi])) (hv (i + 1) x' y' (by simpa using hi) (by simpa using hj))) (fun x' hx' i hi => hsub i (.inl (hx x' (by simp [hx']) i hi))) h2
            refine ⟨E2, G2, r1, q3.trans r2 fun i hi => hsub i (.inl hi), by simp [r3], fun i x' y' hi hj => ?_⟩
            cases i with
            | zero =>
              simp at hi hj
              subst hi; subst hj
              exact r2.v2 _ _ (fun i hi => hsub i (q5 i hi)) q4
            | succ i => exact r4 i x' y' (by simpa using hi) (by simpa using hj)
        · cases h
      · cases h
    · cases h
  | [], _ :: _, _, _, _, _, _, _, _, _, _, _, _, _, _, h => by simp [normR] at h
  | _ :: _, [], _, _, _, _, _, _, _, _, _, _, _, _, _, h => by simp [normR] at h

end Go.Proofs.Ytcmihlhmeonmfaa.Ev
