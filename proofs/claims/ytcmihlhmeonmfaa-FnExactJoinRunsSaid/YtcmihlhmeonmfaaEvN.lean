/- Slices are laid in one form where ways meet: what stood in memory stands there still. -/
import Derived.Test.YtcmihlhmeonmfaaEv22
namespace Go.Proofs.Ytcmihlhmeonmfaa.Ev
open Go
set_option linter.unusedVariables false
set_option linter.unusedSimpArgs false

variable {P : Program} {w w' w0 : World} {E E' E0 : Env} {hp hp' hp0 : Hp} {G G' G0 U A W F S : Nat → Prop} {B B' : Nat → Prop}

/-- What a turn of form leaves behind. -/
structure NS (w0 : World) (U A : Nat → Prop) (B : Nat → Prop) (b n : Nat) (E : Env) (G : Nat → Prop) (hp : Hp) (w : World) (hp' : Hp) (E' : Env) (G' : Nat → Prop) : Prop where
  inv : HpInv w0 U A E' G' hp' w
  wf : HpWf (fun i => B i ∨ (b ≤ i ∧ i < b + n)) hp'
  ext : Ext B E G hp w E' G' hp' w
  box : ∀ id k, B id → hp id = some k → k.kind = .box → hp' id = some k

theorem HpWf.mono (h : HpWf B hp) (hb : ∀ i, B i → B' i) : HpWf B' hp := fun id k hk => ⟨hb id (h id k hk).1, fun j hj => hb j ((h id k hk).2 j hj)⟩

theorem NS.refl (hI : HpInv w0 U A E G hp w) (hw : HpWf B hp) {b : Nat} : NS w0 U A B b 0 E G hp w hp E G :=
  ⟨hI, hw.mono fun _ h => .inl h, Ext.refl _ _ _ _ _, fun _ _ _ h _ => h⟩

theorem frz_im (hI : HpInv w0 U A E G hp w) {id lo n : Nat} {k : Blk} {y : Value} (hy : VR0 w E hp G (.ar id lo n) y) (hk : hp id = some k) (hkk : k.kind = .frz) : Rep w G (.im ((k.rows.take (lo + n)).drop lo)) y := by
  refine ar_im hI hy hk (fun b hb => ?_) (fun b hb => ?_)
  · have := hI.blk id k hk
    unfold BlkRel at this
    simp only [hkk] at this
    rcases this with ⟨_, h2⟩ | ⟨b', _, _, _, h1, h1', _⟩
    · rw [hb] at h2; cases h2
    · rw [hb] at h1; cases h1; exact h1'
  · rw [if_neg (by simp [hkk])] at hb; exact hb

theorem normC_sound {m : Md} {x x' : V} {y : Value} {b n : Nat} (hI : HpInv w0 U A E G hp w) (hw : HpWf B hp) (hv : VR0 w E hp G x y) (hx : ∀ i ∈ refs0 x, B i) (hb : ∀ i, b ≤ i → ¬ B i) (h : normC m x hp b = some (x', hp', n)) :
    ∃ E' G', NS w0 U A B b n E G hp w hp' E' G' ∧ VR0 w E' hp' G' x' y ∧ (∀ i ∈ refs0 x', B i ∨ (b ≤ i ∧ i < b + n)) := by
  unfold normC at h
  split at h
  · cases h; exact ⟨E, G, NS.refl hI hw, hv, fun i hi => .inl (hx i hi)⟩
  · rename_i ty size deep
    split at h
    · cases h
      have hfr : hp b = none := HpInv.fresh hw (hb b (Nat.le_refl _))
      obtain ⟨g1, g2⟩ := hI.add hw (hb b (Nat.le_refl _)) (Fr.refl (fun _ => False) w) Loose.none (fun _ h => h.elim) (arrOf ty size deep []) none (fun _ => False) (fun _ h => by cases h) (fun _ h => h.elim) (by
        unfold BlkRel arrOf
        exact .inl ⟨rfl, by simp [upd]⟩)
      refine ⟨_, _, ⟨g1, fun id k hk => ?_, g2, fun id k hid hk _ => ?_⟩, ?_, fun i hi => ?_⟩
      · by_cases hid : id = b
        · subst hid
          simp only [upd, if_true, Option.some.injEq] at hk
          subst hk
          exact ⟨.inr ⟨Nat.le_refl _, by omega⟩, fun j hj => by simp [refsB, arrOf] at hj⟩
        · simp only [upd, if_neg hid] at hk
          exact ⟨.inl (hw id k hk).1, fun j hj => .inl ((hw id k hk).2 j hj)⟩
      · have : id ≠ b := fun he => hb b (Nat.le_refl _) (he ▸ hid)
        simp only [upd, if_neg this]; exact hk
      · cases hv with
        | em a =>
          refine ⟨a, 0, rfl, fun k hk => ?_⟩
          simp only [upd, if_true, Option.some.injEq] at hk
          subst hk
          exact ⟨by simp [arrOf], by simp [arrOf], .inl ⟨rfl, rfl⟩⟩
      · simp only [refs0, List.mem_singleton] at hi
        subst hi
        exact .inr ⟨Nat.le_refl _, by omega⟩
    · split at h
      · split at h
        · cases h; exact ⟨E, G, NS.refl hI hw, hv, fun i hi => .inl (hx i hi)⟩
        · cases h
      · cases h
    · cases h
  · split at h
    · cases h
      refine ⟨E, G, NS.refl hI hw, ?_, fun i hi => by simp [refs0] at hi⟩
      cases hv with
      | em a => exact Rep.im0 a 0
    · cases h; exact ⟨E, G, NS.refl hI hw, hv, fun i hi => .inl (hx i hi)⟩
    · rename_i id lo n'
      split at h
      · rename_i k hk
        have key : ∀ rows, some (V.im rows, freeze hp [id], 0) = some (x', hp', n) → rows = (k.rows.take (lo + n')).drop lo → k.kind ≠ .box → ∃ E' G', NS w0 U A B b n E G hp w hp' E' G' ∧ VR0 w E' hp' G' x' y ∧ (∀ i ∈ refs0 x', B i ∨ (b ≤ i ∧ i < b + n)) := by
          intro rows h hr hkb
          cases h
          obtain ⟨G1, h1, h2, h3, h4⟩ := hI.freezeL (B := B) [id]
          refine ⟨E, G1, ⟨h1, (hw.freeze [id]).mono fun _ h => .inl h, h2, fun j kj hj hkj hkk => ?_⟩, ?_, fun i hi => by simp [refs0] at hi⟩
          · by_cases hji : j = id
            · subst hji; rw [hk] at hkj; cases hkj; exact absurd hkk hkb
            · rw [freeze_other _ _ _ (by simpa using hji)]; exact hkj
          · have hk' : freeze hp [id] id = some { k with kind := .frz } := by
              simp only [freeze, upd, if_true, hk, Option.map_some, Option.some.injEq]
              cases hkk : k.kind with
              | box => exact absurd hkk hkb
              | arr => rfl
              | frz => rfl
            have := frz_im h1 (h2.v0 _ _ hx hv) hk' rfl
            rw [hr]
            exact this
        split at h
        · cases h
        · rename_i hkb; exact key _ h rfl (fun he => hkb he)
      · cases h
    · cases h

theorem NS.trans {hp1 hp2 : Hp} {E1 E2 : Env} {G1 G2 : Nat → Prop} {b n k : Nat} (h : NS w0 U A B b n E G hp w hp1 E1 G1) (g : NS w0 U A (fun i => B i ∨ (b ≤ i ∧ i < b + n)) (b + n) k E1 G1 hp1 w hp2 E2 G2) : NS w0 U A B b (n + k) E G hp w hp2 E2 G2 :=
  ⟨g.inv, g.wf.mono fun i hi => by rcases hi with (hi | hi) | hi; exact .inl hi; exact .inr ⟨hi.1, by omega⟩; exact .inr ⟨by omega, by omega⟩, h.ext.trans g.ext fun _ h => .inl h, fun id k' hid hk hkk => g.box id k' (.inl hid) (h.box id k' hid hk hkk) hkk⟩

theorem normL_sound : ∀ {ms : List Md} {xs xs' : List V} {ys : List Value} {E : Env} {G B : Nat → Prop} {hp hp' : Hp} {b n : Nat}, HpInv w0 U A E G hp w → HpWf B hp → VL (VR0 w E hp G) xs ys → (∀ i ∈ xs.flatMap refs0, B i) → (∀ i, b ≤ i → ¬ B i) → normL ms xs hp b = some (xs', hp', n) →
    ∃ E' G', NS w0 U A B b n E G hp w hp' E' G' ∧ VL (VR0 w E' hp' G') xs' ys ∧ (∀ i ∈ xs'.flatMap refs0, B i ∨ (b ≤ i ∧ i < b + n))
  | [], [], xs', ys, E, G, B, hp, hp', b, n, hI, hw, hv, hx, hb, h => by
    simp only [normL, Option.some.injEq, Prod.mk.injEq] at h
    obtain ⟨rfl, rfl, rfl⟩ := h
    exact ⟨E, G, NS.refl hI hw, hv, fun i hi => by simp at hi⟩
  | m :: ms, x :: xs, xs', ys, E, G, B, hp, hp', b, n, hI, hw, hv, hx, hb, h => by
    simp only [normL] at h
    split at h
    · rename_i z hp1 k1 h1
      split at h
      · rename_i zs hp2 k2 h2
        simp only [Option.some.injEq, Prod.mk.injEq] at h
        obtain ⟨rfl, rfl, rfl⟩ := h
        cases ys with
        | nil => exact hv.elim
        | cons y ys =>
          obtain ⟨E1, G1, s1, v1, r1⟩ := normC_sound hI hw hv.1 (fun i hi => hx i (by simp [hi])) hb h1
          have hx2 : ∀ i ∈ xs.flatMap refs0, B i := fun i hi => hx i (by rw [List.flatMap_cons]; exact List.mem_append_right _ hi)
          obtain ⟨E2, G2, s2, v2, r2⟩ := normL_sound s1.inv s1.wf (hv.2.mono fun x hxm y hxy => s1.ext.v0 x y (fun i hi => hx2 i (List.mem_flatMap.2 ⟨x, hxm, hi⟩)) hxy) (fun i hi => .inl (hx2 i hi))
            (fun i hi hB => by rcases hB with hB | hB; exact hb i (by omega) hB; omega) h2
          refine ⟨E2, G2, s1.trans s2, ⟨s2.ext.v0 z y r1 v1, v2⟩, fun i hi => ?_⟩
          rw [List.flatMap_cons] at hi
          rcases List.mem_append.1 hi with hi | hi
          · rcases r1 i hi with h | h
            · exact .inl h
            · exact .inr ⟨h.1, by omega⟩
          · rcases r2 i hi with (h | h) | h
            · exact .inl h
            · exact .inr ⟨h.1, by omega⟩
            · exact .inr ⟨by omega, by omega⟩
      · cases h
    · cases h
  | [], _ :: _, _, _, _, _, _, _, _, _, _, _, _, _, _, _, h => by simp [normL] at h
  | _ :: _, [], _, _, _, _, _, _, _, _, _, _, _, _, _, _, h => by simp [normL] at h

/-- The cells of a box told otherwise: memory is as it was. -/
theorem box_retell (hI : HpInv w0 U A E G hp w) (hw : HpWf B hp) {id : Nat} {k : Blk} {row cs : List V} (hk : hp id = some k) (hkk : k.kind = .box) (hrow : k.rows = [row]) (hok : cs.all okCell = true)
    (hcs : ∀ b cur, E.m id = some b → w.heap[b]? = some (.cells cur k.ty (0, 0)) → VL (VR0 w E hp G) cs cur.toList) (hB : ∀ i ∈ cs.flatMap refs0, B i) :
    HpInv w0 U A E G (upd hp id (some { k with rows := [cs] })) w ∧ HpWf B (upd hp id (some { k with rows := [cs] })) ∧ Ext B E G hp w E G (upd hp id (some { k with rows := [cs] })) w := by
  have hl : liveB k = true := by simp [liveB, hkk]
  have hsub : ∀ j kj, upd hp id (some { k with rows := [cs] }) j = some kj → ∃ kj', hp j = some kj' ∧ kj.kind = kj'.kind ∧ kj.size = kj'.size ∧ kj.rows.length = kj'.rows.length ∧ (j ≠ id → kj = kj') := by
    intro j kj hj
    by_cases hji : j = id
    · subst hji
      simp only [upd, if_true, Option.some.injEq] at hj
      subst hj
      exact ⟨k, hk, rfl, rfl, by simp [hrow], fun h => absurd rfl h⟩
    · simp only [upd, if_neg hji] at hj
      exact ⟨kj, hj, rfl, rfl, rfl, fun _ => rfl⟩
  have hlv : ∀ j kj, upd hp id (some { k with rows := [cs] }) j = some kj → liveB kj = true → ∃ kj', hp j = some kj' ∧ liveB kj' = true := by
    intro j kj hj h1
    obtain ⟨kj', h2, h3, _⟩ := hsub j kj hj
    exact ⟨kj', h2, by unfold liveB at h1 ⊢; rw [← h3]; exact h1⟩
  have hv : ∀ x y, VR0 w E hp G x y → VR0 w E (upd hp id (some { k with rows := [cs] })) G x y := by
    intro x y hv
    cases x with
    | ar j lo n =>
      obtain ⟨a, cap, hy, hr⟩ := hv
      refine ⟨a, cap, hy, fun kj hj => ?_⟩
      obtain ⟨kj', h1, h2, h3, h4, _⟩ := hsub j kj hj
      obtain ⟨r1, r2, r3⟩ := hr kj' h1
      exact ⟨by rw [h2]; exact r1, by rw [h4]; exact r2, by rw [h3]; exact r3⟩
    | rf j r c =>
      obtain ⟨b', o, hy, hr⟩ := hv
      refine ⟨b', o, hy, fun kj hj => ?_⟩
      obtain ⟨kj', h1, h2, h3, h4, _⟩ := hsub j kj hj
      obtain ⟨r2, r3⟩ := hr kj' h1
      exact ⟨r2, by rw [h3]; exact r3⟩
    | ir row c => exact hv
    | v a => exact hv
    | em => exact hv
    | im rows => exact hv
    | any => exact trivial
    | agg cs => exact hv.elim
    | tup vs => exact hv.elim
    | cl f caps => cases caps <;> exact hv
  refine ⟨⟨hI.fr, hI.g1, ?_, ?_, ?_, ?_, ?_⟩, ?_, ⟨fun x y _ hx => hv x y hx⟩⟩
  · rintro x hx ⟨j, kj, hj, hlj, ho⟩
    obtain ⟨kj', h1, h2⟩ := hlv j kj hj hlj
    exact hI.g2 x hx ⟨j, kj', h1, h2, ho⟩
  · rintro x ⟨j, kj, hj, hlj, ho⟩
    obtain ⟨kj', h1, h2⟩ := hlv j kj hj hlj
    exact hI.o1 x ⟨j, kj', h1, h2, ho⟩
  · intro j kj j' kj' hj hlj hj' hlj' x ho ho'
    obtain ⟨q, h1, h2⟩ := hlv j kj hj hlj
    obtain ⟨q', h1', h2'⟩ := hlv j' kj' hj' hlj'
    exact hI.dis j q j' q' h1 h2 h1' h2' x ho ho'
  · intro j kj x hj hlj
    obtain ⟨q, h1, h2⟩ := hlv j kj hj hlj
    exact hI.self j q x h1 h2
  · intro j kj hj
    by_cases hji : j = id
    · subst hji
      simp only [upd, if_true, Option.some.injEq] at hj
      subst hj
      have hb := hI.blk j k hk
      unfold BlkRel at hb ⊢
      simp only [hkk] at hb ⊢
      obtain ⟨b', row', cur, h1, h2, h3, h4, h5, h6⟩ := hb
      rw [hrow] at h3
      cases h3
      have hc := hcs _ _ h1 h2
      have hlen := hc.length
      have hlen' := h6.length
      refine ⟨b', cs, cur, h1, h2, rfl, by omega, h5, VL.of_get hlen fun i x u hi hu => ⟨?_, ?_⟩⟩
      · obtain ⟨u', hu', hr⟩ := hc.get i x hi
        rw [hu] at hu'
        cases hu'
        have := hv _ _ hr
        rw [hkk] at this
        exact this
      · have hi2 : i < row.length := by have := (List.getElem?_eq_some_iff.1 hi).1; omega
        obtain ⟨u', hu', hr⟩ := h6.get i (row[i]'hi2) (List.getElem?_eq_getElem hi2)
        rw [hu] at hu'
        cases hu'
        exact hr.2
    · have hjx : hp j = some kj := by simpa only [upd, if_neg hji] using hj
      have hbj := hI.blk j kj hjx
      unfold BlkRel at hbj ⊢
      cases hlk : kj.kind with
      | box =>
        simp only [hlk] at hbj ⊢
        obtain ⟨b', row, cur, h1, h2, h3, h4, h5, h6⟩ := hbj
        exact ⟨b', row, cur, h1, h2, h3, h4, h5, h6.mono fun x _ y hxy => ⟨hv x y hxy.1, hxy.2⟩⟩
      | arr => simp only [hlk] at hbj ⊢; exact hbj
      | frz => simp only [hlk] at hbj ⊢; exact hbj
  · intro j kj hj
    by_cases hji : j = id
    · subst hji
      simp only [upd, if_true, Option.some.injEq] at hj
      subst hj
      refine ⟨(hw j k hk).1, fun i hi => ?_⟩
      unfold refsB at hi
      simp only [hkk, List.flatMap_cons, List.flatMap_nil, List.append_nil] at hi
      exact hB i hi
    · exact hw j kj (by simpa only [upd, if_neg hji] using hj)

theorem normV_sound {m : Mds} {x x' : V} {y : Value} {b n : Nat} (hI : HpInv w0 U A E G hp w) (hw : HpWf B hp) (hv : VR2 w E hp G x y) (hx : ∀ i ∈ refs2 x, B i) (hb : ∀ i, b ≤ i → ¬ B i) (h : normV m x hp b = some (x', hp', n)) :
    ∃ E' G', HpInv w0 U A E' G' hp' w ∧ HpWf (fun i => B i ∨ (b ≤ i ∧ i < b + n)) hp' ∧ Ext B E G hp w E' G' hp' w ∧ VR2 w E' hp' G' x' y ∧ (∀ i ∈ refs2 x', B i ∨ (b ≤ i ∧ i < b + n)) ∧ (notTup x = true → notTup x' = true) := by
  unfold normV at h
  split at h
  · rename_i m
    have key : (∀ x', normC m x hp b = some (x', hp', n) → (VR0 w E hp G x y ∧ ∀ i ∈ refs0 x, B i) ∧ ∀ E' G', VR0 w E' hp' G' x' y → VR2 w E' hp' G' x' y ∧ refs2 x' = refs0 x' ∧ notTup x' = true) → normC m x hp b = some (x', hp', n) →
        ∃ E' G', HpInv w0 U A E' G' hp' w ∧ HpWf (fun i => B i ∨ (b ≤ i ∧ i < b + n)) hp' ∧ Ext B E G hp w E' G' hp' w ∧ VR2 w E' hp' G' x' y ∧ (∀ i ∈ refs2 x', B i ∨ (b ≤ i ∧ i < b + n)) ∧ (notTup x = true → notTup x' = true) := by
      intro hk h
      obtain ⟨⟨k1, k2⟩, k3⟩ := hk x' h
      obtain ⟨E', G', h1, h2, h3⟩ := normC_sound hI hw k1 k2 hb h
      obtain ⟨q1, q2, q3⟩ := k3 E' G' h2
      exact ⟨E', G', h1.inv, h1.wf, h1.ext, q1, by rw [q2]; exact h3, fun _ => q3⟩
    cases m with
    | keep =>
      simp only [normC, Option.some.injEq, Prod.mk.injEq] at h
      obtain ⟨rfl, rfl, rfl⟩ := h
      exact ⟨E, G, hI, hw.mono fun _ h => .inl h, Ext.refl _ _ _ _ _, hv, fun i hi => .inl (hx i hi), fun h => h⟩
    | own ty size deep =>
      refine key (fun x' h => ?_) h
      simp only [normC] at h
      split at h
      · cases h; exact ⟨⟨hv, hx⟩, fun E' G' h => ⟨h, rfl, rfl⟩⟩
      · split at h
        · split at h
          · cases h; exact ⟨⟨hv, hx⟩, fun E' G' h => ⟨h, rfl, rfl⟩⟩
          · cases h
        · cases h
      · cases h
    | im =>
      refine key (fun x' h => ?_) h
      simp only [normC] at h
      split at h
      · cases h; exact ⟨⟨hv, hx⟩, fun E' G' h => ⟨h, rfl, rfl⟩⟩
      · cases h; exact ⟨⟨hv, hx⟩, fun E' G' h => ⟨h, rfl, rfl⟩⟩
      · split at h
        · split at h
          · cases h
          · cases h; exact ⟨⟨hv, hx⟩, fun E' G' h => ⟨h, rfl, rfl⟩⟩
        · cases h
      · cases h
  · rename_i l
    split at h
    · rename_i cs
      simp only [Option.map_eq_some_iff] at h
      obtain ⟨⟨ys, hp1, k⟩, h1, h2⟩ := h
      cases h2
      obtain ⟨us, rfl, hl⟩ := hv
      obtain ⟨E', G', q1, q2, q3⟩ := normL_sound hI hw hl hx hb h1
      exact ⟨E', G', q1.inv, q1.wf, q1.ext, ⟨us, rfl, q2⟩, q3, fun _ => rfl⟩
    · cases h
  · rename_i l
    split at h
    · rename_i id r c
      split at h
      · rename_i k hk
        split at h
        · rename_i row hkk hrow
          split at h
          · rename_i cs hp1 n1 h1
            split at h
            · rename_i hok
              cases h
              have hBid : B id := hx id (by simp [refs2, refs1, refs0])
              have hblk := hI.blk id k hk
              have hblk' := hblk
              unfold BlkRel at hblk
              simp only [hkk] at hblk
              obtain ⟨b', row', cur, g1, g2, g3, g4, g5, g6⟩ := hblk
              rw [hrow] at g3
              cases g3
              have hrefs : ∀ i ∈ row.flatMap refs0, B i := fun i hi => (hw id k hk).2 i (by
                unfold refsB
                simp only [hkk, hrow, List.flatMap_cons, List.flatMap_nil, List.append_nil]
                exact hi)
              obtain ⟨E1, G1, s1, v1, r1⟩ := normL_sound hI hw (g6.mono fun x _ y h => h.1) hrefs hb h1
              have hk1 : hp1 id = some k := s1.box id k hBid hk hkk
              have hm1 : E1.m id = some b' := by
                have h1 := s1.ext.v0 (.rf id 0 0) (.pointer (some ⟨b', 0, none⟩)) (fun i hi => by simp [refs0] at hi; subst hi; exact hBid) ⟨b', 0, rfl, fun k' hk' => by rw [hk] at hk'; cases hk'; exact ⟨g1, by simp⟩⟩
                obtain ⟨b2, o2, e2, f2⟩ := h1
                cases e2
                exact (f2 k hk1).1
              obtain ⟨t1, t2, t3⟩ := box_retell s1.inv s1.wf hk1 hkk hrow hok (fun b2 cur2 hb2 hc2 => by
                rw [hm1] at hb2
                cases hb2
                rw [g2] at hc2
                cases hc2
                exact v1) r1
              exact ⟨E1, G1, t1, t2, s1.ext.trans t3 fun _ h => .inl h, (s1.ext.trans t3 fun _ h => .inl h).v2 _ _ hx hv, fun i hi => .inl (hx i hi), fun _ => rfl⟩
            · cases h
          · cases h
        · cases h
      · cases h
    · cases h

end Go.Proofs.Ytcmihlhmeonmfaa.Ev
